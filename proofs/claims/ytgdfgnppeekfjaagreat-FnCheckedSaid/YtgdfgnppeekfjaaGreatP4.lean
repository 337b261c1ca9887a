import Derived.Test.YtgdfgnppeekfjaaGreatP2
import Derived.Test.YtgdfgnppeekfjaaGreatP1
import Derived.Test.YtgdfgnppeekfjaaGreatP3
import Derived.Test.YtgdfgnppeekfjaaGreatVmX
section
/- What a program tells. Plain. No conditions. -/
namespace Go.Proofs.YtgdfgnppeekfjaaGreat.Vm
set_option linter.unusedSimpArgs false
set_option linter.unusedVariables false

/-- Where a run is. -/
structure RunS where
  vals : List Int
  cells : List Int
  reads : List Int
  told : List Int
  path : List Int
def RunS.get (s : RunS) (v : Int) : Int := s.vals.getD v.toNat 0
def RunS.put (s : RunS) (v x : Int) : RunS := { s with vals := s.vals.set v.toNat x }
/-- A place of a list: a code, and where the run is then. -/
def insGo (s : RunS) (x : InsR) : Int × RunS :=
  if wordOk x.op = true then (0, s.put x.d (wordF x.op (s.get x.a) (s.get x.b)))
  else if x.op = 20 then (0, s.put x.d x.n)
  else if x.op = 25 then (0, s.put x.d (s.get x.a))
  else if x.op = 21 then (if inB (s.get x.a) 0 7 = true then (0, s.put x.d (s.cells.getD (s.get x.a).toNat 0)) else (2, s))
  else if x.op = 22 then (if inB (s.get x.a) 0 7 = true then (0, { s with cells := s.cells.set (s.get x.a).toNat (s.get x.b) }) else (2, s))
  else if x.op = 23 then (0, { s with told := s.told ++ [s.get x.a] })
  else if x.op = 24 then (0, { s.put x.d (s.reads.headD 0) with reads := s.reads.tail })
  else (0, s)
/-- A list, with so much fuel: a code, the fuel that is left, where the run is then. -/
def listGo : List InsR → Nat → RunS → Int × Nat × RunS
  | [], φ, s => (0, φ, s)
  | _ :: _, 0, s => (1, 0, s)
  | x :: r, φ + 1, s => if (insGo s x).1 = 0 then listGo r φ (insGo s x).2 else ((insGo s x).1, φ, (insGo s x).2)
def armGo (was : List Int) (fr d : Int) (vs : List Int) (a : ArmR) : List Int := if a.fr = fr then vs.set d.toNat (was.getD a.v.toNat 0) else vs
def phiGo (was : List Int) (fr : Int) (vs : List Int) (p : PhiR) : List Int := p.arms.foldl (armGo was fr p.d) vs
def phisGo (ps : List PhiR) (fr : Int) (was : List Int) : List Int := ps.foldl (phiGo was fr) was
def comeGo (b : Nat) (fr : Int) (ps : List PhiR) (s : RunS) : RunS := { s with vals := phisGo ps fr s.vals, path := s.path ++ [(b : Int)] }
def nextGo (t : TrmR) (s : RunS) : Int := if t.kind = 2 ∧ s.get t.a = 0 then t.els else t.to
def blk0 : BlkR := ⟨[], [], ⟨0, 0, 0, 0⟩⟩
/-- From a block on: a code, what the end is, where the run is then. -/
def runGo (bs : List BlkR) : Nat → Nat → Nat → Int → RunS → Int × Int × RunS
  | 0, _, _, _, s => (1, 0, s)
  | n + 1, φ, b, fr, s =>
    let r := listGo (bs.getD b blk0).list φ (comeGo b fr (bs.getD b blk0).phis s)
    if r.1 = 0 then
      (if r.2.1 = 0 then (1, 0, r.2.2)
      else if (bs.getD b blk0).term.kind = 3 then (0, r.2.2.get (bs.getD b blk0).term.a, r.2.2) else runGo bs n (r.2.1 - 1) (nextGo (bs.getD b blk0).term r.2.2).toNat (b : Int) r.2.2)
    else (r.1, 0, r.2.2)
def initS (values : Int) (reads : List Int) : RunS := ⟨List.replicate values.toNat 0, List.replicate 8 0, reads, [], []⟩
def runW (f : FnR) (reads : List Int) (fuel : Int) : Int × Int × RunS :=
  if shapeB f = true ∧ 0 ≤ fuel then runGo f.blocks ((min fuel 5000).toNat + 1) (min fuel 5000).toNat 0 (-1) (initS f.values reads)
  else (3, 0, ⟨[], [], [], [], []⟩)

/-! ### What holds of it all along -/
structure RunOk (n : Nat) (s : RunS) : Prop where
  vals : s.vals.length = n
  cells : s.cells.length = 8
theorem RunS.put_len (s : RunS) (v x : Int) : (s.put v x).vals.length = s.vals.length := by simp [RunS.put]
theorem initS_ok (m : Int) (reads : List Int) : RunOk m.toNat (initS m reads) := ⟨by simp [initS], by simp [initS]⟩
/-- The fuel goes down. -/
theorem listGo_fuel : ∀ (xs : List InsR) (φ : Nat) (s : RunS), (listGo xs φ s).2.1 ≤ φ := by
  intro xs
  induction xs with
  | nil => intro φ s; exact Nat.le_refl _
  | cons x r ih =>
    intro φ s
    cases φ with
    | zero => exact Nat.le_refl _
    | succ φ =>
      simp only [listGo]
      split
      · exact Nat.le_succ_of_le (ih _ _)
      · exact Nat.le_succ _
/-- More rounds than fuel are not needed. -/
theorem runGo_more (bs : List BlkR) : ∀ (n m φ b : Nat) (fr : Int) (s : RunS), φ < n → φ < m → runGo bs n φ b fr s = runGo bs m φ b fr s := by
  intro n
  induction n with
  | zero => intro m φ b fr s h; omega
  | succ n ih =>
    intro m φ b fr s h1 h2
    cases m with
    | zero => omega
    | succ m =>
      simp only [runGo]
      have hf := listGo_fuel (bs.getD b blk0).list φ (comeGo b fr (bs.getD b blk0).phis s)
      generalize listGo (bs.getD b blk0).list φ (comeGo b fr (bs.getD b blk0).phis s) = r at hf ⊢
      obtain ⟨c, φ', s'⟩ := r
      simp only at hf ⊢
      by_cases h0 : φ' = 0
      · simp only [h0, if_true]
      · simp only [if_neg h0, ih m (φ' - 1) _ _ _ (by omega) (by omega)]
theorem blk_at {bs : List BlkR} {b : Nat} (h : b < bs.length) : bs.getD b blk0 = bs[b] := by simp [List.getD_eq_getElem?_getD, h]

/-! ### Each place, by what it is -/
theorem insB_word {x : InsR} {m : Int} (h : insB x m = true) (hw : wordOk x.op = true) : valB x.d m = true ∧ valB x.a m = true ∧ valB x.b m = true := by
  unfold insB at h; rw [if_pos hw] at h
  simp only [Bool.and_eq_true] at h; exact ⟨h.1.1.1, h.1.1.2, h.1.2⟩
theorem op_word {op : Int} (h : wordOk op = true) : ¬ op = 20 ∧ ¬ op = 21 ∧ ¬ op = 22 ∧ ¬ op = 23 ∧ ¬ op = 24 ∧ ¬ op = 25 := by
  have := of_decide_eq_true h
  omega
/-- Six kinds and the words. -/
theorem ins_kinds {x : InsR} {m : Int} (h : insB x m = true) : wordOk x.op = true ∨ (wordOk x.op = false ∧ (x.op = 20 ∨ x.op = 21 ∨ x.op = 22 ∨ x.op = 23 ∨ x.op = 24 ∨ x.op = 25)) := by
  cases hw : wordOk x.op with
  | true => exact .inl rfl
  | false =>
    refine .inr ⟨rfl, ?_⟩
    unfold insB at h
    rw [hw] at h
    simp only [Bool.false_eq_true, if_false] at h
    by_cases h1 : x.op = 20
    · exact .inl h1
    · rw [if_neg h1] at h
      by_cases h2 : x.op = 21 ∨ x.op = 25
      · rcases h2 with h2 | h2
        · exact .inr (.inl h2)
        · exact .inr (.inr (.inr (.inr (.inr h2))))
      · rw [if_neg h2] at h
        by_cases h3 : x.op = 22
        · exact .inr (.inr (.inl h3))
        · rw [if_neg h3] at h
          by_cases h4 : x.op = 23
          · exact .inr (.inr (.inr (.inl h4)))
          · rw [if_neg h4] at h
            by_cases h5 : x.op = 24
            · exact .inr (.inr (.inr (.inr (.inl h5))))
            · rw [if_neg h5] at h; cases h
theorem val_nat {v m : Int} (h : valB v m = true) : ∃ k : Nat, v = k ∧ k < m.toNat := by
  have := of_decide_eq_true h
  exact ⟨v.toNat, by omega, by omega⟩
theorem RunS.get_at {n : Nat} {s : RunS} (h : RunOk n s) {v : Nat} (hv : v < n) : s.vals[v]? = some (s.get v) := by
  have := h.vals
  simp [RunS.get, List.getD_eq_getElem?_getD, show v < s.vals.length by omega]
end Go.Proofs.YtgdfgnppeekfjaaGreat.Vm
end
section
/- A run as it lies in memory: the same on both sides. No conditions. -/
namespace Go.Proofs.YtgdfgnppeekfjaaGreat.Vm
open Go.RowKit (wrap64)
set_option linter.unusedSimpArgs false
set_option linter.unusedVariables false

/-- What an object is for: 1 the run, 2 its values, 3 its cells, 4 what was told, 5 the path; 0 any other. -/
abbrev RK := Nat → Nat
def RK.new (κ : RK) (lo hi k : Nat) : RK := fun id => if lo ≤ id ∧ id < hi then k else κ id
theorem RK.new_lo (κ : RK) {lo hi k id : Nat} (h : id < lo) : κ.new lo hi k id = κ id := by unfold RK.new; rw [if_neg (by omega)]
theorem RK.new_hi (κ : RK) {lo hi k id : Nat} (h : hi ≤ id) : κ.new lo hi k id = κ id := by unfold RK.new; rw [if_neg (by omega)]
theorem RK.new_in (κ : RK) {lo hi k id : Nat} (h : lo ≤ id) (h' : id < hi) : κ.new lo hi k id = k := by unfold RK.new; rw [if_pos ⟨h, h'⟩]
def layR (side : Bool) (v : CV) (m e : Int) (vv cv rv tv pv : CV) (fu : Int) : List CV :=
  if side = true then [v, .i m, vv, cv, rv, .i fu, tv, pv, .i e] else [vv, cv, rv, tv, pv, .i fu]
def szR (side : Bool) : Nat := if side = true then 9 else 6
/-- The parts of a run. -/
structure RP (side : Bool) (v : CV) (m : Int) (n : Nat) (κ : RK) (X : Hp) (c : Nat) (e : Int) (s : RunS) (fu : Int) (vi gv ci : Nat) (rv tv pv : CV) : Prop where
  ok : RunOk n s
  ob : rdOb X c 0 = some ⟨layR side v m e (.sl vi gv 0 n) (.sl ci 0 0 8) rv tv pv fu, 0, true, szR side⟩
  kc : κ c = 1
  kv : κ vi = 2
  ki : κ ci = 3
  vals : rdOb X vi gv = some ⟨s.vals.map .i, gv, true, 1⟩
  cells : rdOb X ci 0 = some ⟨s.cells.map .i, 0, true, 1⟩
  reads : IsI X rv s.reads
  kr : ∀ id g off k, rv = .sl id g off k → κ id = 0
  told : OutR X tv s.told
  kt : ∀ id, IsOut tv id → κ id = 4
  path : OutR X pv s.path
  kp : ∀ id, IsOut pv id → κ id = 5
  fr : ∀ id, X.length ≤ id → κ id = 0
/-- What is no part of the run stays. -/
structure Fr (κ κ' : RK) (X Y : Hp) : Prop where
  le : X.length ≤ Y.length
  same : ∀ id, id < X.length → κ' id = κ id
  keep : ∀ id g o, κ id = 0 → rdOb X id g = some o → rdOb Y id g = some o
def RInv (side : Bool) (v : CV) (m : Int) (n : Nat) (κ : RK) (X : Hp) (c : Nat) (e : Int) (s : RunS) (fu : Int) : Prop :=
  ∃ vi gv ci rv tv pv, RP side v m n κ X c e s fu vi gv ci rv tv pv
theorem Fr.refl (κ : RK) (X : Hp) : Fr κ κ X X := ⟨Nat.le_refl _, fun _ _ => rfl, fun _ _ _ _ h => h⟩
theorem Fr.trans {κ κ' κ'' : RK} {X Y Z : Hp} (h : Fr κ κ' X Y) (k : Fr κ' κ'' Y Z) : Fr κ κ'' X Z :=
  ⟨Nat.le_trans h.le k.le, fun id hi => (k.same id (Nat.lt_of_lt_of_le hi h.le)).trans (h.same id hi), fun id g o h0 ho => k.keep id g o (by rw [h.same id (rdOb_lt ho)]; exact h0) (h.keep id g o h0 ho)⟩
theorem Fr.app (κ : RK) (X L : Hp) : Fr κ κ X (X ++ L) := ⟨by simp, fun _ _ => rfl, fun _ _ _ _ h => rdOb_app L h⟩
theorem Fr.set {κ : RK} {X : Hp} {i : Nat} (h : κ i ≠ 0) (o : Ob) : Fr κ κ X (X.set i o) := ⟨by simp, fun _ _ => rfl, fun id g ob h0 ho => by rw [rdOb_set_ne (fun e => h (by rw [← e]; exact h0))]; exact ho⟩
theorem Fr.pre {H X Y : Hp} {κ κ' : RK} (h : Fr κ κ' X Y) (hp : Pre H X) (hk : ∀ id, id < H.length → κ id = 0) : Pre H Y :=
  Low.pre (lo := H.length) (fun id g o hi ho => h.keep id g o (hk id hi) ho) hp (Nat.le_refl _)
theorem Fr.isI {X Y : Hp} {κ κ' : RK} (h : Fr κ κ' X Y) {w : CV} {xs : List Int} (hw : IsI X w xs) (hk : ∀ id g off k, w = .sl id g off k → κ id = 0) : IsI Y w xs := by
  rcases hw with hw | ⟨id, g, off, o, rfl, h2, h3⟩
  · exact .inl hw
  · exact .inr ⟨id, g, off, o, rfl, h.keep _ _ _ (hk _ _ _ _ rfl) h2, h3⟩
section
variable {side : Bool} {v : CV} {m e : Int} {n : Nat} {κ : RK} {X : Hp} {c : Nat} {s : RunS} {fu : Int} {vi gv ci : Nat} {rv tv pv : CV}
theorem RP.app (h : RP side v m n κ X c e s fu vi gv ci rv tv pv) (L : Hp) : RP side v m n κ (X ++ L) c e s fu vi gv ci rv tv pv :=
  ⟨h.ok, rdOb_app L h.ob, h.kc, h.kv, h.ki, rdOb_app L h.vals, rdOb_app L h.cells, Sl.app L h.reads, h.kr, h.told.keep fun _ _ _ _ k => rdOb_app L k, h.kt, h.path.keep fun _ _ _ _ k => rdOb_app L k, h.kp,
    fun id hi => h.fr id (by simp only [List.length_append] at hi; omega)⟩
theorem RInv.app (h : RInv side v m n κ X c e s fu) (L : Hp) : RInv side v m n κ (X ++ L) c e s fu := by
  obtain ⟨vi, gv, ci, rv, tv, pv, h⟩ := h; exact ⟨vi, gv, ci, rv, tv, pv, h.app L⟩
theorem isI_keep {X Y : Hp} {w : CV} {xs : List Int} (hw : IsI X w xs) (hk : ∀ id g off k o, w = .sl id g off k → rdOb X id g = some o → rdOb Y id g = some o) : IsI Y w xs := by
  rcases hw with hw | ⟨id, g, off, o, rfl, h2, h3⟩
  · exact .inl hw
  · exact .inr ⟨id, g, off, o, rfl, hk _ _ _ _ _ rfl h2, h3⟩
/-- A value is put. -/
theorem RP.put (h : RP side v m n κ X c e s fu vi gv ci rv tv pv) (k : Int) (x : Int) : RP side v m n κ (X.set vi ⟨(s.put k x).vals.map .i, gv, true, 1⟩) c e (s.put k x) fu vi gv ci rv tv pv := by
  have ne : ∀ id j, κ id = j → j ≠ 2 → id ≠ vi := fun id j h1 h2 e => h2 (by rw [← h1, e, h.kv])
  refine ⟨⟨by rw [RunS.put_len]; exact h.ok.vals, h.ok.cells⟩, ?_, h.kc, h.kv, h.ki, ?_, ?_, ?_, h.kr, ?_, h.kt, ?_, h.kp, ?_⟩
  · rw [rdOb_set_ne (ne _ _ h.kc (by omega))]; exact h.ob
  · rw [rdOb_set_self (rdOb_lt h.vals)]; simp
  · rw [rdOb_set_ne (ne _ _ h.ki (by omega))]; exact h.cells
  · exact isI_keep h.reads fun id g off k o he ho => by rw [rdOb_set_ne (ne _ _ (h.kr _ _ _ _ he) (by omega))]; exact ho
  · exact h.told.keep fun id g o hi ho => by rw [rdOb_set_ne (ne _ _ (h.kt _ hi) (by omega))]; exact ho
  · exact h.path.keep fun id g o hi ho => by rw [rdOb_set_ne (ne _ _ (h.kp _ hi) (by omega))]; exact ho
  · intro id hi; rw [List.length_set] at hi; exact h.fr id hi
/-- A cell is put. -/
theorem RP.cell (h : RP side v m n κ X c e s fu vi gv ci rv tv pv) (k : Nat) (x : Int) : RP side v m n κ (X.set ci ⟨(s.cells.set k x).map .i, 0, true, 1⟩) c e { s with cells := s.cells.set k x } fu vi gv ci rv tv pv := by
  have ne : ∀ id j, κ id = j → j ≠ 3 → id ≠ ci := fun id j h1 h2 e => h2 (by rw [← h1, e, h.ki])
  refine ⟨⟨h.ok.vals, by simp [h.ok.cells]⟩, ?_, h.kc, h.kv, h.ki, ?_, ?_, ?_, h.kr, ?_, h.kt, ?_, h.kp, ?_⟩
  · rw [rdOb_set_ne (ne _ _ h.kc (by omega))]; exact h.ob
  · rw [rdOb_set_ne (ne _ _ h.kv (by omega))]; exact h.vals
  · rw [rdOb_set_self (rdOb_lt h.cells)]; simp
  · exact isI_keep h.reads fun id g off k o he ho => by rw [rdOb_set_ne (ne _ _ (h.kr _ _ _ _ he) (by omega))]; exact ho
  · exact h.told.keep fun id g o hi ho => by rw [rdOb_set_ne (ne _ _ (h.kt _ hi) (by omega))]; exact ho
  · exact h.path.keep fun id g o hi ho => by rw [rdOb_set_ne (ne _ _ (h.kp _ hi) (by omega))]; exact ho
  · intro id hi; rw [List.length_set] at hi; exact h.fr id hi
/-- The run's own cells: fuel, end, what is read. -/
theorem RP.own (h : RP side v m n κ X c e s fu vi gv ci rv tv pv) {e' fu' : Int} {rv' : CV} {rs : List Int} (hr : IsI X rv' rs) (kr : ∀ id g off k, rv' = .sl id g off k → κ id = 0) :
    RP side v m n κ (X.set c ⟨layR side v m e' (.sl vi gv 0 n) (.sl ci 0 0 8) rv' tv pv fu', 0, true, szR side⟩) c e' { s with reads := rs } fu' vi gv ci rv' tv pv := by
  have ne : ∀ id j, κ id = j → j ≠ 1 → id ≠ c := fun id j h1 h2 e => h2 (by rw [← h1, e, h.kc])
  refine ⟨⟨h.ok.vals, h.ok.cells⟩, ?_, h.kc, h.kv, h.ki, ?_, ?_, ?_, kr, ?_, h.kt, ?_, h.kp, ?_⟩
  · rw [rdOb_set_self (rdOb_lt h.ob)]; simp
  · rw [rdOb_set_ne (ne _ _ h.kv (by omega))]; exact h.vals
  · rw [rdOb_set_ne (ne _ _ h.ki (by omega))]; exact h.cells
  · exact isI_keep hr fun id g off k o he ho => by rw [rdOb_set_ne (ne _ _ (kr _ _ _ _ he) (by omega))]; exact ho
  · exact h.told.keep fun id g o hi ho => by rw [rdOb_set_ne (ne _ _ (h.kt _ hi) (by omega))]; exact ho
  · exact h.path.keep fun id g o hi ho => by rw [rdOb_set_ne (ne _ _ (h.kp _ hi) (by omega))]; exact ho
  · intro id hi; rw [List.length_set] at hi; exact h.fr id hi
theorem RP.own0 (h : RP side v m n κ X c e s fu vi gv ci rv tv pv) (e' fu' : Int) :
    RP side v m n κ (X.set c ⟨layR side v m e' (.sl vi gv 0 n) (.sl ci 0 0 8) rv tv pv fu', 0, true, szR side⟩) c e' s fu' vi gv ci rv tv pv := h.own h.reads h.kr
theorem RP.frC (h : RP side v m n κ X c e s fu vi gv ci rv tv pv) (o : Ob) : Fr κ κ X (X.set c o) := Fr.set (by rw [h.kc]; omega) o
theorem RP.frV (h : RP side v m n κ X c e s fu vi gv ci rv tv pv) (o : Ob) : Fr κ κ X (X.set vi o) := Fr.set (by rw [h.kv]; omega) o
theorem RP.frI (h : RP side v m n κ X c e s fu vi gv ci rv tv pv) (o : Ob) : Fr κ κ X (X.set ci o) := Fr.set (by rw [h.ki]; omega) o
/-- What was told has grown, somewhere. -/
theorem RP.tell {X1 : Hp} {tv' : CV} {ts : List Int} (h : RP side v m n κ X c e s fu vi gv ci rv tv pv) (hle : X.length ≤ X1.length) (hk : ∀ id g ob, ¬ IsOut tv id → rdOb X id g = some ob → rdOb X1 id g = some ob)
    (ht : OutR X1 tv' ts) (hn : ∀ id, IsOut tv' id → IsOut tv id ∨ X.length ≤ id) :
    rdOb X1 c 0 = some ⟨layR side v m e (.sl vi gv 0 n) (.sl ci 0 0 8) rv tv pv fu, 0, true, szR side⟩ ∧
    RP side v m n (κ.new X.length X1.length 4) (X1.set c ⟨layR side v m e (.sl vi gv 0 n) (.sl ci 0 0 8) rv tv' pv fu, 0, true, szR side⟩) c e { s with told := ts } fu vi gv ci rv tv' pv ∧
    Fr κ (κ.new X.length X1.length 4) X (X1.set c ⟨layR side v m e (.sl vi gv 0 n) (.sl ci 0 0 8) rv tv' pv fu, 0, true, szR side⟩) := by
  have nt : ∀ id j, κ id = j → j ≠ 4 → ¬ IsOut tv id := fun id j h1 h2 hi => h2 (by rw [← h1, h.kt _ hi])
  have ne : ∀ id j, κ id = j → j ≠ 1 → id ≠ c := fun id j h1 h2 e => h2 (by rw [← h1, e, h.kc])
  have hob := hk _ _ _ (nt _ _ h.kc (by omega)) h.ob
  have hv := hk _ _ _ (nt _ _ h.kv (by omega)) h.vals
  have hi := hk _ _ _ (nt _ _ h.ki (by omega)) h.cells
  have lo : ∀ {id g o}, rdOb X id g = some o → κ.new X.length X1.length 4 id = κ id := fun ho => RK.new_lo κ (rdOb_lt ho)
  refine ⟨hob, ⟨⟨h.ok.vals, h.ok.cells⟩, ?_, by rw [lo h.ob]; exact h.kc, by rw [lo h.vals]; exact h.kv, by rw [lo h.cells]; exact h.ki, ?_, ?_, ?_, ?_, ?_, ?_, ?_, ?_, ?_⟩, ?_, ?_, ?_⟩
  · rw [rdOb_set_self (rdOb_lt hob)]; simp
  · rw [rdOb_set_ne (ne _ _ h.kv (by omega))]; exact hv
  · rw [rdOb_set_ne (ne _ _ h.ki (by omega))]; exact hi
  · exact isI_keep h.reads fun id g off k o he ho => by
      rw [rdOb_set_ne (ne _ _ (h.kr _ _ _ _ he) (by omega))]; exact hk _ _ _ (nt _ _ (h.kr _ _ _ _ he) (by omega)) ho
  · intro id g off k he
    rcases h.reads with ⟨h1, _⟩ | ⟨id', g', off', o, h1, h2, _⟩
    · rw [h1] at he; cases he
    · rw [h1] at he; cases he
      rw [lo h2]; exact h.kr _ _ _ _ h1
  · refine ht.keep fun id g o hi ho => ?_
    rw [rdOb_set_ne]; exact ho
    rintro rfl
    rcases hn _ hi with h1 | h1
    · exact nt _ _ h.kc (by omega) h1
    · have := rdOb_lt h.ob; omega
  · intro id hi
    rcases hn _ hi with h1 | h1
    · rw [RK.new_lo κ (h.told.lt h1)]; exact h.kt _ h1
    · exact RK.new_in κ h1 (ht.lt hi)
  · exact h.path.keep fun id g o hi ho => by
      rw [rdOb_set_ne (ne _ _ (h.kp _ hi) (by omega))]; exact hk _ _ _ (nt _ _ (h.kp _ hi) (by omega)) ho
  · intro id hi
    rw [RK.new_lo κ (h.path.lt hi)]; exact h.kp _ hi
  · intro id hi
    rw [List.length_set] at hi
    rw [RK.new_hi κ hi]; exact h.fr id (by omega)
  · simpa using hle
  · exact fun id hi => RK.new_lo κ hi
  · intro id g o h0 ho
    rw [rdOb_set_ne (ne _ _ h0 (by omega))]; exact hk _ _ _ (nt _ _ h0 (by omega)) ho
/-- The path has grown, somewhere. -/
theorem RP.goes {X1 : Hp} {pv' : CV} {ts : List Int} (h : RP side v m n κ X c e s fu vi gv ci rv tv pv) (hle : X.length ≤ X1.length) (hk : ∀ id g ob, ¬ IsOut pv id → rdOb X id g = some ob → rdOb X1 id g = some ob)
    (ht : OutR X1 pv' ts) (hn : ∀ id, IsOut pv' id → IsOut pv id ∨ X.length ≤ id) :
    rdOb X1 c 0 = some ⟨layR side v m e (.sl vi gv 0 n) (.sl ci 0 0 8) rv tv pv fu, 0, true, szR side⟩ ∧
    RP side v m n (κ.new X.length X1.length 5) (X1.set c ⟨layR side v m e (.sl vi gv 0 n) (.sl ci 0 0 8) rv tv pv' fu, 0, true, szR side⟩) c e { s with path := ts } fu vi gv ci rv tv pv' ∧
    Fr κ (κ.new X.length X1.length 5) X (X1.set c ⟨layR side v m e (.sl vi gv 0 n) (.sl ci 0 0 8) rv tv pv' fu, 0, true, szR side⟩) := by
  have nt : ∀ id j, κ id = j → j ≠ 5 → ¬ IsOut pv id := fun id j h1 h2 hi => h2 (by rw [← h1, h.kp _ hi])
  have ne : ∀ id j, κ id = j → j ≠ 1 → id ≠ c := fun id j h1 h2 e => h2 (by rw [← h1, e, h.kc])
  have hob := hk _ _ _ (nt _ _ h.kc (by omega)) h.ob
  have hv := hk _ _ _ (nt _ _ h.kv (by omega)) h.vals
  have hi := hk _ _ _ (nt _ _ h.ki (by omega)) h.cells
  have lo : ∀ {id g o}, rdOb X id g = some o → κ.new X.length X1.length 5 id = κ id := fun ho => RK.new_lo κ (rdOb_lt ho)
  refine ⟨hob, ⟨⟨h.ok.vals, h.ok.cells⟩, ?_, by rw [lo h.ob]; exact h.kc, by rw [lo h.vals]; exact h.kv, by rw [lo h.cells]; exact h.ki, ?_, ?_, ?_, ?_, ?_, ?_, ?_, ?_, ?_⟩, ?_, ?_, ?_⟩
  · rw [rdOb_set_self (rdOb_lt hob)]; simp
  · rw [rdOb_set_ne (ne _ _ h.kv (by omega))]; exact hv
  · rw [rdOb_set_ne (ne _ _ h.ki (by omega))]; exact hi
  · exact isI_keep h.reads fun id g off k o he ho => by
      rw [rdOb_set_ne (ne _ _ (h.kr _ _ _ _ he) (by omega))]; exact hk _ _ _ (nt _ _ (h.kr _ _ _ _ he) (by omega)) ho
  · intro id g off k he
    rcases h.reads with ⟨h1, _⟩ | ⟨id', g', off', o, h1, h2, _⟩
    · rw [h1] at he; cases he
    · rw [h1] at he; cases he
      rw [lo h2]; exact h.kr _ _ _ _ h1
  · exact h.told.keep fun id g o hi ho => by
      rw [rdOb_set_ne (ne _ _ (h.kt _ hi) (by omega))]; exact hk _ _ _ (nt _ _ (h.kt _ hi) (by omega)) ho
  · intro id hi
    rw [RK.new_lo κ (h.told.lt hi)]; exact h.kt _ hi
  · refine ht.keep fun id g o hi ho => ?_
    rw [rdOb_set_ne]; exact ho
    rintro rfl
    rcases hn _ hi with h1 | h1
    · exact nt _ _ h.kc (by omega) h1
    · have := rdOb_lt h.ob; omega
  · intro id hi
    rcases hn _ hi with h1 | h1
    · rw [RK.new_lo κ (h.path.lt h1)]; exact h.kp _ h1
    · exact RK.new_in κ h1 (ht.lt hi)
  · intro id hi
    rw [List.length_set] at hi
    rw [RK.new_hi κ hi]; exact h.fr id (by omega)
  · simpa using hle
  · exact fun id hi => RK.new_lo κ hi
  · intro id g o h0 ho
    rw [rdOb_set_ne (ne _ _ h0 (by omega))]; exact hk _ _ _ (nt _ _ h0 (by omega)) ho
end
theorem map_i_inj' {xs ys : List Int} (h : xs.map CV.i = ys.map CV.i) : xs = ys := map_i_inj.1 h
theorem isI_uniq {X : Hp} {w : CV} {xs ys : List Int} (h : IsI X w xs) (k : IsI X w ys) : xs = ys := by
  rcases h with ⟨rfl, h1, h2⟩ | ⟨id, g, off, o, rfl, h2, _, _, h5⟩
  · rcases k with ⟨_, k1, k2⟩ | ⟨_, _, _, _, k1, _⟩
    · have a : xs = [] := List.length_eq_zero_iff.1 h1
      have b : ys = [] := List.length_eq_zero_iff.1 k1
      rw [a, b]
    · cases k1
  · rcases k with ⟨k1, _⟩ | ⟨id', g', off', o', k1, k2, _, _, k5⟩
    · cases k1
    · simp only [CV.sl.injEq] at k1
      obtain ⟨rfl, rfl, rfl, e4⟩ := k1
      rw [h2] at k2; injection k2 with k2; subst k2
      rw [e4, k5] at h5
      exact map_i_inj' h5.symm
theorem outR_uniq {X : Hp} {w : CV} {xs ys : List Int} (h : OutR X w xs) (k : OutR X w ys) : xs = ys := by
  rcases h with ⟨rfl, rfl⟩ | ⟨o, g, rfl, ho⟩
  · rcases k with ⟨_, rfl⟩ | ⟨_, _, h, _⟩
    · rfl
    · cases h
  · rcases k with ⟨h, _⟩ | ⟨o', g', h, ho'⟩
    · cases h
    · simp only [CV.sl.injEq] at h
      obtain ⟨rfl, rfl, _, _⟩ := h
      rw [ho] at ho'
      injection ho' with h; injection h with h
      exact map_i_inj' h
/-- What a run's call leaves: where nothing has turned nothing has been done. -/
theorem RInv.gc {side : Bool} {v : CV} {m e e' : Int} {n : Nat} {κ κ' : RK} {X Y : Hp} {c : Nat} {s s' : RunS} {fu fu' : Int} (h : RInv side v m n κ X c e s fu) (h' : RInv side v m n κ' Y c e' s' fu') (hf : Fr κ κ' X Y) {r : IV} (hr : flatV r = true) :
    ∃ κ'' Z, gcRet X r Y = (r, Z) ∧ RInv side v m n κ'' Z c e' s' fu' ∧ Fr κ κ'' X Z := by
  by_cases ht : Y.take X.length = X
  · obtain ⟨vi, gv, ci, rv, tv, pv, h⟩ := h
    obtain ⟨vi', gv', ci', rv', tv', pv', h'⟩ := h'
    have hp : Pre X Y := ⟨Y.drop X.length, by have := List.take_append_drop X.length Y; rw [ht] at this; exact this.symm⟩
    have hob := hp.rdOb h.ob
    rw [h'.ob] at hob
    injection hob with hob
    have hl : layR side v m e' (.sl vi' gv' 0 n) (.sl ci' 0 0 8) rv' tv' pv' fu' = layR side v m e (.sl vi gv 0 n) (.sl ci 0 0 8) rv tv pv fu := congrArg Ob.cells hob
    have key : vi' = vi ∧ gv' = gv ∧ ci' = ci ∧ rv' = rv ∧ tv' = tv ∧ pv' = pv ∧ fu' = fu ∧ (side = true → e' = e) := by
      unfold layR at hl
      cases side with
      | true => simp at hl; simp [hl]
      | false => simp at hl; simp [hl]
    obtain ⟨rfl, rfl, rfl, rfl, rfl, rfl, rfl, he⟩ := key
    have e1 : s'.vals = s.vals := by
      have := hp.rdOb h.vals
      rw [h'.vals] at this
      injection this with this; injection this with this
      exact map_i_inj' this
    have e2 : s'.cells = s.cells := by
      have := hp.rdOb h.cells
      rw [h'.cells] at this
      injection this with this; injection this with this
      exact map_i_inj' this
    have e3 : s'.reads = s.reads := isI_uniq h'.reads (Sl.pre hp h.reads)
    have e4 : s'.told = s.told := outR_uniq h'.told (h.told.keep fun _ _ _ _ k => hp.rdOb k)
    have e5 : s'.path = s.path := outR_uniq h'.path (h.path.keep fun _ _ _ _ k => hp.rdOb k)
    have es : s' = s := by
      cases s; cases s'
      simp only at e1 e2 e3 e4 e5
      subst e1; subst e2; subst e3; subst e4; subst e5; rfl
    subst es
    refine ⟨κ, X, gcRet_flat hp hr, ⟨vi', gv', ci', rv', tv', pv', ?_⟩, Fr.refl _ _⟩
    have hob2 : layR side v m e' (.sl vi' gv' 0 n) (.sl ci' 0 0 8) rv' tv' pv' fu' = layR side v m e (.sl vi' gv' 0 n) (.sl ci' 0 0 8) rv' tv' pv' fu' := hl
    exact ⟨h.ok, by rw [hob2]; exact h.ob, h.kc, h.kv, h.ki, h.vals, h.cells, h.reads, h.kr, h.told, h.kt, h.path, h.kp, h.fr⟩
  · exact ⟨κ', Y, by unfold gcRet; rw [if_neg ht], h', hf⟩
end Go.Proofs.YtgdfgnppeekfjaaGreat.Vm
end
section
/- The program's runner: fuel, reading, a place of a list, coming to a block. No conditions. -/
namespace Go.Proofs.YtgdfgnppeekfjaaGreat.Vm
open Go.RowKit (wrap64)
set_option linter.unusedSimpArgs false
set_option linter.unusedVariables false

theorem own_isI {X : Hp} {id g n : Nat} {xs : List Int} (h : rdOb X id g = some ⟨xs.map .i, g, true, 1⟩) (hl : xs.length = n) : IsI X (.sl id g 0 n) xs := by
  subst hl
  exact IsI.mk h rfl (by simp) (by rw [List.drop_zero, List.take_of_length_le (by simp)])
theorem idx1 {id g n j : Nat} (h : j < n) : idxOf 1 (.sl id g 0 n) (j : Int) = some (.p id g j) := by simp [idxOf, h]
theorem RP.putN {side : Bool} {v : CV} {m e : Int} {n : Nat} {κ : RK} {X : Hp} {c : Nat} {s : RunS} {fu : Int} {vi gv ci : Nat} {rv tv pv : CV} (h : RP side v m n κ X c e s fu vi gv ci rv tv pv) (k : Nat) (x : Int) :
    RP side v m n κ (X.set vi ⟨(s.vals.map .i).set k (.i x), gv, true, 1⟩) c e (s.put k x) fu vi gv ci rv tv pv := by
  have := h.put (k : Int) x
  simpa [RunS.put] using this
theorem RP.cellN {side : Bool} {v : CV} {m e : Int} {n : Nat} {κ : RK} {X : Hp} {c : Nat} {s : RunS} {fu : Int} {vi gv ci : Nat} {rv tv pv : CV} (h : RP side v m n κ X c e s fu vi gv ci rv tv pv) (k : Nat) (x : Int) :
    RP side v m n κ (X.set ci ⟨(s.cells.map .i).set k (.i x), 0, true, 1⟩) c e { s with cells := s.cells.set k x } fu vi gv ci rv tv pv := by
  have := h.cell k x
  simpa using this

theorem spend_call {v : CV} {m e : Int} {n : Nat} {κ : RK} {X : Hp} {c : Nat} {s : RunS} {fu : Int} (h : RInv true v m n κ X c e s fu) (hf : 0 ≤ fu ∧ fu ≤ 10000) :
    ∃ Z, RInv true v m n κ Z c e s (fu - 1) ∧ Fr κ κ X Z ∧ ∀ k : IV × Hp → Prop, CM 200 [.c (.p c 0 0)] X k = k (.c (.b (decide (0 ≤ fu - 1))), Z) := by
  obtain ⟨vi, gv, ci, rv, tv, pv, P⟩ := h
  have hob : rdOb X c 0 = some ⟨[v, .i m, .sl vi gv 0 n, .sl ci 0 0 8, rv, .i fu, tv, pv, .i e], 0, true, 9⟩ := P.ob
  obtain ⟨Z, hZ⟩ : ∃ Z, X.set c ⟨[v, .i m, .sl vi gv 0 n, .sl ci 0 0 8, rv, .i (fu - 1), tv, pv, .i e], 0, true, 9⟩ = Z := ⟨_, rfl⟩
  have hob2 : rdOb Z c 0 = some ⟨[v, .i m, .sl vi gv 0 n, .sl ci 0 0 8, rv, .i (fu - 1), tv, pv, .i e], 0, true, 9⟩ := by rw [← hZ, rdOb_set_self (rdOb_lt hob)]; simp
  have hgc : ∀ bb, gcRet X (.c (.b bb)) Z = (.c (.b bb), Z) := fun bb => by rw [← hZ]; exact gc_set rfl
  refine ⟨Z, ⟨vi, gv, ci, rv, tv, pv, by rw [← hZ]; exact P.own0 e (fu - 1)⟩, by rw [← hZ]; exact P.frC _, fun k => det (cw200 ?_) k⟩
  unfold vf200c
  simp [rdC_ob hob, hob, putL5, hZ, rdC_ob hob2, hgc, wrap64_id (show -9223372036854775808 ≤ fu - 1 ∧ fu - 1 ≤ 9223372036854775807 by omega)]
theorem cell_call (H : Hp) (x : Int) (k : IV × Hp → Prop) : CM 242 [.c (.i x)] H k = k (.c (.b (inB x 0 7)), H) := by
  refine det (cw242 ?_) k
  unfold vf242c
  simp [implIn]
theorem isI_tail {X : Hp} {w : CV} {x : Int} {xs : List Int} (h : IsI X w (x :: xs)) : ∃ id g off o, w = .sl id g off (xs.length + 1) ∧ rdOb X id g = some o ∧ o.sz = 1 ∧ o.cells[off]? = some (.i x) ∧ IsI X (.sl id g (off + 1) xs.length) xs := by
  rcases h with ⟨_, h, _⟩ | ⟨id, g, off, o, rfl, h1, h2, h3, h4⟩
  · cases h
  · rw [List.length_cons] at h3 h4
    have e : (o.cells.drop off).take ((xs.length + 1) * 1) = .i x :: xs.map .i := h4
    rw [Nat.mul_one] at e
    refine ⟨id, g, off, o, rfl, h1, h2, ?_, IsI.mk h1 h2 (by omega) ?_⟩
    · have := congrArg (fun l => l[0]?) e
      simpa using this
    · have := congrArg (List.drop 1) e
      rw [List.drop_take, List.drop_drop] at this
      simpa using this
theorem read_call {v : CV} {m e : Int} {n : Nat} {κ : RK} {X : Hp} {c : Nat} {s : RunS} {fu : Int} (h : RInv true v m n κ X c e s fu) :
    ∃ Z, RInv true v m n κ Z c e { s with reads := s.reads.tail } fu ∧ Fr κ κ X Z ∧ (∀ id g, id ≠ c → rdOb Z id g = rdOb X id g) ∧ (∀ j, j < 4 → rdC Z c 0 j = rdC X c 0 j) ∧
      ∀ k : IV × Hp → Prop, CM 243 [.c (.p c 0 0)] X k = k (.c (.i (s.reads.headD 0)), Z) := by
  obtain ⟨vi, gv, ci, rv, tv, pv, P⟩ := h
  have hob : rdOb X c 0 = some ⟨[v, .i m, .sl vi gv 0 n, .sl ci 0 0 8, rv, .i fu, tv, pv, .i e], 0, true, 9⟩ := P.ob
  cases hr : s.reads with
  | nil =>
    have hl : lenOf rv = some 0 := by have := P.reads.lenOf; rw [hr] at this; exact this
    refine ⟨X, ⟨vi, gv, ci, rv, tv, pv, ?_⟩, Fr.refl _ _, fun _ _ _ => rfl, fun _ _ => rfl, fun k => det (cw243 ?_) k⟩
    · have : ({ s with reads := [].tail } : RunS) = s := by cases s; simp only at hr; subst hr; rfl
      rw [this]; exact P
    · unfold vf243c
      simp [rdC_ob hob, hl]
  | cons x xs =>
    have hI := P.reads
    rw [hr] at hI
    obtain ⟨id, g, off, o, rfl, h1, h2, h3, h4⟩ := isI_tail hI
    obtain ⟨Z, hZ⟩ : ∃ Z, X.set c ⟨[v, .i m, .sl vi gv 0 n, .sl ci 0 0 8, .sl id g (off + 1) xs.length, .i fu, tv, pv, .i e], 0, true, 9⟩ = Z := ⟨_, rfl⟩
    have hgc : ∀ bb, gcRet X (.c (.i bb)) Z = (.c (.i bb), Z) := fun bb => by rw [← hZ]; exact gc_set rfl
    have hsl : doSlice X 1 (.sl id g off (xs.length + 1)) (some (.c (.i 1))) none = some (.c (.sl id g (off + 1) xs.length)) := by
      simp [doSlice, h1, h2]
      omega
    refine ⟨Z, ⟨vi, gv, ci, _, tv, pv, by rw [← hZ]; exact P.own h4 fun i1 g1 o1 k1 he => by cases he; exact P.kr _ _ _ _ rfl⟩, by rw [← hZ]; exact P.frC _, fun i1 g1 hne => by rw [← hZ, rdOb_set_ne hne], fun j hj => ?_, fun k => det (cw243 ?_) k⟩
    · rw [← hZ, rdC_ob hob, rdC_ob (by rw [rdOb_set_self (rdOb_lt hob)]; rfl)]
      match j, hj with
      | 0, _ => rfl
      | 1, _ => rfl
      | 2, _ => rfl
      | 3, _ => rfl
    · unfold vf243c
      have hrd : rdC X id g off = some (.i x) := by rw [rdC_ob h1]; exact h3
      simp [rdC_ob hob, hob, putL4, hZ, hgc, hsl, hrd, show (0 : Int) ≤ (xs.length : Int) by omega, show ((xs.length : Int) + 1 = 0) = False from eq_false (by omega)]

/-- What a place of a list leaves. -/
def InsRes (side : Bool) (v : CV) (m : Int) (n : Nat) (κ : RK) (X : Hp) (c : Nat) (q : Int × Nat × RunS) (r : IV × Hp) : Prop :=
  ∃ κ' Z fu', r = (.c (.i q.1), Z) ∧ RInv side v m n κ' Z c 0 q.2.2 fu' ∧ Fr κ κ' X Z ∧ (q.1 = 0 → fu' = (q.2.1 : Int))
theorem InsRes.mk' {side : Bool} {v : CV} {m : Int} {n : Nat} {κ κ' : RK} {X Y : Hp} {c : Nat} {s : RunS} {fu fu' : Int} {q : Int × Nat × RunS} (h : RInv side v m n κ X c 0 s fu) (h' : RInv side v m n κ' Y c 0 q.2.2 fu') (hf : Fr κ κ' X Y)
    (hq : q.1 = 0 → fu' = (q.2.1 : Int)) : InsRes side v m n κ X c q (gcRet X (.c (.i q.1)) Y) := by
  obtain ⟨κ2, Z, e, h1, h2⟩ := h.gc h' hf (r := .c (.i q.1)) rfl
  rw [e]
  exact ⟨κ2, Z, fu', rfl, h1, h2, hq⟩
theorem listGo_one (x : InsR) (φ : Nat) (s : RunS) : listGo [x] (φ + 1) s = ((insGo s x).1, φ, (insGo s x).2) := by
  simp only [listGo]
  split
  · rename_i h; rw [h]
  · rfl
set_option maxRecDepth 100000 in
set_option maxHeartbeats 4000000 in
theorem ins_call {v : CV} {m : Int} {n : Nat} {κ : RK} {X : Hp} {c : Nat} {s : RunS} {φ : Nat} (h : RInv true v m n κ X c 0 s φ) (hn : n = m.toNat) (hφ : φ ≤ 10000) (ht : s.told.length ≤ 100000) {x : InsR} (hx : insB x m = true) :
    CM 199 [.c (.p c 0 0), .agg (insC x)] X (InsRes true v m n κ X c (listGo [x] φ s)) := by
  refine cw199 ?_
  unfold vf199c
  obtain ⟨op, d, a, b, nn⟩ := x
  obtain ⟨X1, hX1⟩ : ∃ X1, X ++ [(⟨[.i op, .i d, .i a, .i b, .i nn], 0, true, 5⟩ : Ob)] = X1 := ⟨_, rfl⟩
  have h1 : RInv true v m n κ X1 c 0 s φ := by rw [← hX1]; exact h.app _
  have f1 : Fr κ κ X X1 := by rw [← hX1]; exact Fr.app _ _ _
  have hB1 : rdOb X1 X.length 0 = some ⟨[.i op, .i d, .i a, .i b, .i nn], 0, true, 5⟩ := by rw [← hX1]; simp
  have hk0 : κ X.length = 0 := by obtain ⟨_, _, _, _, _, _, P⟩ := h; exact P.fr _ (Nat.le_refl _)
  obtain ⟨X2, h2, f2, e2⟩ := spend_call h1 (by omega)
  have hB2 := f2.keep _ _ _ hk0 hB1
  have f12 := f1.trans f2
  cases φ with
  | zero =>
    have hd : decide (0 ≤ ((0 : Nat) : Int) - 1) = false := rfl
    rw [hd] at e2
    simp [insC, hX1, e2]
    exact InsRes.mk' (q := (1, 0, s)) h h2 f12 (by intro h; cases h)
  | succ φ =>
    have hd : decide (0 ≤ ((φ + 1 : Nat) : Int) - 1) = true := decide_eq_true (by omega)
    rw [hd] at e2
    rw [listGo_one]
    have efu : ((φ + 1 : Nat) : Int) - 1 = φ := by omega
    rw [efu] at h2
    obtain ⟨vi, gv, ci, rv, tv, pv, P⟩ := id h2
    have hob : rdOb X2 c 0 = some ⟨[v, .i m, .sl vi gv 0 n, .sl ci 0 0 8, rv, .i φ, tv, pv, .i 0], 0, true, 9⟩ := P.ob
    have hvl := P.ok.vals
    have hfin : ∀ (κ' : RK) (Y : Hp) (s' : RunS), insGo s ⟨op, d, a, b, nn⟩ = (0, s') → RInv true v m n κ' Y c 0 s' φ → Fr κ κ' X2 Y →
        InsRes true v m n κ X c ((insGo s ⟨op, d, a, b, nn⟩).1, φ, (insGo s ⟨op, d, a, b, nn⟩).2) (gcRet X (.c (.i 0)) Y) := by
      intro κ' Y s' he hR hF
      rw [he]
      exact InsRes.mk' (q := (0, φ, s')) h hR (f12.trans hF) (fun _ => rfl)
    rcases ins_kinds hx with hw | ⟨hw, hop⟩
    · obtain ⟨n1, n2, n3, n4, n5, n6⟩ := op_word hw
      obtain ⟨v1, v2, v3⟩ := insB_word hx hw
      simp only at hw n1 n2 n3 n4 n5 n6 v1 v2 v3
      obtain ⟨kd, rfl, hd1⟩ := val_nat v1
      obtain ⟨ka, rfl, ha1⟩ := val_nat v2
      obtain ⟨kb, rfl, hb1⟩ := val_nat v3
      rw [← hn] at hd1 ha1 hb1
      have ga := RunS.get_at P.ok ha1
      have gb := RunS.get_at P.ok hb1
      simp [insC, hX1, e2, rdC_ob hB2, n1, n2, n3, n4, n5, n6, rdC_ob hob, idx1 hd1, idx1 ha1, idx1 hb1, rdC_ob P.vals, ga, gb, implWord, P.vals, hvl, show kd + 1 ≤ n by omega, int_put (xs := s.vals) (i := kd) (by omega)]
      exact hfin κ _ (s.put kd (wordF op (s.get ka) (s.get kb))) (by simp [insGo, hw]) ⟨vi, gv, ci, rv, tv, pv, P.putN kd _⟩ (P.frV _)
    · simp only at hw hop
      rcases hop with rfl | rfl | rfl | rfl | rfl | rfl
      · -- a number
        have v1 : valB d m = true := by simp [insB, wordOk, inB] at hx; exact hx.1.1
        obtain ⟨kd, rfl, hd1⟩ := val_nat v1
        rw [← hn] at hd1
        simp [insC, hX1, e2, rdC_ob hB2, rdC_ob hob, idx1 hd1, P.vals, hvl, show kd + 1 ≤ n by omega, int_put (xs := s.vals) (i := kd) (by omega)]
        exact hfin κ _ (s.put kd nn) (by simp [insGo, hw]) ⟨vi, gv, ci, rv, tv, pv, P.putN kd _⟩ (P.frV _)
      · -- a cell is read
        have v1 : valB d m = true ∧ valB a m = true := by simp [insB, wordOk, inB] at hx; exact ⟨hx.1.1.1, hx.1.1.2⟩
        obtain ⟨kd, rfl, hd1⟩ := val_nat v1.1
        obtain ⟨ka, rfl, ha1⟩ := val_nat v1.2
        rw [← hn] at hd1 ha1
        have ga := RunS.get_at P.ok ha1
        cases hc : inB (s.get ka) 0 7 with
        | false =>
          simp [insC, hX1, e2, rdC_ob hB2, rdC_ob hob, idx1 ha1, rdC_ob P.vals, ga, cell_call, hc]
          have he : insGo s ⟨21, kd, ka, b, nn⟩ = (2, s) := by simp [insGo, hw, hc]
          rw [he]
          exact InsRes.mk' (q := (2, φ, s)) h h2 f12 (by intro h; cases h)
        | true =>
          obtain ⟨kc, hkc, hc8⟩ : ∃ k : Nat, s.get ka = k ∧ k < 8 := by have := of_decide_eq_true hc; exact ⟨(s.get ka).toNat, by omega, by omega⟩
          rw [hkc] at ga hc
          have gc : s.cells[kc]? = some (s.cells.getD kc 0) := by simp [List.getD_eq_getElem?_getD, show kc < s.cells.length by rw [P.ok.cells]; exact hc8]
          have he : insGo s ⟨21, kd, ka, b, nn⟩ = (0, s.put kd (s.cells.getD kc 0)) := by simp [insGo, hw, hc, hkc]
          obtain ⟨z, hz⟩ : ∃ z, s.cells.getD kc 0 = z := ⟨_, rfl⟩
          rw [hz] at gc he
          simp [insC, hX1, e2, rdC_ob hB2, rdC_ob hob, idx1 hd1, idx1 ha1, idx1 (show kc < 8 from hc8), rdC_ob P.vals, rdC_ob P.cells, ga, gc, cell_call, hc, P.vals, hvl, show kd + 1 ≤ n by omega, int_put (xs := s.vals) (i := kd) (by omega)]
          exact hfin κ _ (s.put kd z) he ⟨vi, gv, ci, rv, tv, pv, P.putN kd _⟩ (P.frV _)
      · -- a cell is written
        have v1 : valB a m = true ∧ valB b m = true := by simp [insB, wordOk, inB] at hx; exact ⟨hx.1.1.1, hx.1.1.2⟩
        obtain ⟨ka, rfl, ha1⟩ := val_nat v1.1
        obtain ⟨kb, rfl, hb1⟩ := val_nat v1.2
        rw [← hn] at ha1 hb1
        have ga := RunS.get_at P.ok ha1
        have gb := RunS.get_at P.ok hb1
        cases hc : inB (s.get ka) 0 7 with
        | false =>
          simp [insC, hX1, e2, rdC_ob hB2, rdC_ob hob, idx1 ha1, rdC_ob P.vals, ga, cell_call, hc]
          have he : insGo s ⟨22, d, ka, kb, nn⟩ = (2, s) := by simp [insGo, hw, hc]
          rw [he]
          exact InsRes.mk' (q := (2, φ, s)) h h2 f12 (by intro h; cases h)
        | true =>
          obtain ⟨kc, hkc, hc8⟩ : ∃ k : Nat, s.get ka = k ∧ k < 8 := by have := of_decide_eq_true hc; exact ⟨(s.get ka).toNat, by omega, by omega⟩
          rw [hkc] at ga hc
          have he : insGo s ⟨22, d, ka, kb, nn⟩ = (0, { s with cells := s.cells.set kc (s.get kb) }) := by simp [insGo, hw, hc, hkc]
          have hcl := P.ok.cells
          simp [insC, hX1, e2, rdC_ob hB2, rdC_ob hob, idx1 ha1, idx1 hb1, idx1 (show kc < 8 from hc8), rdC_ob P.vals, ga, gb, cell_call, hc, P.cells, hcl, show kc + 1 ≤ 8 by omega, int_put (xs := s.cells) (i := kc) (by omega)]
          exact hfin κ _ _ he ⟨vi, gv, ci, rv, tv, pv, P.cellN kc _⟩ (P.frI _)
      · -- told
        have v1 : valB a m = true := by simp [insB, wordOk, inB] at hx; exact hx.1.1.1
        obtain ⟨ka, rfl, ha1⟩ := val_nat v1
        rw [← hn] at ha1
        have ga := RunS.get_at P.ok ha1
        have he : insGo s ⟨23, d, ka, b, nn⟩ = (0, { s with told := s.told ++ [s.get ka] }) := by simp [insGo, hw]
        obtain ⟨X3, hX3⟩ : ∃ X3, X2 ++ [(⟨[.i (s.get ka)], 0, true, 1⟩ : Ob)] = X3 := ⟨_, rfl⟩
        have P3 : RP true v m n κ X3 c 0 s φ vi gv ci rv tv pv := by rw [← hX3]; exact P.app _
        have hT3 : rdOb X3 X2.length 0 = some ⟨[.i (s.get ka)], 0, true, 1⟩ := by rw [← hX3]; simp
        have hsrc : srcOf X3 1 (.sl X2.length 0 0 1) = some (1, [.i (s.get ka)]) := by simp [srcOf, hT3]
        have hkc : rdOb X3 c 0 = rdOb X2 c 0 := by rw [← hX3, rdOb_keep _ hob]
        obtain ⟨tv', X4, a1, a2, a3, a4, a5, a6⟩ := P3.told.push (s.get ka) (by simp only [LIM]; omega)
        obtain ⟨to, tg, htv⟩ : ∃ to tg, tv' = .sl to tg 0 (s.told ++ [s.get ka]).length := by
          rcases a2 with ⟨_, h0⟩ | ⟨to, tg, h0, _⟩
          · simp at h0
          · exact ⟨to, tg, h0⟩
        subst htv
        obtain ⟨b1, b2, b3⟩ := P3.tell a3 a4 a2 a5
        have hob4 : rdOb X4 c 0 = some ⟨[v, .i m, .sl vi gv 0 n, .sl ci 0 0 8, rv, .i φ, tv, pv, .i 0], 0, true, 9⟩ := b1
        have f3 : Fr κ κ X2 X3 := by rw [← hX3]; exact Fr.app _ _ _
        have hkc4 : rdOb X4 c 0 = rdOb X2 c 0 := by rw [hob4, hob]
        simp [insC, hX1, e2, rdC_ob hB2, rdC_ob hob, idx1 ha1, rdC_ob P.vals, ga, putL0, hX3, hkc, hsrc, a1, hob4, putL6, hkc4]
        simp at b2 b3
        exact hfin _ _ _ he ⟨vi, gv, ci, rv, _, pv, b2⟩ (f3.trans b3)
      · -- what is read
        have v1 : valB d m = true := by simp [insB, wordOk, inB] at hx; exact hx.1.1.1
        obtain ⟨kd, rfl, hd1⟩ := val_nat v1
        rw [← hn] at hd1
        obtain ⟨X3, h3, f3, k3, c3, e3⟩ := read_call h2
        have he : insGo s ⟨24, kd, a, b, nn⟩ = (0, { s.put kd (s.reads.headD 0) with reads := s.reads.tail }) := by simp [insGo, hw]
        have hB3 := f3.keep _ _ _ hk0 hB2
        obtain ⟨vi', gv', ci', rv', tv', pv', P3⟩ := h3
        have hob3 : rdOb X3 c 0 = some ⟨[v, .i m, .sl vi' gv' 0 n, .sl ci' 0 0 8, rv', .i φ, tv', pv', .i 0], 0, true, 9⟩ := P3.ob
        have hvv : CV.sl vi' gv' 0 n = .sl vi gv 0 n := by
          have := c3 2 (by omega)
          rw [rdC_ob hob3, rdC_ob hob] at this
          simpa using this
        injection hvv with q1 q2
        subst q1; subst q2
        simp [insC, hX1, e2, rdC_ob hB2, rdC_ob hob, rdC_ob hB3, rdC_ob hob3, idx1 hd1, e3, P3.vals, hvl, vf199t0, show kd + 1 ≤ n by omega, int_put (xs := s.vals) (i := kd) (by omega)]
        have hP := P3.putN kd (s.reads.headD 0)
        have hR : RInv true v m n κ _ c 0 { s.put kd (s.reads.headD 0) with reads := s.reads.tail } φ := ⟨vi', gv', ci', rv', tv', pv', hP⟩
        have hfn := hfin κ _ _ he hR (f3.trans (P3.frV _))
        simpa [RunS.put] using hfn
      · -- a copy
        have v1 : valB d m = true ∧ valB a m = true := by simp [insB, wordOk, inB] at hx; exact ⟨hx.1.1.1, hx.1.1.2⟩
        obtain ⟨kd, rfl, hd1⟩ := val_nat v1.1
        obtain ⟨ka, rfl, ha1⟩ := val_nat v1.2
        rw [← hn] at hd1 ha1
        have ga := RunS.get_at P.ok ha1
        simp [insC, hX1, e2, rdC_ob hB2, rdC_ob hob, idx1 hd1, idx1 ha1, rdC_ob P.vals, ga, P.vals, hvl, show kd + 1 ≤ n by omega, int_put (xs := s.vals) (i := kd) (by omega)]
        exact hfin κ _ (s.put kd (s.get ka)) (by simp [insGo, hw]) ⟨vi, gv, ci, rv, tv, pv, P.putN kd _⟩ (P.frV _)
end Go.Proofs.YtgdfgnppeekfjaaGreat.Vm
end
section
/- The program's runner: coming to a block, and the whole run. No conditions. -/
namespace Go.Proofs.YtgdfgnppeekfjaaGreat.Vm
open Go.RowKit (wrap64)
set_option linter.unusedSimpArgs false
set_option linter.unusedVariables false

def UnitRes (side : Bool) (v : CV) (m : Int) (n : Nat) (κ : RK) (X : Hp) (c : Nat) (s' : RunS) (fu : Int) (r : IV × Hp) : Prop :=
  ∃ κ' Z, r = (.tup [], Z) ∧ RInv side v m n κ' Z c 0 s' fu ∧ Fr κ κ' X Z
theorem UnitRes.mk' {side : Bool} {v : CV} {m : Int} {n : Nat} {κ κ' : RK} {X Y : Hp} {c : Nat} {s s' : RunS} {fu fu' : Int} (h : RInv side v m n κ X c 0 s fu) (h' : RInv side v m n κ' Y c 0 s' fu') (hf : Fr κ κ' X Y) :
    UnitRes side v m n κ X c s' fu' (gcRet X (.tup []) Y) := by
  obtain ⟨κ2, Z, e, h1, h2⟩ := h.gc h' hf (r := .tup []) rfl
  rw [e]
  exact ⟨κ2, Z, rfl, h1, h2⟩
theorem armsGo_succ {was : List Int} {fr d : Int} {vs : List Int} {al : List ArmR} {i : Nat} (hi : i < al.length) : (al.take (i + 1)).foldl (armGo was fr d) vs = armGo was fr d ((al.take i).foldl (armGo was fr d) vs) al[i] := by
  rw [List.take_succ_eq_append_getElem hi, List.foldl_append]; rfl
theorem phisGo_succ {was : List Int} {fr : Int} {vs : List Int} {ps : List PhiR} {i : Nat} (hi : i < ps.length) : (ps.take (i + 1)).foldl (phiGo was fr) vs = phiGo was fr ((ps.take i).foldl (phiGo was fr) vs) ps[i] := by
  rw [List.take_succ_eq_append_getElem hi, List.foldl_append]; rfl
theorem phi_vals {n m : Int} {p : PhiR} (h : phiB n m p = true) : valB p.d m = true ∧ p.arms.length ≤ 16 ∧ ∀ i (hi : i < p.arms.length), inB p.arms[i].fr 0 (n - 1) = true ∧ valB p.arms[i].v m = true := by
  unfold phiB at h
  simp only [Bool.and_eq_true, decide_eq_true_eq] at h
  refine ⟨h.1.1, h.1.2, fun i hi => ?_⟩
  have h2 := h.2
  unfold armsB at h2
  rw [List.all_eq_true] at h2
  have h3 := h2 i (List.mem_range.2 hi)
  rw [armB_at hi] at h3
  simp only [Bool.and_eq_true] at h3
  exact ⟨h3.1.1, h3.1.2⟩
theorem RP.withVals {side : Bool} {v : CV} {m e : Int} {n : Nat} {κ : RK} {X : Hp} {c : Nat} {s : RunS} {fu : Int} {vi gv ci : Nat} {rv tv pv : CV} {ws : List Int} (h : RP side v m n κ X c e { s with vals := ws } fu vi gv ci rv tv pv) (k : Nat) (x : Int) :
    RP side v m n κ (X.set vi ⟨(ws.map .i).set k (.i x), gv, true, 1⟩) c e { s with vals := ws.set k x } fu vi gv ci rv tv pv := h.putN k x

set_option maxRecDepth 100000 in
theorem come_call {H X : Hp} {v : CV} {m : Int} {bs : List BlkR} {n : Nat} {κ : RK} {c : Nat} {s : RunS} {fu : Int} {b : Nat} {fr : Int} (hH : Blocks H v bs) (hp : Pre H X) (hk : ∀ id, id < H.length → κ id = 0) (h : RInv true v m n κ X c 0 s fu)
    (hn : n = m.toNat) (hn80 : n ≤ 80) (hb : b < bs.length) (hps : ∀ p ∈ bs[b].phis, phiB bs.length m p = true) (hpl : s.path.length ≤ 100000) :
    CM 198 [.c (.p c 0 0), .c (.i b), .c (.i fr)] X (UnitRes true v m n κ X c (comeGo b fr bs[b].phis s) fu) := by
  refine cw198 ?_
  unfold vf198c
  obtain ⟨vi, gv, ci, rv, tv, pv, P⟩ := id h
  have hob : rdOb X c 0 = some ⟨[v, .i m, .sl vi gv 0 n, .sl ci 0 0 8, rv, .i fu, tv, pv, .i 0], 0, true, 9⟩ := P.ob
  -- the path
  obtain ⟨X1, hX1⟩ : ∃ X1, X ++ [(⟨[.i b], 0, true, 1⟩ : Ob)] = X1 := ⟨_, rfl⟩
  have P1 : RP true v m n κ X1 c 0 s fu vi gv ci rv tv pv := by rw [← hX1]; exact P.app _
  have hT1 : rdOb X1 X.length 0 = some ⟨[.i b], 0, true, 1⟩ := by rw [← hX1]; simp
  have hsrc : srcOf X1 1 (.sl X.length 0 0 1) = some (1, [.i b]) := by simp [srcOf, hT1]
  obtain ⟨pv', X2, a1, a2, a3, a4, a5, a6⟩ := P1.path.push (b : Int) (by simp only [LIM]; omega)
  obtain ⟨to, tg, htv⟩ : ∃ to tg, pv' = .sl to tg 0 (s.path ++ [(b : Int)]).length := by
    rcases a2 with ⟨_, h0⟩ | ⟨to, tg, h0, _⟩
    · simp at h0
    · exact ⟨to, tg, h0⟩
  have hpv' : pv' = .sl to tg 0 (s.path.length + 1) := by rw [htv]; simp
  clear htv
  subst hpv'
  obtain ⟨b1, b2, b3⟩ := P1.goes a3 a4 a2 a5
  have hob2 : rdOb X2 c 0 = some ⟨[v, .i m, .sl vi gv 0 n, .sl ci 0 0 8, rv, .i fu, tv, pv, .i 0], 0, true, 9⟩ := b1
  have f1 : Fr κ κ X X1 := by rw [← hX1]; exact Fr.app _ _ _
  obtain ⟨κ1, hκ1⟩ : ∃ κ1, RK.new κ X1.length X2.length 5 = κ1 := ⟨_, rfl⟩
  rw [hκ1] at b2 b3
  have f3 := f1.trans b3
  obtain ⟨X3, hX3⟩ : ∃ X3, X2.set c ⟨[v, .i m, .sl vi gv 0 n, .sl ci 0 0 8, rv, .i fu, tv, (.sl to tg 0 (s.path.length + 1)), .i 0], 0, true, 9⟩ = X3 := ⟨_, rfl⟩
  have P3 : RP true v m n κ1 X3 c 0 { s with path := s.path ++ [(b : Int)] } fu vi gv ci rv tv (.sl to tg 0 (s.path.length + 1)) := by rw [← hX3]; exact b2
  have F3 : Fr κ κ1 X X3 := by rw [← hX3]; exact f3
  have hob3 : rdOb X3 c 0 = some ⟨[v, .i m, .sl vi gv 0 n, .sl ci 0 0 8, rv, .i fu, tv, (.sl to tg 0 (s.path.length + 1)), .i 0], 0, true, 9⟩ := P3.ob
  -- the values as they were
  have hvI := own_isI P3.vals P3.ok.vals
  have hcl := cloneI hvI (by simp) (by rw [P3.ok.vals]; simp only [BIG]; omega)
  rw [P3.ok.vals] at hcl
  obtain ⟨X4, hX4⟩ : ∃ X4, X3 ++ [(⟨s.vals.map .i, 0, true, 1⟩ : Ob)] = X4 := ⟨_, rfl⟩
  have P4 : RP true v m n κ1 X4 c 0 { s with path := s.path ++ [(b : Int)] } fu vi gv ci rv tv (.sl to tg 0 (s.path.length + 1)) := by rw [← hX4]; exact P3.app _
  have F4 : Fr κ κ1 X X4 := by rw [← hX4]; exact F3.trans (Fr.app _ _ _)
  have hW4 : rdOb X4 X3.length 0 = some ⟨s.vals.map .i, 0, true, 1⟩ := by rw [← hX4]; simp
  have kW : κ1 X3.length = 0 := P3.fr _ (Nat.le_refl _)
  have hp4 := F4.pre hp hk
  have hob4 : rdOb X4 c 0 = some ⟨[v, .i m, .sl vi gv 0 n, .sl ci 0 0 8, rv, .i fu, tv, (.sl to tg 0 (s.path.length + 1)), .i 0], 0, true, 9⟩ := P4.ob
  obtain ⟨i0, g0, off0, w, u, q1, _, q2, q3, _, q4, _, _, _⟩ := Blocks.get hH hb
  obtain ⟨G4, hG4⟩ := id hp4
  have q2' := q2 G4
  rw [← hG4] at q2'
  simp only [hX4] at hcl
  simp [rdC_ob hob, putL0, hX1, hsrc, a1, hob2, putL7, hX3, rdC_ob hob3, hcl, rdC_ob hob4, q1, q2'.1, q3.lenOf]
  obtain ⟨I, hI⟩ : ∃ I : Nat → St → Prop, ∀ i st, I i st ↔ ((∃ κ', RInv true v m n κ' st.h c 0 { s with path := s.path ++ [(b : Int)], vals := (bs[b].phis.take i).foldl (phiGo s.vals fr) s.vals } fu ∧ Fr κ1 κ' X4 st.h) ∧
      Env.get st.e 0 = .c (.p c 0 0) ∧ Env.get st.e 1 = .c (.i b) ∧ Env.get st.e 2 = .c (.i fr) ∧ Env.get st.e 6 = .c (.sl X3.length 0 0 n) ∧ Env.get st.e 34 = .c w ∧ Env.get st.e 35 = .c (.i bs[b].phis.length) ∧ Env.get st.e 36 = .c (.i i)) := ⟨_, fun _ _ => Iff.rfl⟩
  have hR0 : RInv true v m n κ1 X4 c 0 { s with path := s.path ++ [(b : Int)], vals := (bs[b].phis.take 0).foldl (phiGo s.vals fr) s.vals } fu := ⟨vi, gv, ci, rv, tv, _, P4⟩
  refine wp_for CM_mono bs[b].phis.length I ((hI _ _).2 ⟨⟨κ1, hR0, Fr.refl _ _⟩, by simp⟩) ?_ ?_
  · rintro i ⟨e, Y⟩ hi hIs
    obtain ⟨⟨κ', hR, hF⟩, e0, e1, e2, e6, e34, e35, e36⟩ := (hI _ _).1 hIs
    simp only at hR hF e0 e1 e2 e6 e34 e35 e36 ⊢
    have hpY := (F4.trans hF).pre hp hk
    obtain ⟨id1, g1, off1, w1, r1, _, r2, r3, r4, _, _⟩ := Phis.get q3 hi
    obtain ⟨GY, hGY⟩ := id hpY
    replace r2 := r2 GY
    rw [← hGY] at r2
    obtain ⟨hvd, ha16, harm⟩ := phi_vals (hps _ (List.getElem_mem hi))
    have hsucc := phisGo_succ (was := s.vals) (fr := fr) (vs := s.vals) hi
    obtain ⟨vs, hvs⟩ : ∃ vs, (bs[b].phis.take i).foldl (phiGo s.vals fr) s.vals = vs := ⟨_, rfl⟩
    rw [hvs] at hR hsucc
    obtain ⟨ph, hph⟩ : ∃ ph, bs[b].phis[i] = ph := ⟨_, rfl⟩
    rw [hph] at r2 r3 r4 hvd ha16 harm hsucc
    obtain ⟨kd, hkd, hkn⟩ := val_nat hvd
    rw [← hn] at hkn
    obtain ⟨Y1, hY1⟩ : ∃ Y1, Y ++ [(⟨[.i ph.d, w1], 0, true, 2⟩ : Ob)] = Y1 := ⟨_, rfl⟩
    have hR1 : RInv true v m n κ' Y1 c 0 { s with path := s.path ++ [(b : Int)], vals := vs } fu := by rw [← hY1]; exact hR.app _
    have hF1 : Fr κ' κ' Y Y1 := by rw [← hY1]; exact Fr.app _ _ _
    have h8 : rdOb Y1 Y.length 0 = some ⟨[.i ph.d, w1], 0, true, 2⟩ := by rw [← hY1]; simp
    have k8 : κ' Y.length = 0 := by obtain ⟨_, _, _, _, _, _, Q⟩ := hR; exact Q.fr _ (Nat.le_refl _)
    have hFF := hF.trans hF1
    have hW1 := hFF.keep _ _ _ kW hW4
    have kW1 : κ' X3.length = 0 := by rw [hF.same _ (rdOb_lt hW4)]; exact kW
    unfold vf198b1
    simp [e0, e1, e2, e6, e34, e35, e36, hi, r1, r2.2.2, putD0, hY1, rdC_ob h8, r3.lenOf]
    obtain ⟨J, hJ⟩ : ∃ J : Nat → St → Prop, ∀ j st, J j st ↔ ((∃ κ'', RInv true v m n κ'' st.h c 0 { s with path := s.path ++ [(b : Int)], vals := (ph.arms.take j).foldl (armGo s.vals fr ph.d) vs } fu ∧ Fr κ' κ'' Y1 st.h) ∧
        Env.get st.e 0 = .c (.p c 0 0) ∧ Env.get st.e 1 = .c (.i b) ∧ Env.get st.e 2 = .c (.i fr) ∧ Env.get st.e 6 = .c (.sl X3.length 0 0 n) ∧ Env.get st.e 34 = .c w ∧ Env.get st.e 35 = .c (.i bs[b].phis.length) ∧ Env.get st.e 36 = .c (.i i) ∧
        Env.get st.e 8 = .c (.p Y.length 0 0) ∧ Env.get st.e 41 = .c w1 ∧ Env.get st.e 42 = .c (.i ph.arms.length) ∧ Env.get st.e 43 = .c (.i j)) := ⟨_, fun _ _ => Iff.rfl⟩
    have hR10 : RInv true v m n κ' Y1 c 0 { s with path := s.path ++ [(b : Int)], vals := (ph.arms.take 0).foldl (armGo s.vals fr ph.d) vs } fu := hR1
    refine wp_for CM_mono ph.arms.length J ((hJ _ _).2 ⟨⟨κ', hR10, Fr.refl _ _⟩, by simp [e0, e1, e2, e6, e34, e35, e36]⟩) ?_ ?_
    · rintro j ⟨e', Z⟩ hj hJs
      obtain ⟨⟨κ'', hR2, hF2⟩, e0, e1, e2, e6, e34, e35, e36, e8, e41, e42, e43⟩ := (hJ _ _).1 hJs
      simp only at hR2 hF2 e0 e1 e2 e6 e34 e35 e36 e8 e41 e42 e43 ⊢
      have hpZ := (F4.trans (hFF.trans hF2)).pre hp hk
      obtain ⟨id2, g2, off2, s1, ⟨s2, s3, s4⟩, _⟩ := Arms.get (Arms.pre hpZ r3) hj
      obtain ⟨hfr1, hvv⟩ := harm j hj
      have hsu := armsGo_succ (was := s.vals) (fr := fr) (d := ph.d) (vs := vs) hj
      obtain ⟨ws, hws⟩ : ∃ ws, (ph.arms.take j).foldl (armGo s.vals fr ph.d) vs = ws := ⟨_, rfl⟩
      rw [hws] at hR2 hsu
      obtain ⟨a, ha⟩ : ∃ a, ph.arms[j] = a := ⟨_, rfl⟩
      rw [ha] at s2 s3 s4 hfr1 hvv hsu
      obtain ⟨kv, hkv, hvn⟩ := val_nat hvv
      rw [← hn] at hvn
      obtain ⟨Z1, hZ1⟩ : ∃ Z1, Z ++ [(⟨[.i a.fr, .i a.v], 0, true, 2⟩ : Ob)] = Z1 := ⟨_, rfl⟩
      have hR3 : RInv true v m n κ'' Z1 c 0 { s with path := s.path ++ [(b : Int)], vals := ws } fu := by rw [← hZ1]; exact hR2.app _
      have hF3 : Fr κ'' κ'' Z Z1 := by rw [← hZ1]; exact Fr.app _ _ _
      have h10 : rdOb Z1 Z.length 0 = some ⟨[.i a.fr, .i a.v], 0, true, 2⟩ := by rw [← hZ1]; simp
      have hF23 := hF2.trans hF3
      have hW2 := hF23.keep _ _ _ kW1 hW1
      have h82 := hF23.keep _ _ _ k8 h8
      unfold vf198b0
      by_cases hfr : a.fr = fr
      · obtain ⟨vi2, gv2, ci2, rv2, tv2, pv2, Q⟩ := id hR3
        have hobQ : rdOb Z1 c 0 = some ⟨[v, .i m, .sl vi2 gv2 0 n, .sl ci2 0 0 8, rv2, .i fu, tv2, pv2, .i 0], 0, true, 9⟩ := Q.ob
        have hwl : ws.length = n := Q.ok.vals
        have hQv : rdOb Z1 vi2 gv2 = some ⟨ws.map .i, gv2, true, 1⟩ := Q.vals
        have hsl : s.vals.length = n := P.ok.vals
        have hgw : s.vals[kv]? = some (s.vals.getD kv 0) := by simp [List.getD_eq_getElem?_getD, show kv < s.vals.length by omega]
        obtain ⟨z, hz⟩ : ∃ z, s.vals.getD kv 0 = z := ⟨_, rfl⟩
        rw [hz] at hgw
        have hbeq : decide (a.fr = fr) = true := decide_eq_true hfr
        have hix : idxOf 1 (.sl X3.length 0 0 n) a.v = some (.p X3.length 0 kv) := by rw [hkv]; exact idx1 hvn
        simp [e0, e1, e2, e6, e34, e35, e36, e8, e41, e42, e43, hj, s1, s4, putD0, hZ1, rdC_ob h10, hbeq, rdC_ob hobQ, rdC_ob h82, hkd, hix, idx1 hkn, rdC_ob hW2, hgw, hQv, hwl, show kd + 1 ≤ n by omega, int_put (xs := ws) (i := kd) (by omega), up1 hj r4]
        refine (hJ _ _).2 ⟨⟨κ'', ⟨vi2, gv2, ci2, rv2, tv2, pv2, ?_⟩, hF23.trans (Q.frV _)⟩, by simp [e0, e1, e2, e6, e34, e35, e36, e8, e41, e42]⟩
        have hv := RP.withVals (s := { s with path := s.path ++ [(b : Int)] }) Q kd z
        rw [hsu]
        simp only [armGo, if_pos hfr, hkd, hkv, Int.toNat_natCast, hz]
        exact hv
      · simp [e0, e1, e2, e6, e34, e35, e36, e8, e41, e42, e43, hj, s1, s4, putD0, hZ1, rdC_ob h10, hfr, up1 hj r4]
        refine (hJ _ _).2 ⟨⟨κ'', ?_, hF23⟩, by simp [e0, e1, e2, e6, e34, e35, e36, e8, e41, e42]⟩
        rw [hsu]
        simp only [armGo, if_neg hfr]
        exact hR3
    · rintro ⟨e', Z⟩ hJs
      obtain ⟨⟨κ'', hR2, hF2⟩, e0, e1, e2, e6, e34, e35, e36, e8, e41, e42, e43⟩ := (hJ _ _).1 hJs
      simp only at hR2 hF2 e0 e1 e2 e6 e34 e35 e36 e8 e41 e42 e43 ⊢
      rw [List.take_length] at hR2
      unfold vf198b0
      simp [e0, e1, e2, e6, e34, e35, e36, e8, e41, e42, e43, up1 hi q4]
      refine (hI _ _).2 ⟨⟨κ'', ?_, hFF.trans hF2⟩, by simp [e0, e1, e2, e6, e34, e35]⟩
      rw [hsucc]
      exact hR2
  · rintro ⟨e, Y⟩ hIs
    obtain ⟨⟨κ', hR, hF⟩, e0, e1, e2, e6, e34, e35, e36⟩ := (hI _ _).1 hIs
    simp only at hR hF e0 e1 e2 e6 e34 e35 e36 ⊢
    unfold vf198b1
    simp [e0, e1, e2, e6, e34, e35, e36]
    rw [List.take_length] at hR
    exact UnitRes.mk' h hR (F4.trans hF)
end Go.Proofs.YtgdfgnppeekfjaaGreat.Vm
end
section
/- The program's runner: the whole run. No conditions. -/
namespace Go.Proofs.YtgdfgnppeekfjaaGreat.Vm
open Go.RowKit (wrap64)
set_option linter.unusedSimpArgs false
set_option linter.unusedVariables false

theorem listGo_cons (x : InsR) (r : List InsR) (φ : Nat) (s : RunS) : listGo (x :: r) φ s = if (listGo [x] φ s).1 = 0 then listGo r (listGo [x] φ s).2.1 (listGo [x] φ s).2.2 else listGo [x] φ s := by
  cases φ with
  | zero => simp [listGo]
  | succ φ =>
    rw [listGo_one]
    simp only [listGo]
theorem insGo_told (s : RunS) (x : InsR) : (insGo s x).2.told.length ≤ s.told.length + 1 ∧ (insGo s x).2.path = s.path := by
  unfold insGo
  (repeat' split) <;> simp [RunS.put]
theorem listGo_told : ∀ (xs : List InsR) (φ : Nat) (s : RunS), (listGo xs φ s).2.2.told.length + (listGo xs φ s).2.1 ≤ s.told.length + φ ∧ (listGo xs φ s).2.2.path = s.path := by
  intro xs
  induction xs with
  | nil => intro φ s; exact ⟨Nat.le_refl _, rfl⟩
  | cons x r ih =>
    intro φ s
    cases φ with
    | zero => exact ⟨Nat.le_refl _, rfl⟩
    | succ φ =>
      have h := insGo_told s x
      simp only [listGo]
      split
      · have := ih φ (insGo s x).2
        exact ⟨by omega, this.2.trans h.2⟩
      · exact ⟨by simp only; omega, h.2⟩
theorem term_kinds {t : TrmR} {n m : Int} (h : termB t n m = true) : (t.kind = 1 ∧ inB t.to 0 (n - 1) = true) ∨ (t.kind = 2 ∧ inB t.to 0 (n - 1) = true ∧ inB t.els 0 (n - 1) = true ∧ valB t.a m = true) ∨ (t.kind = 3 ∧ valB t.a m = true) := by
  unfold termB at h
  by_cases h1 : t.kind = 1
  · rw [if_pos h1] at h; simp only [Bool.and_eq_true] at h; exact .inl ⟨h1, h.1.1⟩
  · rw [if_neg h1] at h
    by_cases h2 : t.kind = 2
    · rw [if_pos h2] at h; simp only [Bool.and_eq_true] at h; exact .inr (.inl ⟨h2, h.1.1, h.1.2, h.2⟩)
    · rw [if_neg h2] at h
      by_cases h3 : t.kind = 3
      · rw [if_pos h3] at h; simp only [Bool.and_eq_true] at h; exact .inr (.inr ⟨h3, h.1.1⟩)
      · rw [if_neg h3] at h; cases h
theorem inB_nat {x : Int} {n : Nat} (h : inB x 0 ((n : Int) - 1) = true) : ∃ k : Nat, x = k ∧ k < n := by
  have := of_decide_eq_true h
  exact ⟨x.toNat, by omega, by omega⟩
theorem put5 (a b c d e p q r s t : CV) : putAt [a, b, c, d, e] 0 [p, q, r, s, t] = [p, q, r, s, t] := rfl
theorem put44 (a b c d p q r s : CV) : putAt [a, b, c, d] 0 [p, q, r, s] = [p, q, r, s] := rfl
/-- What a run leaves. -/
def RunRes (side : Bool) (v : CV) (m : Int) (n : Nat) (κ : RK) (X : Hp) (c : Nat) (q : Int × Int × RunS) (r : IV × Hp) : Prop :=
  ∃ κ' Z fu', r = (.c (.i q.1), Z) ∧ RInv side v m n κ' Z c q.2.1 q.2.2 fu' ∧ Fr κ κ' X Z
theorem RunRes.mk' {side : Bool} {v : CV} {m : Int} {n : Nat} {κ κ' : RK} {X Y : Hp} {c : Nat} {s : RunS} {fu fu' : Int} {q : Int × Int × RunS} (h : RInv side v m n κ X c 0 s fu) (h' : RInv side v m n κ' Y c q.2.1 q.2.2 fu') (hf : Fr κ κ' X Y) :
    RunRes side v m n κ X c q (gcRet X (.c (.i q.1)) Y) := by
  obtain ⟨κ2, Z, e, h1, h2⟩ := h.gc h' hf (r := .c (.i q.1)) rfl
  rw [e]
  exact ⟨κ2, Z, fu', rfl, h1, h2⟩
set_option maxRecDepth 100000 in
theorem run_call {H X : Hp} {v : CV} {m : Int} {bs : List BlkR} {n : Nat} {κ : RK} {c : Nat} {s : RunS} {φ : Nat} (hH : Blocks H v bs) (hsh : shapeB ⟨bs, m⟩ = true) (hp : Pre H X) (hk : ∀ id, id < H.length → κ id = 0)
    (h : RInv true v m n κ X c 0 s φ) (hn : n = m.toNat) (hφ : φ ≤ 5000) (ht : s.told.length = 0) (hpth : s.path.length = 0) :
    CM 146 [.c (.p c 0 0)] X (RunRes true v m n κ X c (runGo bs (φ + 1) φ 0 (-1) s)) := by
  refine cw146 ?_
  unfold vf146c
  obtain ⟨s1, s2, s3, s4⟩ := shape_len hsh
  simp only at s1 s2 s3 s4
  have hn80 : n ≤ 80 := by omega
  have hmn : ((n : Nat) : Int) = m := by omega
  obtain ⟨q, hq⟩ : ∃ q, runGo bs (φ + 1) φ 0 (-1) s = q := ⟨_, rfl⟩
  rw [hq]
  simp
  obtain ⟨I, hI⟩ : ∃ I : Nat → St → Prop, ∀ k st, I k st ↔ (∃ κ' b fr s', RInv true v m n κ' st.h c 0 s' (k : Nat) ∧ Fr κ κ' X st.h ∧ b < bs.length ∧ runGo bs (k + 1) k b fr s' = q ∧ k ≤ 5000 ∧ s'.told.length + k ≤ 6000 ∧ s'.path.length + k ≤ 6000 ∧
      Env.get st.e 0 = .c (.p c 0 0) ∧ Env.get st.e 3 = .c (.i b) ∧ Env.get st.e 4 = .c (.i fr)) := ⟨_, fun _ _ => Iff.rfl⟩
  refine wp_loop CM_mono I (k := φ) ((hI _ _).2 ⟨κ, 0, -1, s, h, Fr.refl _ _, by omega, hq, hφ, by omega, by omega, by simp⟩) ?_
  rintro k ⟨e, Y⟩ hIs
  obtain ⟨κ1, b, fr, s', hR, hF, hb, hgo, hk5, htl, hpl, e0, e3, e4⟩ := (hI _ _).1 hIs
  simp only at hR hF e0 e3 e4 ⊢
  have hpY := hF.pre hp hk
  have hkY : ∀ id, id < H.length → κ1 id = 0 := fun id hi => by rw [hF.same id (by have := hp.le; omega)]; exact hk id hi
  have hmem : bs[b] ∈ (⟨bs, m⟩ : FnR).blocks := List.getElem_mem hb
  have hps : ∀ p ∈ bs[b].phis, phiB bs.length m p = true := fun p hp => shape_phi hsh hmem hp
  have hxs : ∀ x ∈ bs[b].list, insB x m = true := fun x hx => shape_ins hsh hmem hx
  have htm := shape_term hsh hmem
  simp only at htm
  obtain ⟨i0, g0, off0, w, u, q1, _, q2, _, q3, _, q4, _, _⟩ := Blocks.get hH hb
  unfold vf146b1
  simp [e0, e3, e4]
  refine (come_call hH hpY hkY hR hn hn80 hb hps (fr := fr) (by omega)).mono ?_
  rintro _ ⟨κ2, X2, rfl, hR2, hF2⟩
  have hFF := hF.trans hF2
  have hp2 := hFF.pre hp hk
  obtain ⟨vi, gv, ci, rv, tv, pv, P2⟩ := id hR2
  have hob2 : rdOb X2 c 0 = some ⟨[v, .i m, .sl vi gv 0 n, .sl ci 0 0 8, rv, .i k, tv, pv, .i 0], 0, true, 9⟩ := P2.ob
  obtain ⟨G2, hG2⟩ := id hp2
  have q2' := q2 G2
  rw [← hG2] at q2'
  simp [e0, e3, e4, rdC_ob hob2, q1, q2'.2.1, q3.lenOf]
  obtain ⟨sc, hsc⟩ : ∃ sc, comeGo b fr bs[b].phis s' = sc := ⟨_, rfl⟩
  have hsct : sc.told = s'.told := by rw [← hsc]; rfl
  have hscp : sc.path.length = s'.path.length + 1 := by rw [← hsc]; simp [comeGo]
  rw [hsc] at hR2
  obtain ⟨R, hRe⟩ : ∃ R, listGo bs[b].list k sc = R := ⟨_, rfl⟩
  have hgo2 : (if R.1 = 0 then (if R.2.1 = 0 then (1, 0, R.2.2) else if bs[b].term.kind = 3 then (0, R.2.2.get bs[b].term.a, R.2.2) else runGo bs k (R.2.1 - 1) (nextGo bs[b].term R.2.2).toNat (b : Int) R.2.2) else (R.1, 0, R.2.2)) = q := by
    rw [← hgo]
    simp only [runGo, blk_at hb, hsc, hRe]
  have hRt : R.2.2.told.length + R.2.1 ≤ s'.told.length + k ∧ R.2.2.path.length + R.2.1 ≤ s'.path.length + 1 + k ∧ R.2.1 ≤ k := by
    have a := listGo_told bs[b].list k sc
    have a2 := listGo_fuel bs[b].list k sc
    rw [hRe] at a a2
    rw [hsct] at a
    exact ⟨a.1, by rw [a.2, hscp]; omega, a2⟩
  obtain ⟨J, hJ⟩ : ∃ J : Nat → St → Prop, ∀ i st, J i st ↔ (∃ κ3 φi si, RInv true v m n κ3 st.h c 0 si (φi : Nat) ∧ Fr κ2 κ3 X2 st.h ∧ listGo (bs[b].list.drop i) φi si = R ∧ φi ≤ 5000 ∧ si.told.length + φi ≤ 6000 ∧
      Env.get st.e 0 = .c (.p c 0 0) ∧ Env.get st.e 3 = .c (.i b) ∧ Env.get st.e 4 = .c (.i fr) ∧ Env.get st.e 21 = .c u ∧ Env.get st.e 22 = .c (.i bs[b].list.length) ∧ Env.get st.e 23 = .c (.i i)) := ⟨_, fun _ _ => Iff.rfl⟩
  refine wp_for CM_mono bs[b].list.length J ((hJ _ _).2 ⟨κ2, k, sc, hR2, Fr.refl _ _, by simpa using hRe, hk5, by rw [hsct]; exact htl, by simp [e0, e3, e4]⟩) ?_ ?_
  · rintro i ⟨e', Z⟩ hi hJs
    obtain ⟨κ3, φi, si, hR3, hF3, hgi, hf5, htl3, e0, e3, e4, e21, e22, e23⟩ := (hJ _ _).1 hJs
    simp only at hR3 hF3 e0 e3 e4 e21 e22 e23 ⊢
    have hpZ := (hFF.trans hF3).pre hp hk
    obtain ⟨id2, g2, off2, r1, ⟨_, _, _, _, _, r2⟩, _⟩ := List5.get (List5.pre hpZ q3) hi
    obtain ⟨x, hx⟩ : ∃ x, bs[b].list[i] = x := ⟨_, rfl⟩
    have hxB : insB x m = true := by rw [← hx]; exact hxs _ (List.getElem_mem hi)
    rw [hx] at r2
    rw [List.drop_eq_getElem_cons hi, hx, listGo_cons] at hgi
    obtain ⟨Z1, hZ1⟩ : ∃ Z1, Z ++ [(⟨[.i x.op, .i x.d, .i x.a, .i x.b, .i x.n], 0, true, 5⟩ : Ob)] = Z1 := ⟨_, rfl⟩
    have hR4 : RInv true v m n κ3 Z1 c 0 si φi := by rw [← hZ1]; exact hR3.app _
    have hF4 : Fr κ3 κ3 Z Z1 := by rw [← hZ1]; exact Fr.app _ _ _
    have h6 : rdOb Z1 Z.length 0 = some ⟨[.i x.op, .i x.d, .i x.a, .i x.b, .i x.n], 0, true, 5⟩ := by rw [← hZ1]; simp
    unfold vf146b0
    simp [e0, e3, e4, e21, e22, e23, hi, r1, r2, put5, hZ1, rdN_ob h6]
    refine (ins_call hR4 hn (by omega) (by omega) hxB).mono ?_
    rintro _ ⟨κ4, Z2, fu', rfl, hR5, hF5, hfu⟩
    obtain ⟨p, hpe⟩ : ∃ p, listGo [x] φi si = p := ⟨_, rfl⟩
    have hpt := listGo_told [x] φi si
    have hpf := listGo_fuel [x] φi si
    rw [hpe] at hR5 hfu hgi hpt hpf
    rw [hpe]
    have hFa := hF3.trans (hF4.trans hF5)
    by_cases hp0 : p.1 = 0
    · rw [if_pos hp0] at hgi
      have hfu := hfu hp0
      subst hfu
      simp [hp0, e0, e3, e4, e21, e22, e23, up1 hi q4]
      exact (hJ _ _).2 ⟨κ4, p.2.1, p.2.2, hR5, hFa, hgi, by omega, by omega, by simp [e0, e3, e4, e21, e22]⟩
    · rw [if_neg hp0] at hgi
      rw [← hgi, if_neg hp0] at hgo2
      simp [hp0, e0, e3, e4, e21, e22, e23]
      rw [← hgo2]
      exact RunRes.mk' (q := (p.1, 0, p.2.2)) h hR5 (hFF.trans hFa)
  · rintro ⟨e', Z⟩ hJs
    obtain ⟨κ3, φi, si, hR3, hF3, hgi, hf5, htl3, e0, e3, e4, e21, e22, e23⟩ := (hJ _ _).1 hJs
    simp only at hR3 hF3 e0 e3 e4 e21 e22 e23 ⊢
    rw [List.drop_eq_nil_of_le (Nat.le_refl _)] at hgi
    have hgi : (0, φi, si) = R := hgi
    obtain ⟨Z1, hR4, hF4, esp⟩ := spend_call hR3 (by omega)
    have hFa := hF3.trans hF4
    rw [← hgi] at hgo2 hRt
    simp only [if_true] at hgo2 hRt
    unfold vf146b0
    cases φi with
    | zero =>
      have hd : decide (0 ≤ ((0 : Nat) : Int) - 1) = false := rfl
      rw [hd] at esp
      simp only [if_true] at hgo2
      simp [e0, e3, e4, e21, e22, e23, esp]
      rw [← hgo2]
      exact RunRes.mk' (q := (1, 0, si)) h hR4 (hFF.trans hFa)
    | succ φ2 =>
      have hd : decide (0 ≤ ((φ2 + 1 : Nat) : Int) - 1) = true := decide_eq_true (by omega)
      rw [hd] at esp
      have efu : ((φ2 + 1 : Nat) : Int) - 1 = φ2 := by omega
      rw [efu] at hR4
      simp only [show ¬ (φ2 + 1 = 0) by omega, if_false, Nat.add_sub_cancel] at hgo2
      have hp4 := (hFF.trans hFa).pre hp hk
      obtain ⟨G4, hG4⟩ := id hp4
      have q2' := q2 G4
      rw [← hG4] at q2'
      obtain ⟨vi, gv, ci, rv, tv, pv, P4⟩ := id hR4
      have hob4 : rdOb Z1 c 0 = some ⟨[v, .i m, .sl vi gv 0 n, .sl ci 0 0 8, rv, .i φ2, tv, pv, .i 0], 0, true, 9⟩ := P4.ob
      obtain ⟨t, ht'⟩ : ∃ t, bs[b].term = t := ⟨_, rfl⟩
      rw [ht'] at q2' htm hgo2
      obtain ⟨kind, ta, to, els⟩ := t
      obtain ⟨Z2, hZ2⟩ : ∃ Z2, Z1 ++ [(⟨[.i kind, .i ta, .i to, .i els], 0, true, 4⟩ : Ob)] = Z2 := ⟨_, rfl⟩
      have P5 : RP true v m n κ3 Z2 c 0 si φ2 vi gv ci rv tv pv := by rw [← hZ2]; exact P4.app _
      have hF5 : Fr κ3 κ3 Z1 Z2 := by rw [← hZ2]; exact Fr.app _ _ _
      have h8 : rdOb Z2 Z1.length 0 = some ⟨[.i kind, .i ta, .i to, .i els], 0, true, 4⟩ := by rw [← hZ2]; simp
      have hob5 : rdOb Z2 c 0 = some ⟨[v, .i m, .sl vi gv 0 n, .sl ci 0 0 8, rv, .i φ2, tv, pv, .i 0], 0, true, 9⟩ := P5.ob
      have hFb := hFF.trans (hFa.trans hF5)
      rcases term_kinds htm with ⟨hk1, hto⟩ | ⟨hk2, hto, hel, hta⟩ | ⟨hk3, hta⟩
      · simp only at hk1 hto
        subst hk1
        obtain ⟨kt, rfl, hkt⟩ := inB_nat hto
        simp [e0, e3, e4, e21, e22, e23, esp, rdC_ob hob4, q1, q2'.2.2.2.2.2.2.2.2.2.1, put44, hZ2, rdC_ob h8]
        refine ⟨φ2, by omega, (hI _ _).2 ⟨κ3, kt, b, si, ⟨vi, gv, ci, rv, tv, pv, P5⟩, hFb, hkt, ?_, by omega, by omega, by omega, by simp [e0]⟩⟩
        rw [← hgo2]
        simp only [nextGo, show ¬ ((1 : Int) = 3) by omega, if_false, show ¬ ((1 : Int) = 2 ∧ si.get ta = 0) by omega, Int.toNat_natCast]
        exact runGo_more bs _ _ _ _ _ _ (by omega) (by omega)
      · simp only at hk2 hto hel hta
        subst hk2
        obtain ⟨kt, rfl, hkt⟩ := inB_nat hto
        obtain ⟨ke, rfl, hke⟩ := inB_nat hel
        obtain ⟨ka, rfl, hka⟩ := val_nat hta
        rw [← hn] at hka
        have ga := RunS.get_at P5.ok hka
        by_cases hz : si.get ka = 0
        · rw [hz] at ga
          simp [e0, e3, e4, e21, e22, e23, esp, rdC_ob hob4, q1, q2'.2.2.2.2.2.2.2.2.2.1, put44, hZ2, rdC_ob h8, rdC_ob hob5, idx1 hka, rdC_ob P5.vals, ga]
          refine ⟨φ2, by omega, (hI _ _).2 ⟨κ3, ke, b, si, ⟨vi, gv, ci, rv, tv, pv, P5⟩, hFb, hke, ?_, by omega, by omega, by omega, by simp [e0]⟩⟩
          rw [← hgo2]
          simp only [nextGo, show ¬ ((2 : Int) = 3) by omega, if_false, hz, and_self, if_true, Int.toNat_natCast]
          exact runGo_more bs _ _ _ _ _ _ (by omega) (by omega)
        · simp [e0, e3, e4, e21, e22, e23, esp, rdC_ob hob4, q1, q2'.2.2.2.2.2.2.2.2.2.1, put44, hZ2, rdC_ob h8, rdC_ob hob5, idx1 hka, rdC_ob P5.vals, ga, hz]
          refine ⟨φ2, by omega, (hI _ _).2 ⟨κ3, kt, b, si, ⟨vi, gv, ci, rv, tv, pv, P5⟩, hFb, hkt, ?_, by omega, by omega, by omega, by simp [e0]⟩⟩
          rw [← hgo2]
          simp only [nextGo, show ¬ ((2 : Int) = 3) by omega, if_false, hz, and_false, Int.toNat_natCast]
          exact runGo_more bs _ _ _ _ _ _ (by omega) (by omega)
      · simp only at hk3 hta
        subst hk3
        obtain ⟨ka, rfl, hka⟩ := val_nat hta
        rw [← hn] at hka
        have ga := RunS.get_at P5.ok hka
        simp [e0, e3, e4, e21, e22, e23, esp, rdC_ob hob4, q1, q2'.2.2.2.2.2.2.2.2.2.1, put44, hZ2, rdC_ob h8, rdC_ob hob5, idx1 hka, rdC_ob P5.vals, ga, hob5, putL8]
        simp only [if_true] at hgo2
        rw [← hgo2]
        exact RunRes.mk' (q := (0, si.get ka, si)) h ⟨vi, gv, ci, rv, tv, pv, P5.own0 (si.get ka) φ2⟩ (hFb.trans (P5.frC _))
end Go.Proofs.YtgdfgnppeekfjaaGreat.Vm
end
section
/- The program's runs: Run and Path. No conditions. -/
namespace Go.Proofs.YtgdfgnppeekfjaaGreat.Vm
open Go.RowKit (wrap64)
set_option linter.unusedSimpArgs false
set_option linter.unusedVariables false

def RanRes (H : Hp) (q : Int × Int × RunS) (r : IV × Hp) : Prop :=
  ∃ Z c tv pv, r = (.tup [(false, [.p c 0 0]), (false, [.i q.1])], Z) ∧ Pre H Z ∧ H.length ≤ c ∧ rdC Z c 0 6 = some tv ∧ rdC Z c 0 7 = some pv ∧ rdC Z c 0 8 = some (.i q.2.1) ∧
    OutR Z tv q.2.2.told ∧ (∀ id, IsOut tv id → H.length ≤ id) ∧ OutR Z pv q.2.2.path ∧ (∀ id, IsOut pv id → H.length ≤ id)
theorem gc_tup2 (H Y : Hp) (c : Nat) (x : Int) : gcRet H (.tup [(false, [.p c 0 0]), (false, [.i x])]) Y = (.tup [(false, [.p c 0 0]), (false, [.i x])], Y) := by
  unfold gcRet; split
  · rw [if_neg (by simp [flatV, flatC])]
  · rfl
theorem not_out {n : Nat} : ∀ id, IsOut .ns id → n ≤ id := by
  rintro id ⟨g, k, h⟩; cases h
theorem min_fuel {fuel : Int} (h : 0 ≤ fuel) : (if 5000 < fuel then 5000 else fuel) = (((min fuel 5000).toNat : Nat) : Int) ∧ (min fuel 5000).toNat ≤ 5000 := by
  by_cases h5 : 5000 < fuel
  · rw [if_pos h5]; omega
  · rw [if_neg h5]; omega
set_option maxRecDepth 100000 in
theorem ran_call {H : Hp} {v rv : CV} {f : FnR} {reads : List Int} {fuel : Int} (hH : Blocks H v f.blocks) (hb : f.blocks.length ≤ BIG) (hr : IsI H rv reads) :
    CM 80 [.agg [v, .i f.values], .c rv, .c (.i fuel)] H (RanRes H (runW f reads fuel)) := by
  refine cw80 ?_
  unfold vf80c
  obtain ⟨X1, hX1⟩ : ∃ X1, H ++ [(⟨[v, .i f.values], 0, true, 2⟩ : Ob)] = X1 := ⟨_, rfl⟩
  have hp1 : Pre H X1 := ⟨_, hX1.symm⟩
  have h3 : rdOb X1 H.length 0 = some ⟨[v, .i f.values], 0, true, 2⟩ := by rw [← hX1]; simp
  have l1 : X1.length = H.length + 1 := by rw [← hX1]; simp
  obtain ⟨X2, hX2⟩ : ∃ X2, X1 ++ [(⟨[.ns, .i 0, .ns, .ns, .ns, .i 0, .ns, .ns, .i 0], 0, true, 9⟩ : Ob)] = X2 := ⟨_, rfl⟩
  have hp2 : Pre X1 X2 := ⟨_, hX2.symm⟩
  have h11 : rdOb X2 X1.length 0 = some ⟨[.ns, .i 0, .ns, .ns, .ns, .i 0, .ns, .ns, .i 0], 0, true, 9⟩ := by rw [← hX2]; simp
  have l2 : X2.length = H.length + 2 := by rw [← hX2]; simp [l1]
  have h32 := hp2.rdOb h3
  have hB2 := (hH.pre hp1).pre hp2
  by_cases hs : shapeB f = true ∧ 0 ≤ fuel
  · obtain ⟨hsh, hf0⟩ := hs
    have hw : runW f reads fuel = runGo f.blocks ((min fuel 5000).toNat + 1) (min fuel 5000).toNat 0 (-1) (initS f.values reads) := by unfold runW; rw [if_pos ⟨hsh, hf0⟩]
    obtain ⟨hmn, hφ⟩ := min_fuel hf0
    obtain ⟨s1, s2, s3, s4⟩ := shape_len hsh
    rw [hw]
    obtain ⟨φ, hφe⟩ : ∃ φ, (min fuel 5000).toNat = φ := ⟨_, rfl⟩
    rw [hφe] at hmn hφ ⊢
    have hrun : ∀ (X5 : Hp) (c vi ci : Nat), Pre H X5 → H.length ≤ c → H.length ≤ vi → H.length ≤ ci → c ≠ vi → c ≠ ci → vi ≠ ci → rdOb X5 c 0 = some ⟨[v, .i f.values, .sl vi 0 0 f.values.toNat, .sl ci 0 0 8, rv, .i φ, .ns, .ns, .i 0], 0, true, 9⟩ →
        rdOb X5 vi 0 = some ⟨List.replicate f.values.toNat (.i 0), 0, true, 1⟩ → rdOb X5 ci 0 = some ⟨List.replicate 8 (.i 0), 0, true, 1⟩ →
        CM 146 [.c (.p c 0 0)] X5 fun r => ∃ Z tv pv, r = (.c (.i (runGo f.blocks (φ + 1) φ 0 (-1) (initS f.values reads)).1), Z) ∧ Pre H Z ∧ rdC Z c 0 6 = some tv ∧ rdC Z c 0 7 = some pv ∧ rdC Z c 0 8 = some (.i (runGo f.blocks (φ + 1) φ 0 (-1) (initS f.values reads)).2.1) ∧
          OutR Z tv (runGo f.blocks (φ + 1) φ 0 (-1) (initS f.values reads)).2.2.told ∧ (∀ id, IsOut tv id → H.length ≤ id) ∧ OutR Z pv (runGo f.blocks (φ + 1) φ 0 (-1) (initS f.values reads)).2.2.path ∧ (∀ id, IsOut pv id → H.length ≤ id) := by
      intro X5 c vi ci hp5 hc hv5 hc5 n1 n2 n3 o1 o2 o3
      obtain ⟨κ, hκ⟩ : ∃ κ : RK, ∀ id, κ id = if id = c then 1 else if id = vi then 2 else if id = ci then 3 else 0 := ⟨fun id => if id = c then 1 else if id = vi then 2 else if id = ci then 3 else 0, fun _ => rfl⟩
      have hk : ∀ id, id < H.length → κ id = 0 := fun id hi => by rw [hκ, if_neg (by omega), if_neg (by omega), if_neg (by omega)]
      have hR : RInv true v f.values f.values.toNat κ X5 c 0 (initS f.values reads) φ := by
        refine ⟨vi, 0, ci, rv, .ns, .ns, initS_ok _ _, o1, by rw [hκ, if_pos rfl], by rw [hκ, if_neg (fun e => n1 e.symm), if_pos rfl], by rw [hκ, if_neg (fun e => n2 e.symm), if_neg (fun e => n3 e.symm), if_pos rfl], ?_, ?_, Sl.pre hp5 hr, ?_, .inl ⟨rfl, rfl⟩, ?_, .inl ⟨rfl, rfl⟩, ?_, ?_⟩
        · simpa [initS] using o2
        · simpa [initS] using o3
        · intro id g off k he
          subst he
          rcases hr with ⟨h, _⟩ | ⟨_, _, _, _, h, h2, _⟩
          · cases h
          · cases h; exact hk _ (rdOb_lt h2)
        · rintro id ⟨g, k, h⟩; cases h
        · rintro id ⟨g, k, h⟩; cases h
        · intro id hi
          have a := rdOb_lt o1; have b := rdOb_lt o2; have d := rdOb_lt o3
          rw [hκ, if_neg (by omega), if_neg (by omega), if_neg (by omega)]
      refine (run_call hH hsh hp5 hk hR rfl hφ rfl rfl).mono ?_
      rintro _ ⟨κ', Z, fu', rfl, ⟨vi', gv', ci', rv', tv, pv, P⟩, F⟩
      have hob : rdOb Z c 0 = some ⟨[v, .i f.values, .sl vi' gv' 0 f.values.toNat, .sl ci' 0 0 8, rv', .i fu', tv, pv, .i _], 0, true, 9⟩ := P.ob
      have hlo : ∀ id, id < H.length → κ' id = 0 := fun id hi => by rw [F.same id (by have := hp5.le; omega)]; exact hk id hi
      refine ⟨Z, tv, pv, rfl, F.pre hp5 hk, by rw [rdC_ob hob]; rfl, by rw [rdC_ob hob]; rfl, by rw [rdC_ob hob]; rfl, P.told, fun id hi => ?_, P.path, fun id hi => ?_⟩
      · have := P.kt id hi
        cases Nat.lt_or_ge id H.length with
        | inl h => rw [hlo id h] at this; cases this
        | inr h => exact h
      · have := P.kp id hi
        cases Nat.lt_or_ge id H.length with
        | inl h => rw [hlo id h] at this; cases this
        | inr h => exact h
    have hm1 : (0 ≤ f.values ∧ f.values ≤ (LIM : Int)) = True := eq_true ⟨s3, by simp only [LIM]; omega⟩
    have hm8 : (8 ≤ LIM) = True := eq_true (by simp only [LIM]; omega)
    -- one order
    obtain ⟨A1, hA1⟩ : ∃ A1, X2 ++ [(⟨List.replicate f.values.toNat (.i 0), 0, true, 1⟩ : Ob)] = A1 := ⟨_, rfl⟩
    obtain ⟨A2, hA2⟩ : ∃ A2, A1 ++ [(⟨[.i 0, .i 0, .i 0, .i 0, .i 0, .i 0, .i 0, .i 0], 0, true, 1⟩ : Ob)] = A2 := ⟨_, rfl⟩
    obtain ⟨A3, hA3⟩ : ∃ A3, A2 ++ [(⟨[v, .i f.values, .sl X2.length 0 0 f.values.toNat, .sl A1.length 0 0 8, rv, .i φ, .ns, .ns, .i 0], 0, true, 9⟩ : Ob)] = A3 := ⟨_, rfl⟩
    have pA1 : Pre X2 A1 := ⟨_, hA1.symm⟩
    have pA2 : Pre A1 A2 := ⟨_, hA2.symm⟩
    have pA3 : Pre A2 A3 := ⟨_, hA3.symm⟩
    have lA1 : A1.length = X2.length + 1 := by rw [← hA1]; simp
    have lA2 : A2.length = X2.length + 2 := by rw [← hA2]; simp [lA1]
    have oA1 : rdOb A1 X2.length 0 = some ⟨List.replicate f.values.toNat (.i 0), 0, true, 1⟩ := by rw [← hA1]; simp
    have oA2 : rdOb A2 A1.length 0 = some ⟨List.replicate 8 (.i 0), 0, true, 1⟩ := by rw [← hA2]; simp
    have oA3 : rdOb A3 A2.length 0 = some ⟨[v, .i f.values, .sl X2.length 0 0 f.values.toNat, .sl A1.length 0 0 8, rv, .i φ, .ns, .ns, .i 0], 0, true, 9⟩ := by rw [← hA3]; simp
    have rA := hrun A3 A2.length X2.length A1.length ((hp1.trans hp2).trans (pA1.trans (pA2.trans pA3))) (by omega) (by omega) (by omega) (by omega) (by omega) (by omega) oA3 ((pA2.trans pA3).rdOb oA1) (pA3.rdOb oA2)
    have kA1 : rdOb A1 H.length 0 = rdOb X2 H.length 0 := by rw [pA1.rdOb h32, h32]
    have kA2 : rdOb A2 H.length 0 = rdOb X2 H.length 0 := by rw [(pA1.trans pA2).rdOb h32, h32]
    -- the other one
    obtain ⟨B1, hB1⟩ : ∃ B1, X2 ++ [(⟨[.i 0, .i 0, .i 0, .i 0, .i 0, .i 0, .i 0, .i 0], 0, true, 1⟩ : Ob)] = B1 := ⟨_, rfl⟩
    obtain ⟨B2, hB2'⟩ : ∃ B2, B1 ++ [(⟨List.replicate f.values.toNat (.i 0), 0, true, 1⟩ : Ob)] = B2 := ⟨_, rfl⟩
    obtain ⟨B3, hB3⟩ : ∃ B3, B2 ++ [(⟨[v, .i f.values, .sl B1.length 0 0 f.values.toNat, .sl X2.length 0 0 8, rv, .i φ, .ns, .ns, .i 0], 0, true, 9⟩ : Ob)] = B3 := ⟨_, rfl⟩
    have pB1 : Pre X2 B1 := ⟨_, hB1.symm⟩
    have pB2 : Pre B1 B2 := ⟨_, hB2'.symm⟩
    have pB3 : Pre B2 B3 := ⟨_, hB3.symm⟩
    have lB1 : B1.length = X2.length + 1 := by rw [← hB1]; simp
    have lB2 : B2.length = X2.length + 2 := by rw [← hB2']; simp [lB1]
    have oB1 : rdOb B1 X2.length 0 = some ⟨List.replicate 8 (.i 0), 0, true, 1⟩ := by rw [← hB1]; simp
    have oB2 : rdOb B2 B1.length 0 = some ⟨List.replicate f.values.toNat (.i 0), 0, true, 1⟩ := by rw [← hB2']; simp
    have oB3 : rdOb B3 B2.length 0 = some ⟨[v, .i f.values, .sl B1.length 0 0 f.values.toNat, .sl X2.length 0 0 8, rv, .i φ, .ns, .ns, .i 0], 0, true, 9⟩ := by rw [← hB3]; simp
    have rB := hrun B3 B2.length B1.length X2.length ((hp1.trans hp2).trans (pB1.trans (pB2.trans pB3))) (by omega) (by omega) (by omega) (by omega) (by omega) (by omega) oB3 (pB3.rdOb oB2) ((pB2.trans pB3).rdOb oB1)
    have kB1 : rdOb B1 H.length 0 = rdOb X2 H.length 0 := by rw [pB1.rdOb h32, h32]
    have kB2 : rdOb B2 H.length 0 = rdOb X2 H.length 0 := by rw [(pB1.trans pB2).rdOb h32, h32]
    have h3B1 := pB1.rdOb h32
    have hform : rv = .ns ∨ ∃ i1 g1 o1 k1, rv = .sl i1 g1 o1 k1 := by
      rcases hr with ⟨h, _⟩ | ⟨i1, g1, o1, _, h, _⟩
      · exact .inl h
      · exact .inr ⟨i1, g1, o1, _, h⟩
    rcases hform with rfl | ⟨i1, g1, o1, k1, rfl⟩
    all_goals
      simp [hX1, hX2, rdN_ob h32, implShape hB2 hb, hsh, Int.not_lt.2 hf0, vf80t0, rdC_ob h32, rdC_ob h3B1, rdN_ob h3B1, hm1, hm8, hA1, hA2, kA1, kA2, hB1, hB2', kB1, kB2, hmn, putD0, putL2, putL3, putL4, putL5, hA3, hB3]
      refine ⟨?_, ?_⟩
      · refine rA.mono ?_
        rintro _ ⟨Z, tv, pv, rfl, a1, a2, a3, a4, a5, a6, a7, a8⟩
        simp [gc_tup2]
        exact ⟨Z, _, tv, pv, rfl, a1, by omega, a2, a3, a4, a5, a6, a7, a8⟩
      · refine rB.mono ?_
        rintro _ ⟨Z, tv, pv, rfl, a1, a2, a3, a4, a5, a6, a7, a8⟩
        simp [gc_tup2]
        exact ⟨Z, _, tv, pv, rfl, a1, by omega, a2, a3, a4, a5, a6, a7, a8⟩
  · have hw : runW f reads fuel = (3, 0, ⟨[], [], [], [], []⟩) := by unfold runW; rw [if_neg hs]
    rw [hw]
    have hend : RanRes H (3, 0, ⟨[], [], [], [], []⟩) (.tup [(false, [.p X1.length 0 0]), (false, [.i 3])], X2) :=
      ⟨X2, X1.length, .ns, .ns, rfl, hp1.trans hp2, by omega, by rw [rdC_ob h11]; rfl, by rw [rdC_ob h11]; rfl, by rw [rdC_ob h11]; rfl, .inl ⟨rfl, rfl⟩, not_out, .inl ⟨rfl, rfl⟩, not_out⟩
    cases hsh : shapeB f with
    | false =>
      simp [hX1, hX2, rdN_ob h32, implShape hB2 hb, hsh, gc_tup2]
      exact hend
    | true =>
      have hf0 : fuel < 0 := Int.not_le.1 fun h => hs ⟨hsh, h⟩
      simp [hX1, hX2, rdN_ob h32, implShape hB2 hb, hsh, hf0, gc_tup2]
      exact hend
/-- What a run answers. -/
def RunOut (H : Hp) (q : Int × Int × RunS) (r : IV × Hp) : Prop :=
  ∃ Z tv, r = (.tup [(false, [tv]), (false, [.i q.1]), (false, [.i q.2.1])], Z) ∧ Pre H Z ∧ OutR Z tv q.2.2.told ∧ ∀ id, IsOut tv id → H.length ≤ id
theorem OutR.form {X : Hp} {w : CV} {xs : List Int} (h : OutR X w xs) : w = .ns ∨ ∃ id g n, w = .sl id g 0 n := by
  rcases h with ⟨h, _⟩ | ⟨o, g, h, _⟩
  · exact .inl h
  · exact .inr ⟨o, g, _, h⟩
theorem RunOut.gc {H Z : Hp} {tv : CV} {x y : Int} {xs : List Int} (hp : Pre H Z) (ht : OutR Z tv xs) (ho : ∀ id, IsOut tv id → H.length ≤ id) :
    ∃ Z', gcRet H (.tup [(false, [tv]), (false, [.i x]), (false, [.i y])]) Z = (.tup [(false, [tv]), (false, [.i x]), (false, [.i y])], Z') ∧ Pre H Z' ∧ OutR Z' tv xs := by
  rcases ht.form with rfl | ⟨id, g, n, rfl⟩
  · refine ⟨H, gcRet_flat hp rfl, Pre.refl _, ?_⟩
    rcases ht with ⟨_, h⟩ | ⟨_, _, h, _⟩
    · exact .inl ⟨rfl, h⟩
    · cases h
  · refine ⟨Z, ?_, hp, ht⟩
    unfold gcRet; split
    · rw [if_neg (by simp [flatV, flatC])]
    · rfl
theorem implRun {H : Hp} {v rv : CV} {f : FnR} {reads : List Int} {fuel : Int} (hH : Blocks H v f.blocks) (hb : f.blocks.length ≤ BIG) (hr : IsI H rv reads) :
    CM 21 [.agg [v, .i f.values], .c rv, .c (.i fuel)] H (RunOut H (runW f reads fuel)) := by
  refine cw21 ?_
  unfold vf21c
  obtain ⟨X1, hX1⟩ : ∃ X1, H ++ [(⟨[v, .i f.values], 0, true, 2⟩ : Ob)] = X1 := ⟨_, rfl⟩
  have hp1 : Pre H X1 := ⟨_, hX1.symm⟩
  have h3 : rdOb X1 H.length 0 = some ⟨[v, .i f.values], 0, true, 2⟩ := by rw [← hX1]; simp
  simp [hX1, rdN_ob h3]
  refine (ran_call (hH.pre hp1) hb (Sl.pre hp1 hr)).mono ?_
  rintro _ ⟨Z, c, tv, pv, rfl, a1, a2, a3, a4, a5, a6, a7, a8⟩
  obtain ⟨Z', g1, g2, g3⟩ := RunOut.gc (x := (runW f reads fuel).1) (y := (runW f reads fuel).2.1) (hp1.trans a1) a6 (fun id hi => by have := a7 id hi; have := hp1.le; omega)
  have hend : RunOut H (runW f reads fuel) (.tup [(false, [tv]), (false, [.i (runW f reads fuel).1]), (false, [.i (runW f reads fuel).2.1])], Z') := ⟨Z', tv, rfl, g2, g3, fun id hi => by have := a7 id hi; have := hp1.le; omega⟩
  rcases a6.form with rfl | ⟨i1, g1, n1, rfl⟩
  all_goals
    simp [a3, a5, g1]
    exact hend
end Go.Proofs.YtgdfgnppeekfjaaGreat.Vm
end
section
/- The specification's run: a place of a list, the phis of a block. No conditions. -/
namespace Go.Proofs.YtgdfgnppeekfjaaGreat.Vm
open Go.RowKit (wrap64)
set_option linter.unusedSimpArgs false
set_option linter.unusedVariables false

def SInsRes (v : CV) (m : Int) (n : Nat) (κ : RK) (X : Hp) (c : Nat) (fu : Int) (q : Int × RunS) (r : IV × Hp) : Prop :=
  ∃ κ' Z, r = (.c (.i q.1), Z) ∧ RInv false v m n κ' Z c 0 q.2 fu ∧ Fr κ κ' X Z
theorem SInsRes.mk' {v : CV} {m : Int} {n : Nat} {κ κ' : RK} {X Y : Hp} {c : Nat} {s : RunS} {fu : Int} {q : Int × RunS} (h : RInv false v m n κ X c 0 s fu) (h' : RInv false v m n κ' Y c 0 q.2 fu) (hf : Fr κ κ' X Y) :
    SInsRes v m n κ X c fu q (gcRet X (.c (.i q.1)) Y) := by
  obtain ⟨κ2, Z, e, h1, h2⟩ := h.gc h' hf (r := .c (.i q.1)) rfl
  rw [e]
  exact ⟨κ2, Z, rfl, h1, h2⟩
end Go.Proofs.YtgdfgnppeekfjaaGreat.Vm
end
section
/- The specification's run: the phis of a block, and the whole run. No conditions. -/
namespace Go.Proofs.YtgdfgnppeekfjaaGreat.Vm
open Go.RowKit (wrap64)
set_option linter.unusedSimpArgs false
set_option linter.unusedVariables false

end Go.Proofs.YtgdfgnppeekfjaaGreat.Vm
end
section
/- The specification's run, whole. No conditions. -/
namespace Go.Proofs.YtgdfgnppeekfjaaGreat.Vm
open Go.RowKit (wrap64)
set_option linter.unusedSimpArgs false
set_option linter.unusedVariables false

def SRunRes (v : CV) (m : Int) (n : Nat) (κ : RK) (X : Hp) (c : Nat) (q : Int × Int × RunS) (r : IV × Hp) : Prop :=
  ∃ κ' Z fu', r = (.tup [(false, [.i q.1]), (false, [.i q.2.1])], Z) ∧ RInv false v m n κ' Z c 0 q.2.2 fu' ∧ Fr κ κ' X Z
theorem SRunRes.mk' {v : CV} {m : Int} {n : Nat} {κ κ' : RK} {X Y : Hp} {c : Nat} {s : RunS} {fu fu' : Int} {q : Int × Int × RunS} (h : RInv false v m n κ X c 0 s fu) (h' : RInv false v m n κ' Y c 0 q.2.2 fu') (hf : Fr κ κ' X Y) :
    SRunRes v m n κ X c q (gcRet X (.tup [(false, [.i q.1]), (false, [.i q.2.1])]) Y) := by
  obtain ⟨κ2, Z, e, h1, h2⟩ := h.gc h' hf (r := .tup [(false, [.i q.1]), (false, [.i q.2.1])]) rfl
  rw [e]
  exact ⟨κ2, Z, fu', rfl, h1, h2⟩
end Go.Proofs.YtgdfgnppeekfjaaGreat.Vm
end
section
/- The specification's run: where it begins; Run and Path. No conditions. -/
namespace Go.Proofs.YtgdfgnppeekfjaaGreat.Vm
open Go.RowKit (wrap64)
set_option linter.unusedSimpArgs false
set_option linter.unusedVariables false

/-- The parts of a run that begins: values, cells, reads, told, path. -/
def NewPs (m : Int) (reads : List Int) (κ : RK) (h : Hp) (vi ci ri g ti pi : Nat) : Prop :=
  (κ vi = 2 ∧ rdOb h vi 0 = some ⟨List.replicate m.toNat (.i 0), 0, true, 1⟩) ∧ (κ ci = 3 ∧ rdOb h ci 0 = some ⟨List.replicate 8 (.i 0), 0, true, 1⟩) ∧ (κ ri = 6 ∧ rdOb h ri g = some ⟨reads.map .i, g, true, 1⟩) ∧
  (κ ti = 4 ∧ rdOb h ti 0 = some ⟨[], 0, true, 1⟩) ∧ (κ pi = 5 ∧ rdOb h pi 0 = some ⟨[], 0, true, 1⟩)
/-- What each operation leaves. -/
def newP (m fuel φ : Int) (rv : CV) (reads : List Int) (κ : RK) (h : Hp) (u : IV) : Nat → Prop
  | 0 => u = .c (.i m)
  | 1 => ∃ i, u = .c (.sl i 0 0 m.toNat) ∧ κ i = 2 ∧ rdOb h i 0 = some ⟨List.replicate m.toNat (.i 0), 0, true, 1⟩
  | 2 => ∃ i, u = .c (.sl i 0 0 8) ∧ κ i = 3 ∧ rdOb h i 0 = some ⟨List.replicate 8 (.i 0), 0, true, 1⟩
  | 3 => ∃ i, u = .c (.sl i 0 0 0) ∧ κ i = 6 ∧ rdOb h i 0 = some ⟨[], 0, true, 1⟩
  | 4 => u = .c rv
  | 5 => ∃ i g, u = .c (.sl i g 0 reads.length) ∧ κ i = 6 ∧ rdOb h i g = some ⟨reads.map .i, g, true, 1⟩
  | 6 => ∃ i, u = .c (.sl i 0 0 0) ∧ κ i = 4 ∧ rdOb h i 0 = some ⟨[], 0, true, 1⟩
  | 7 => ∃ i, u = .c (.sl i 0 0 0) ∧ κ i = 5 ∧ rdOb h i 0 = some ⟨[], 0, true, 1⟩
  | 8 => u = .c (.i fuel)
  | 9 => u = .c (.i φ)
  | 10 => ∃ vi ci ri g ti pi, u = .agg [.sl vi 0 0 m.toNat, .sl ci 0 0 8, .sl ri g 0 reads.length, .sl ti 0 0 0, .sl pi 0 0 0, .i φ] ∧ NewPs m reads κ h vi ci ri g ti pi
  | _ => ∃ c vi ci ri g ti pi, u = .c (.p c 0 0) ∧ κ c = 1 ∧ rdOb h c 0 = some ⟨[.sl vi 0 0 m.toNat, .sl ci 0 0 8, .sl ri g 0 reads.length, .sl ti 0 0 0, .sl pi 0 0 0, .i φ], 0, true, 6⟩ ∧ NewPs m reads κ h vi ci ri g ti pi
section
variable {m fuel φ : Int} {rv : CV} {reads : List Int} {κ κ' : RK} {h h' : Hp} {u : IV}
theorem NewPs.keep {vi ci ri g ti pi : Nat} (hp : NewPs m reads κ h vi ci ri g ti pi) (hk : ∀ id gg o, κ id ≠ 0 → rdOb h id gg = some o → rdOb h' id gg = some o ∧ κ' id = κ id) : NewPs m reads κ' h' vi ci ri g ti pi := by
  obtain ⟨⟨a1, a2⟩, ⟨b1, b2⟩, ⟨c1, c2⟩, ⟨d1, d2⟩, ⟨e1, e2⟩⟩ := hp
  have A := hk _ _ _ (by omega) a2; have B := hk _ _ _ (by omega) b2; have C := hk _ _ _ (by omega) c2; have D := hk _ _ _ (by omega) d2; have E := hk _ _ _ (by omega) e2
  exact ⟨⟨by rw [A.2]; exact a1, A.1⟩, ⟨by rw [B.2]; exact b1, B.1⟩, ⟨by rw [C.2]; exact c1, C.1⟩, ⟨by rw [D.2]; exact d1, D.1⟩, ⟨by rw [E.2]; exact e1, E.1⟩⟩
theorem newP.keep {j : Nat} (hp : newP m fuel φ rv reads κ h u j) (hk : ∀ id gg o, κ id ≠ 0 → rdOb h id gg = some o → rdOb h' id gg = some o ∧ κ' id = κ id) : newP m fuel φ rv reads κ' h' u j := by
  match j, hp with
  | 0, hp => exact hp
  | 1, ⟨i, a, b, c⟩ => have A := hk _ _ _ (by omega) c; exact ⟨i, a, by rw [A.2]; exact b, A.1⟩
  | 2, ⟨i, a, b, c⟩ => have A := hk _ _ _ (by omega) c; exact ⟨i, a, by rw [A.2]; exact b, A.1⟩
  | 3, ⟨i, a, b, c⟩ => have A := hk _ _ _ (by omega) c; exact ⟨i, a, by rw [A.2]; exact b, A.1⟩
  | 4, hp => exact hp
  | 5, ⟨i, g, a, b, c⟩ => have A := hk _ _ _ (by omega) c; exact ⟨i, g, a, by rw [A.2]; exact b, A.1⟩
  | 6, ⟨i, a, b, c⟩ => have A := hk _ _ _ (by omega) c; exact ⟨i, a, by rw [A.2]; exact b, A.1⟩
  | 7, ⟨i, a, b, c⟩ => have A := hk _ _ _ (by omega) c; exact ⟨i, a, by rw [A.2]; exact b, A.1⟩
  | 8, hp => exact hp
  | 9, hp => exact hp
  | 10, ⟨vi, ci, ri, g, ti, pi, a, b⟩ => exact ⟨vi, ci, ri, g, ti, pi, a, b.keep hk⟩
  | j + 11, ⟨c, vi, ci, ri, g, ti, pi, a, b, d, e⟩ => have A := hk _ _ _ (by omega) d; exact ⟨c, vi, ci, ri, g, ti, pi, a, by rw [A.2]; exact b, A.1, e.keep hk⟩
end
end Go.Proofs.YtgdfgnppeekfjaaGreat.Vm
end
section
/- The specification's runs: Run and Path. No conditions. -/
namespace Go.Proofs.YtgdfgnppeekfjaaGreat.Vm
open Go.RowKit (wrap64)
set_option linter.unusedSimpArgs false
set_option linter.unusedVariables false

end Go.Proofs.YtgdfgnppeekfjaaGreat.Vm
end
