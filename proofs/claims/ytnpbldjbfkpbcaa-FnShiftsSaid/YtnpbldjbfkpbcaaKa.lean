/- Calls whose end is told are equations. No conditions. -/
import Derived.Test.YtnpbldjbfkpbcaaVmCw
namespace Go.Proofs.Ytnpbldjbfkpbcaa.Vm
open Go.RowKit (wrap64)
set_option linter.unusedSimpArgs false
set_option linter.unusedVariables false

theorem det {f : Nat} {ar : List IV} {H : Hp} {r : IV × Hp} (h : CM f ar H fun x => x = r) (k : IV × Hp → Prop) : CM f ar H k = k r := by
  apply propext
  constructor
  · intro hk
    obtain ⟨x, rfl, hx⟩ := callD_nm noX_nm _ _ _ _ (callD_cj noX_mono noX_cj _ _ _ _ _ h hk)
    exact hx
  · intro hk
    exact CM_mono _ _ _ _ _ (fun x hx => by subst hx; exact hk) h
theorem CM.mono {f : Nat} {ar : List IV} {H : Hp} {Q Q' : IV × Hp → Prop} (h : CM f ar H Q) (hq : ∀ r, Q r → Q' r) : CM f ar H Q' := CM_mono _ _ _ _ _ hq h

theorem IsI.at_ {H : Hp} {v : CV} {xs : List Int} (h : IsI H v xs) {k : Nat} (hk : k < xs.length) :
    ∃ id g off, idxOf 1 v (k : Int) = some (.p id g off) ∧ rdC H id g off = some (.i xs[k]) := by
  obtain ⟨id, g, off, o, h1, h2, h3⟩ := h.get hk
  exact ⟨id, g, off, h1, by simp [rdC, h2, h3]⟩


/-! ### Cells behind a heap that has grown -/
@[simp] theorem rdC_r (H L : Hp) (k g off : Nat) : rdC (H ++ L) (H.length + k) g off = rdC L k g off := by simp [rdC]
@[simp] theorem rdC_r0 (H L : Hp) (g off : Nat) : rdC (H ++ L) H.length g off = rdC L 0 g off := by simp [rdC]
@[simp] theorem rdC_c0 (o : Ob) (L : Hp) (g off : Nat) : rdC (o :: L) 0 g off = if o.g = g then o.cells[off]? else none := by
  simp only [rdC, rdOb_c0]; split <;> rfl
@[simp] theorem rdC_cs (o : Ob) (L : Hp) (k g off : Nat) : rdC (o :: L) (k + 1) g off = rdC L k g off := by simp [rdC]
@[simp] theorem rdN_r (H L : Hp) (k g off n : Nat) : rdN (H ++ L) (H.length + k) g off n = rdN L k g off n := by simp [rdN]
@[simp] theorem rdN_r0 (H L : Hp) (g off n : Nat) : rdN (H ++ L) H.length g off n = rdN L 0 g off n := by simp [rdN]
@[simp] theorem rdN_c0 (o : Ob) (L : Hp) (g off n : Nat) : rdN (o :: L) 0 g off n = if o.g = g then (if off + n ≤ o.cells.length then some ((o.cells.drop off).take n) else none) else none := by
  simp only [rdN, rdOb_c0]; split <;> rfl
@[simp] theorem rdN_cs (o : Ob) (L : Hp) (k g off n : Nat) : rdN (o :: L) (k + 1) g off n = rdN L k g off n := by simp [rdN]
theorem rdC_ob {H : Hp} {id g off : Nat} {o : Ob} (h : rdOb H id g = some o) : rdC H id g off = o.cells[off]? := by simp [rdC, h]
theorem rdN_ob {H : Hp} {id g off n : Nat} {o : Ob} (h : rdOb H id g = some o) : rdN H id g off n = if off + n ≤ o.cells.length then some ((o.cells.drop off).take n) else none := by simp [rdN, h]
theorem rdOb_keep {H : Hp} (L : Hp) {id g : Nat} {o : Ob} (h : rdOb H id g = some o) : rdOb (H ++ L) id g = rdOb H id g := by rw [rdOb_app L h, h]

/-! ### Rows of whatever -/
def Row {α : Type} (P : Hp → List CV → α → Prop) (sz : Nat) (H : Hp) (v : CV) (xs : List α) : Prop :=
  ∃ css : List (List CV), Sl H sz v xs.length css.flatten ∧ css.length = xs.length ∧ ∀ (k : Nat) cs x, css[k]? = some cs → xs[k]? = some x → cs.length = sz ∧ P H cs x

theorem Row.lenOf {α : Type} {P : Hp → List CV → α → Prop} {sz : Nat} {H : Hp} {v : CV} {xs : List α} (h : Row P sz H v xs) : lenOf v = some xs.length := by
  obtain ⟨css, h, _⟩ := h; exact Sl.lenOf h
theorem Row.pre {α : Type} {P : Hp → List CV → α → Prop} {sz : Nat} {H X : Hp} (hP : ∀ cs x, P H cs x → P X cs x) (hp : Pre H X) {v : CV} {xs : List α} (h : Row P sz H v xs) : Row P sz X v xs := by
  obtain ⟨css, h1, h2, h3⟩ := h
  exact ⟨css, Sl.pre hp h1, h2, fun k cs x a b => ⟨(h3 k cs x a b).1, hP _ _ (h3 k cs x a b).2⟩⟩
theorem Row.ns {α : Type} {P : Hp → List CV → α → Prop} {sz : Nat} {H : Hp} : Row P sz H .ns ([] : List α) := ⟨[], .inl ⟨rfl, rfl, rfl⟩, rfl, fun k cs x h => by simp at h⟩

theorem flat_drop {sz : Nat} : ∀ {css : List (List CV)}, (∀ cs ∈ css, cs.length = sz) → ∀ {k : Nat} {cs : List CV}, css[k]? = some cs → (css.flatten.drop (k * sz)).take sz = cs ∧ k * sz + sz ≤ css.flatten.length := by
  intro css
  induction css with
  | nil => intro _ k cs h; simp at h
  | cons c r ih =>
    intro hl k cs h
    have hc := hl c (by simp)
    cases k with
    | zero =>
      simp at h; subst h
      simp [hc]
    | succ k =>
      simp at h
      obtain ⟨h1, h2⟩ := ih (fun cs hcs => hl cs (by simp [hcs])) h
      rw [List.flatten_cons]
      have e : (k + 1) * sz = c.length + k * sz := by rw [Nat.succ_mul, hc]; omega
      rw [e, List.drop_append, List.drop_eq_nil_of_le (by omega), List.nil_append, Nat.add_sub_cancel_left, List.length_append]
      exact ⟨h1, by omega⟩

/-- What stands at a place: its cells. -/
structure At (H : Hp) (id g off : Nat) (cs : List CV) : Prop where
  ob : ∃ o, rdOb H id g = some o ∧ off + cs.length ≤ o.cells.length ∧ (o.cells.drop off).take cs.length = cs
theorem At.pre {H X : Hp} (hp : Pre H X) {id g off : Nat} {cs : List CV} (h : At H id g off cs) : At X id g off cs := by
  obtain ⟨o, h1, h2⟩ := h.ob
  exact ⟨o, hp.rdOb h1, h2⟩
theorem At.app {H : Hp} {id g off : Nat} {cs : List CV} (h : At H id g off cs) (L : Hp) : At (H ++ L) id g off cs := h.pre ⟨L, rfl⟩
theorem At.c {H : Hp} {id g off : Nat} {cs : List CV} (h : At H id g off cs) (j : Nat) (hj : j < cs.length) : rdC H id g (off + j) = some cs[j] := by
  obtain ⟨o, h1, h2, h3⟩ := h.ob
  rw [rdC_ob h1]
  have : ((o.cells.drop off).take cs.length)[j]? = cs[j]? := by rw [h3]
  rw [List.getElem?_take, if_pos hj, List.getElem?_drop, List.getElem?_eq_getElem hj] at this
  exact this
theorem At.n {H : Hp} {id g off : Nat} {cs : List CV} (h : At H id g off cs) (j m : Nat) (hj : j + m ≤ cs.length) : rdN H id g (off + j) m = some ((cs.drop j).take m) := by
  obtain ⟨o, h1, h2, h3⟩ := h.ob
  rw [rdN_ob h1, if_pos (by omega)]
  congr 1
  rw [← h3, List.drop_take, List.take_take, List.drop_drop, Nat.min_eq_left (by omega)]
theorem At.keep {H : Hp} {id g off : Nat} {cs : List CV} (h : At H id g off cs) (L : Hp) : rdOb (H ++ L) id g = rdOb H id g := by
  obtain ⟨o, h1, _⟩ := h.ob; exact rdOb_keep L h1
theorem At.lt {H : Hp} {id g off : Nat} {cs : List CV} (h : At H id g off cs) : id < H.length := by
  obtain ⟨o, h1, _⟩ := h.ob; exact rdOb_lt h1

theorem Row.get {α : Type} {P : Hp → List CV → α → Prop} {sz : Nat} {H : Hp} {v : CV} {xs : List α} (h : Row P sz H v xs) {k : Nat} (hk : k < xs.length) :
    ∃ id g off cs, idxOf sz v (k : Int) = some (.p id g off) ∧ At H id g off cs ∧ cs.length = sz ∧ P H cs xs[k] := by
  obtain ⟨css, h1, h2, h3⟩ := h
  have hl : ∀ cs ∈ css, cs.length = sz := by
    intro cs hcs
    obtain ⟨i, hi, rfl⟩ := List.getElem_of_mem hcs
    exact (h3 i _ xs[i] (List.getElem?_eq_getElem hi) (List.getElem?_eq_getElem (by omega))).1
  have hc : css[k]? = some css[k] := List.getElem?_eq_getElem (by omega)
  obtain ⟨f1, f2⟩ := flat_drop hl hc
  obtain ⟨g1, g2⟩ := h3 k _ xs[k] hc (List.getElem?_eq_getElem hk)
  rcases h1 with ⟨_, h1, _⟩ | ⟨id, g, off, o, rfl, q1, q2, q3, q4⟩
  · omega
  · refine ⟨id, g, off + k * sz, css[k], by simp [hk], ⟨o, q1, ?_, ?_⟩, g1, g2⟩
    · have : (k + 1) * sz ≤ xs.length * sz := Nat.mul_le_mul_right _ hk
      rw [Nat.succ_mul] at this
      rw [g1]; omega
    · have e : ((css.flatten.drop (k * sz)).take sz) = css[k] := f1
      rw [← q4, List.drop_take, List.take_take, List.drop_drop, Nat.min_eq_left] at e
      · rw [g1]; exact e
      · have : (k + 1) * sz ≤ xs.length * sz := Nat.mul_le_mul_right _ hk
        rw [Nat.succ_mul] at this
        omega

/-- A row, from an object. -/
theorem Row.mk {α : Type} {P : Hp → List CV → α → Prop} {sz : Nat} {H : Hp} {id g : Nat} {o : Ob} {xs : List α} {css : List (List CV)} (h : rdOb H id g = some o) (hs : o.sz = sz) (hc : o.cells = css.flatten) (hl : css.length = xs.length)
    (hP : ∀ (k : Nat) cs x, css[k]? = some cs → xs[k]? = some x → cs.length = sz ∧ P H cs x) : Row P sz H (.sl id g 0 xs.length) xs := by
  have hl2 : ∀ cs ∈ css, cs.length = sz := by
    intro cs hcs
    obtain ⟨i, hi, rfl⟩ := List.getElem_of_mem hcs
    exact (hP i _ xs[i] (List.getElem?_eq_getElem hi) (List.getElem?_eq_getElem (by omega))).1
  have hfl : css.flatten.length = xs.length * sz := by
    rw [← hl]
    clear hP hl hc
    induction css with
    | nil => simp
    | cons c r ih => rw [List.flatten_cons, List.length_append, ih (fun cs h => hl2 cs (by simp [h])), hl2 c (by simp), List.length_cons, Nat.succ_mul]; omega
  refine ⟨css, .inr ⟨id, g, 0, o, rfl, h, hs, by rw [hc, hfl]; omega, ?_⟩, hl, hP⟩
  rw [hc, List.drop_zero, List.take_of_length_le (by omega)]

/-! ### The program's things -/
structure ArmR where
  fr : Int
  v : Int
  deriving DecidableEq
structure PhiR where
  d : Int
  arms : List ArmR
  deriving DecidableEq
structure InsR where
  op : Int
  d : Int
  a : Int
  b : Int
  n : Int
  deriving DecidableEq
structure TrmR where
  kind : Int
  a : Int
  to : Int
  els : Int
  deriving DecidableEq
structure BlkR where
  phis : List PhiR
  list : List InsR
  term : TrmR
  deriving DecidableEq
structure FnR where
  blocks : List BlkR
  values : Int
  deriving DecidableEq
def armC (a : ArmR) : List CV := [.i a.fr, .i a.v]
def insC (x : InsR) : List CV := [.i x.op, .i x.d, .i x.a, .i x.b, .i x.n]
def trmC (t : TrmR) : List CV := [.i t.kind, .i t.a, .i t.to, .i t.els]
def armP (_ : Hp) (cs : List CV) (a : ArmR) : Prop := cs = armC a
def insP (_ : Hp) (cs : List CV) (x : InsR) : Prop := cs = insC x
def phiP (B : Nat) (H : Hp) (cs : List CV) (p : PhiR) : Prop := ∃ w, cs = [.i p.d, w] ∧ Row armP 2 H w p.arms ∧ p.arms.length ≤ B
def blkP (B : Nat) (H : Hp) (cs : List CV) (b : BlkR) : Prop := ∃ w u, cs = w :: u :: trmC b.term ∧ Row (phiP B) 2 H w b.phis ∧ Row insP 5 H u b.list ∧ b.phis.length ≤ B ∧ b.list.length ≤ B
def fnP (B : Nat) (H : Hp) (cs : List CV) (f : FnR) : Prop := ∃ v, cs = [v, .i f.values] ∧ Row (blkP B) 6 H v f.blocks ∧ f.blocks.length ≤ B
theorem armP.pre {H X : Hp} {cs : List CV} {a : ArmR} (h : armP H cs a) : armP X cs a := h
theorem insP.pre {H X : Hp} {cs : List CV} {a : InsR} (h : insP H cs a) : insP X cs a := h
def BIG : Nat := 1048576
theorem phiP.pre {B : Nat} {H X : Hp} (hp : Pre H X) {cs : List CV} {p : PhiR} (h : phiP B H cs p) : phiP B X cs p := by
  obtain ⟨w, h1, h2, h3⟩ := h; exact ⟨w, h1, h2.pre (fun _ _ => armP.pre) hp, h3⟩
theorem blkP.pre {B : Nat} {H X : Hp} (hp : Pre H X) {cs : List CV} {p : BlkR} (h : blkP B H cs p) : blkP B X cs p := by
  obtain ⟨w, u, h1, h2, h3, h4⟩ := h; exact ⟨w, u, h1, h2.pre (fun _ _ => phiP.pre hp) hp, h3.pre (fun _ _ => insP.pre) hp, h4⟩
theorem fnP.pre {B : Nat} {H X : Hp} (hp : Pre H X) {cs : List CV} {p : FnR} (h : fnP B H cs p) : fnP B X cs p := by
  obtain ⟨v, h1, h2, h3⟩ := h; exact ⟨v, h1, h2.pre (fun _ _ => blkP.pre hp) hp, h3⟩

abbrev Blocks (H : Hp) (v : CV) (bs : List BlkR) : Prop := Row (blkP BIG) 6 H v bs
abbrev Phis (H : Hp) (v : CV) (ps : List PhiR) : Prop := Row (phiP BIG) 2 H v ps
abbrev Arms (H : Hp) (v : CV) (ps : List ArmR) : Prop := Row armP 2 H v ps
abbrev List5 (H : Hp) (v : CV) (ps : List InsR) : Prop := Row insP 5 H v ps
theorem Blocks.pre {H X : Hp} (hp : Pre H X) {v : CV} {bs : List BlkR} (h : Blocks H v bs) : Blocks X v bs := Row.pre (fun _ _ => blkP.pre hp) hp h
theorem Blocks.app {H : Hp} {v : CV} {bs : List BlkR} (h : Blocks H v bs) (L : Hp) : Blocks (H ++ L) v bs := h.pre ⟨L, rfl⟩
theorem Phis.pre {H X : Hp} (hp : Pre H X) {v : CV} {bs : List PhiR} (h : Phis H v bs) : Phis X v bs := Row.pre (fun _ _ => phiP.pre hp) hp h
theorem Phis.app {H : Hp} {v : CV} {bs : List PhiR} (h : Phis H v bs) (L : Hp) : Phis (H ++ L) v bs := h.pre ⟨L, rfl⟩
theorem Arms.pre {H X : Hp} (hp : Pre H X) {v : CV} {bs : List ArmR} (h : Arms H v bs) : Arms X v bs := Row.pre (fun _ _ => armP.pre) hp h
theorem Arms.app {H : Hp} {v : CV} {bs : List ArmR} (h : Arms H v bs) (L : Hp) : Arms (H ++ L) v bs := h.pre ⟨L, rfl⟩
theorem List5.pre {H X : Hp} (hp : Pre H X) {v : CV} {bs : List InsR} (h : List5 H v bs) : List5 X v bs := Row.pre (fun _ _ => insP.pre) hp h
theorem List5.app {H : Hp} {v : CV} {bs : List InsR} (h : List5 H v bs) (L : Hp) : List5 (H ++ L) v bs := h.pre ⟨L, rfl⟩

/-- What is read at a place: each cell, and all. -/
abbrev ArmAt (H : Hp) (id g off : Nat) (a : ArmR) : Prop := rdC H id g off = some (.i a.fr) ∧ rdC H id g (off + 1) = some (.i a.v) ∧ rdN H id g off 2 = some [.i a.fr, .i a.v]
abbrev InsAt (H : Hp) (id g off : Nat) (x : InsR) : Prop := rdC H id g off = some (.i x.op) ∧ rdC H id g (off + 1) = some (.i x.d) ∧ rdC H id g (off + 2) = some (.i x.a) ∧ rdC H id g (off + 3) = some (.i x.b) ∧ rdC H id g (off + 4) = some (.i x.n) ∧
  rdN H id g off 5 = some [.i x.op, .i x.d, .i x.a, .i x.b, .i x.n]
abbrev PhiAt (H : Hp) (id g off : Nat) (d : Int) (w : CV) : Prop := rdC H id g off = some (.i d) ∧ rdC H id g (off + 1) = some w ∧ rdN H id g off 2 = some [.i d, w]
abbrev TrmAt (H : Hp) (id g off : Nat) (t : TrmR) : Prop := rdC H id g off = some (.i t.kind) ∧ rdC H id g (off + 1) = some (.i t.a) ∧ rdC H id g (off + 1 + 1) = some (.i t.to) ∧ rdC H id g (off + 3) = some (.i t.els) ∧
  rdN H id g off 4 = some [.i t.kind, .i t.a, .i t.to, .i t.els]
abbrev BlkAt (H : Hp) (id g off : Nat) (w u : CV) (t : TrmR) : Prop := rdC H id g off = some w ∧ rdC H id g (off + 1) = some u ∧ rdC H id g (off + 2) = some (.i t.kind) ∧ rdC H id g (off + 3) = some (.i t.a) ∧ rdC H id g (off + 4) = some (.i t.to) ∧ rdC H id g (off + 5) = some (.i t.els) ∧
  rdC H id g (off + 2 + 1) = some (.i t.a) ∧ rdC H id g (off + 2 + 2) = some (.i t.to) ∧ rdC H id g (off + 2 + 3) = some (.i t.els) ∧
  rdN H id g (off + 2) 4 = some [.i t.kind, .i t.a, .i t.to, .i t.els] ∧ rdN H id g off 6 = some [w, u, .i t.kind, .i t.a, .i t.to, .i t.els]
theorem At.arm {H : Hp} {id g off : Nat} {a : ArmR} (h : At H id g off (armC a)) : ArmAt H id g off a := ⟨h.c 0 (by simp [armC]), h.c 1 (by simp [armC]), h.n 0 2 (by simp [armC])⟩
theorem At.ins {H : Hp} {id g off : Nat} {a : InsR} (h : At H id g off (insC a)) : InsAt H id g off a :=
  ⟨h.c 0 (by simp [insC]), h.c 1 (by simp [insC]), h.c 2 (by simp [insC]), h.c 3 (by simp [insC]), h.c 4 (by simp [insC]), h.n 0 5 (by simp [insC])⟩
theorem At.phi {H : Hp} {id g off : Nat} {d : Int} {w : CV} (h : At H id g off [.i d, w]) : PhiAt H id g off d w := ⟨h.c 0 (by simp), h.c 1 (by simp), h.n 0 2 (by simp)⟩
theorem At.blk {H : Hp} {id g off : Nat} {w u : CV} {t : TrmR} (h : At H id g off (w :: u :: trmC t)) : BlkAt H id g off w u t :=
  ⟨h.c 0 (by simp [trmC]), h.c 1 (by simp [trmC]), h.c 2 (by simp [trmC]), h.c 3 (by simp [trmC]), h.c 4 (by simp [trmC]), h.c 5 (by simp [trmC]), h.c 3 (by simp [trmC]), h.c 4 (by simp [trmC]), h.c 5 (by simp [trmC]),
    h.n 2 4 (by simp [trmC]), h.n 0 6 (by simp [trmC])⟩

theorem Arms.get {H : Hp} {v : CV} {xs : List ArmR} (h : Arms H v xs) {k : Nat} (hk : k < xs.length) :
    ∃ id g off, idxOf 2 v (k : Int) = some (.p id g off) ∧ ArmAt H id g off xs[k] ∧ (∀ L, ArmAt (H ++ L) id g off xs[k]) ∧ (∀ L, rdOb (H ++ L) id g = rdOb H id g) ∧ id < H.length := by
  obtain ⟨id, g, off, cs, h1, h2, h3, h4⟩ := Row.get h hk
  have h4 : cs = armC xs[k] := h4
  subst h4
  exact ⟨id, g, off, h1, h2.arm, fun L => (h2.app L).arm, h2.keep, h2.lt⟩
theorem List5.get {H : Hp} {v : CV} {xs : List InsR} (h : List5 H v xs) {k : Nat} (hk : k < xs.length) :
    ∃ id g off, idxOf 5 v (k : Int) = some (.p id g off) ∧ InsAt H id g off xs[k] ∧ (∀ L, InsAt (H ++ L) id g off xs[k]) ∧ (∀ L, rdOb (H ++ L) id g = rdOb H id g) ∧ id < H.length := by
  obtain ⟨id, g, off, cs, h1, h2, h3, h4⟩ := Row.get h hk
  have h4 : cs = insC xs[k] := h4
  subst h4
  exact ⟨id, g, off, h1, h2.ins, fun L => (h2.app L).ins, h2.keep, h2.lt⟩
theorem Phis.get {H : Hp} {v : CV} {xs : List PhiR} (h : Phis H v xs) {k : Nat} (hk : k < xs.length) :
    ∃ id g off w, idxOf 2 v (k : Int) = some (.p id g off) ∧ PhiAt H id g off xs[k].d w ∧ (∀ L, PhiAt (H ++ L) id g off xs[k].d w) ∧ Arms H w xs[k].arms ∧ xs[k].arms.length ≤ BIG ∧ (∀ L, rdOb (H ++ L) id g = rdOb H id g) ∧ id < H.length := by
  obtain ⟨id, g, off, cs, h1, h2, h3, w, rfl, h5, h6⟩ := Row.get h hk
  exact ⟨id, g, off, w, h1, h2.phi, fun L => (h2.app L).phi, h5, h6, h2.keep, h2.lt⟩
theorem Blocks.get {H : Hp} {v : CV} {xs : List BlkR} (h : Blocks H v xs) {k : Nat} (hk : k < xs.length) :
    ∃ id g off w u, idxOf 6 v (k : Int) = some (.p id g off) ∧ BlkAt H id g off w u xs[k].term ∧ (∀ L, BlkAt (H ++ L) id g off w u xs[k].term) ∧ Phis H w xs[k].phis ∧ List5 H u xs[k].list ∧ xs[k].phis.length ≤ BIG ∧ xs[k].list.length ≤ BIG ∧
      (∀ L, rdOb (H ++ L) id g = rdOb H id g) ∧ id < H.length := by
  obtain ⟨id, g, off, cs, h1, h2, h3, w, u, rfl, h5, h6, h7, h8⟩ := Row.get h hk
  exact ⟨id, g, off, w, u, h1, h2.blk, fun L => (h2.app L).blk, h5, h6, h7, h8, h2.keep, h2.lt⟩

theorem up1 {i n : Nat} (hi : i < n) (hn : n ≤ BIG) : wrap64 ((i : Int) + 1) = (i : Int) + 1 := wrap64_id (by simp only [BIG] at hn; omega)
end Go.Proofs.Ytnpbldjbfkpbcaa.Vm
