import Derived.Test.YtgdfgnppeekfjaaGreatVmCw
import Derived.Test.YtgdfgnppeekfjaaGreatVmV
section
/- Calls whose end is told are equations. No conditions. -/
namespace Go.Proofs.YtgdfgnppeekfjaaGreat.Vm
open Go.RowKit (wrap64)
set_option linter.unusedSimpArgs false
set_option linter.unusedVariables false
theorem det {f : Nat} {ar : List IV} {H : Hp} {r : IV × Hp} (h : CM f ar H fun x => x = r) (k : IV × Hp → Prop) : CM f ar H k = k r := by
  apply propext
  constructor
  · intro hk
    obtain ⟨x, rfl, hx⟩ := callD_nm XK_nm _ _ _ _ (callD_cj XK_mono XK_cj _ _ _ _ _ h hk)
    exact hx
  · intro hk
    exact CM_mono _ _ _ _ _ (fun x hx => by subst hx; exact hk) h
theorem CM.mono {f : Nat} {ar : List IV} {H : Hp} {Q Q' : IV × Hp → Prop} (h : CM f ar H Q) (hq : ∀ r, Q r → Q' r) : CM f ar H Q' := CM_mono _ _ _ _ _ hq h
theorem IsI.at_ {H : Hp} {v : CV} {xs : List Int} (h : IsI H v xs) {k : Nat} (hk : k < xs.length) :
    ∃ id g off, idxOf 1 v (k : Int) = some (.p id g off) ∧ rdC H id g off = some (.i xs[k]) := by
  obtain ⟨id, g, off, o, h1, h2, h3⟩ := h.get hk
  exact ⟨id, g, off, h1, by simp [rdC, h2, h3]⟩
/-! ### Cells behind a heap that has grown -/
@[simp] theorem rdC_r (H L : Hp) (k g off : Nat) : rdC (H ++ L) (H.length + k) g off = rdC L k g off := by simp [rdC]
@[simp] theorem rdC_r0 (H L : Hp) (g off : Nat) : rdC (H ++ L) H.length g off = rdC L 0 g off := by simp [rdC]
@[simp] theorem rdC_c0 (o : Ob) (L : Hp) (g off : Nat) : rdC (o :: L) 0 g off = if o.g = g then o.cells[off]? else none := by
  simp only [rdC, rdOb_c0]; split <;> rfl
@[simp] theorem rdC_cs (o : Ob) (L : Hp) (k g off : Nat) : rdC (o :: L) (k + 1) g off = rdC L k g off := by simp [rdC]
@[simp] theorem rdN_r (H L : Hp) (k g off n : Nat) : rdN (H ++ L) (H.length + k) g off n = rdN L k g off n := by simp [rdN]
@[simp] theorem rdN_r0 (H L : Hp) (g off n : Nat) : rdN (H ++ L) H.length g off n = rdN L 0 g off n := by simp [rdN]
@[simp] theorem rdN_c0 (o : Ob) (L : Hp) (g off n : Nat) : rdN (o :: L) 0 g off n = if o.g = g then (if off + n ≤ o.cells.length then some ((o.cells.drop off).take n) else none) else none := by
  simp only [rdN, rdOb_c0]; split <;> rfl
@[simp] theorem rdN_cs (o : Ob) (L : Hp) (k g off n : Nat) : rdN (o :: L) (k + 1) g off n = rdN L k g off n := by simp [rdN]
theorem rdC_ob {H : Hp} {id g off : Nat} {o : Ob} (h : rdOb H id g = some o) : rdC H id g off = o.cells[off]? := by simp [rdC, h]
theorem rdN_ob {H : Hp} {id g off n : Nat} {o : Ob} (h : rdOb H id g = some o) : rdN H id g off n = if off + n ≤ o.cells.length then some ((o.cells.drop off).take n) else none := by simp [rdN, h]
theorem rdOb_keep {H : Hp} (L : Hp) {id g : Nat} {o : Ob} (h : rdOb H id g = some o) : rdOb (H ++ L) id g = rdOb H id g := by rw [rdOb_app L h, h]
/-! ### Rows of whatever -/
def Row {α : Type} (P : Hp → List CV → α → Prop) (sz : Nat) (H : Hp) (v : CV) (xs : List α) : Prop :=
  ∃ css : List (List CV), Sl H sz v xs.length css.flatten ∧ css.length = xs.length ∧ ∀ (k : Nat) cs x, css[k]? = some cs → xs[k]? = some x → cs.length = sz ∧ P H cs x
theorem Row.lenOf {α : Type} {P : Hp → List CV → α → Prop} {sz : Nat} {H : Hp} {v : CV} {xs : List α} (h : Row P sz H v xs) : lenOf v = some xs.length := by
  obtain ⟨css, h, _⟩ := h; exact Sl.lenOf h
theorem Row.pre {α : Type} {P : Hp → List CV → α → Prop} {sz : Nat} {H X : Hp} (hP : ∀ cs x, P H cs x → P X cs x) (hp : Pre H X) {v : CV} {xs : List α} (h : Row P sz H v xs) : Row P sz X v xs := by
  obtain ⟨css, h1, h2, h3⟩ := h
  exact ⟨css, Sl.pre hp h1, h2, fun k cs x a b => ⟨(h3 k cs x a b).1, hP _ _ (h3 k cs x a b).2⟩⟩
theorem Row.ns {α : Type} {P : Hp → List CV → α → Prop} {sz : Nat} {H : Hp} : Row P sz H .ns ([] : List α) := ⟨[], .inl ⟨rfl, rfl, rfl⟩, rfl, fun k cs x h => by simp at h⟩
theorem flat_drop {sz : Nat} : ∀ {css : List (List CV)}, (∀ cs ∈ css, cs.length = sz) → ∀ {k : Nat} {cs : List CV}, css[k]? = some cs → (css.flatten.drop (k * sz)).take sz = cs ∧ k * sz + sz ≤ css.flatten.length := by
  intro css
  induction css with
  | nil => intro _ k cs h; simp at h
  | cons c r ih =>
    intro hl k cs h
    have hc := hl c (by simp)
    cases k with
    | zero =>
      simp at h; subst h
      simp [hc]
    | succ k =>
      simp at h
      obtain ⟨h1, h2⟩ := ih (fun cs hcs => hl cs (by simp [hcs])) h
      rw [List.flatten_cons]
      have e : (k + 1) * sz = c.length + k * sz := by rw [Nat.succ_mul, hc]; omega
      rw [e, List.drop_append, List.drop_eq_nil_of_le (by omega), List.nil_append, Nat.add_sub_cancel_left, List.length_append]
      exact ⟨h1, by omega⟩
/-- What stands at a place: its cells. -/
structure At (H : Hp) (id g off : Nat) (cs : List CV) : Prop where
  ob : ∃ o, rdOb H id g = some o ∧ off + cs.length ≤ o.cells.length ∧ (o.cells.drop off).take cs.length = cs
theorem At.pre {H X : Hp} (hp : Pre H X) {id g off : Nat} {cs : List CV} (h : At H id g off cs) : At X id g off cs := by
  obtain ⟨o, h1, h2⟩ := h.ob
  exact ⟨o, hp.rdOb h1, h2⟩
theorem At.app {H : Hp} {id g off : Nat} {cs : List CV} (h : At H id g off cs) (L : Hp) : At (H ++ L) id g off cs := h.pre ⟨L, rfl⟩
theorem At.c {H : Hp} {id g off : Nat} {cs : List CV} (h : At H id g off cs) (j : Nat) (hj : j < cs.length) : rdC H id g (off + j) = some cs[j] := by
  obtain ⟨o, h1, h2, h3⟩ := h.ob
  rw [rdC_ob h1]
  have : ((o.cells.drop off).take cs.length)[j]? = cs[j]? := by rw [h3]
  rw [List.getElem?_take, if_pos hj, List.getElem?_drop, List.getElem?_eq_getElem hj] at this
  exact this
theorem At.n {H : Hp} {id g off : Nat} {cs : List CV} (h : At H id g off cs) (j m : Nat) (hj : j + m ≤ cs.length) : rdN H id g (off + j) m = some ((cs.drop j).take m) := by
  obtain ⟨o, h1, h2, h3⟩ := h.ob
  rw [rdN_ob h1, if_pos (by omega)]
  congr 1
  rw [← h3, List.drop_take, List.take_take, List.drop_drop, Nat.min_eq_left (by omega)]
theorem At.keep {H : Hp} {id g off : Nat} {cs : List CV} (h : At H id g off cs) (L : Hp) : rdOb (H ++ L) id g = rdOb H id g := by
  obtain ⟨o, h1, _⟩ := h.ob; exact rdOb_keep L h1
theorem At.lt {H : Hp} {id g off : Nat} {cs : List CV} (h : At H id g off cs) : id < H.length := by
  obtain ⟨o, h1, _⟩ := h.ob; exact rdOb_lt h1
theorem Row.get {α : Type} {P : Hp → List CV → α → Prop} {sz : Nat} {H : Hp} {v : CV} {xs : List α} (h : Row P sz H v xs) {k : Nat} (hk : k < xs.length) :
    ∃ id g off cs, idxOf sz v (k : Int) = some (.p id g off) ∧ At H id g off cs ∧ cs.length = sz ∧ P H cs xs[k] := by
  obtain ⟨css, h1, h2, h3⟩ := h
  have hl : ∀ cs ∈ css, cs.length = sz := by
    intro cs hcs
    obtain ⟨i, hi, rfl⟩ := List.getElem_of_mem hcs
    exact (h3 i _ xs[i] (List.getElem?_eq_getElem hi) (List.getElem?_eq_getElem (by omega))).1
  have hc : css[k]? = some css[k] := List.getElem?_eq_getElem (by omega)
  obtain ⟨f1, f2⟩ := flat_drop hl hc
  obtain ⟨g1, g2⟩ := h3 k _ xs[k] hc (List.getElem?_eq_getElem hk)
  rcases h1 with ⟨_, h1, _⟩ | ⟨id, g, off, o, rfl, q1, q2, q3, q4⟩
  · omega
  · refine ⟨id, g, off + k * sz, css[k], by simp [hk], ⟨o, q1, ?_, ?_⟩, g1, g2⟩
    · have : (k + 1) * sz ≤ xs.length * sz := Nat.mul_le_mul_right _ hk
      rw [Nat.succ_mul] at this
      rw [g1]; omega
    · have e : ((css.flatten.drop (k * sz)).take sz) = css[k] := f1
      rw [← q4, List.drop_take, List.take_take, List.drop_drop, Nat.min_eq_left] at e
      · rw [g1]; exact e
      · have : (k + 1) * sz ≤ xs.length * sz := Nat.mul_le_mul_right _ hk
        rw [Nat.succ_mul] at this
        omega
theorem Row.mk {α : Type} {P : Hp → List CV → α → Prop} {sz : Nat} {H : Hp} {id g : Nat} {o : Ob} {xs : List α} {css : List (List CV)} (h : rdOb H id g = some o) (hs : o.sz = sz) (hc : o.cells = css.flatten) (hl : css.length = xs.length)
    (hP : ∀ (k : Nat) cs x, css[k]? = some cs → xs[k]? = some x → cs.length = sz ∧ P H cs x) : Row P sz H (.sl id g 0 xs.length) xs := by
  have hl2 : ∀ cs ∈ css, cs.length = sz := by
    intro cs hcs
    obtain ⟨i, hi, rfl⟩ := List.getElem_of_mem hcs
    exact (hP i _ xs[i] (List.getElem?_eq_getElem hi) (List.getElem?_eq_getElem (by omega))).1
  have hfl : css.flatten.length = xs.length * sz := by
    rw [← hl]
    clear hP hl hc
    induction css with
    | nil => simp
    | cons c r ih => rw [List.flatten_cons, List.length_append, ih (fun cs h => hl2 cs (by simp [h])), hl2 c (by simp), List.length_cons, Nat.succ_mul]; omega
  refine ⟨css, .inr ⟨id, g, 0, o, rfl, h, hs, by rw [hc, hfl]; omega, ?_⟩, hl, hP⟩
  rw [hc, List.drop_zero, List.take_of_length_le (by omega)]
/-! ### The program's things -/
structure ArmR where
  fr : Int
  v : Int
  deriving DecidableEq
structure PhiR where
  d : Int
  arms : List ArmR
  deriving DecidableEq
structure InsR where
  op : Int
  d : Int
  a : Int
  b : Int
  n : Int
  deriving DecidableEq
structure TrmR where
  kind : Int
  a : Int
  to : Int
  els : Int
  deriving DecidableEq
structure BlkR where
  phis : List PhiR
  list : List InsR
  term : TrmR
  deriving DecidableEq
structure FnR where
  blocks : List BlkR
  values : Int
  deriving DecidableEq
def armC (a : ArmR) : List CV := [.i a.fr, .i a.v]
def insC (x : InsR) : List CV := [.i x.op, .i x.d, .i x.a, .i x.b, .i x.n]
def trmC (t : TrmR) : List CV := [.i t.kind, .i t.a, .i t.to, .i t.els]
def armP (_ : Hp) (cs : List CV) (a : ArmR) : Prop := cs = armC a
def insP (_ : Hp) (cs : List CV) (x : InsR) : Prop := cs = insC x
def phiP (B : Nat) (H : Hp) (cs : List CV) (p : PhiR) : Prop := ∃ w, cs = [.i p.d, w] ∧ Row armP 2 H w p.arms ∧ p.arms.length ≤ B
def blkP (B : Nat) (H : Hp) (cs : List CV) (b : BlkR) : Prop := ∃ w u, cs = w :: u :: trmC b.term ∧ Row (phiP B) 2 H w b.phis ∧ Row insP 5 H u b.list ∧ b.phis.length ≤ B ∧ b.list.length ≤ B
def fnP (B : Nat) (H : Hp) (cs : List CV) (f : FnR) : Prop := ∃ v, cs = [v, .i f.values] ∧ Row (blkP B) 6 H v f.blocks ∧ f.blocks.length ≤ B
theorem armP.pre {H X : Hp} {cs : List CV} {a : ArmR} (h : armP H cs a) : armP X cs a := h
theorem insP.pre {H X : Hp} {cs : List CV} {a : InsR} (h : insP H cs a) : insP X cs a := h
def BIG : Nat := 1048576
theorem phiP.pre {B : Nat} {H X : Hp} (hp : Pre H X) {cs : List CV} {p : PhiR} (h : phiP B H cs p) : phiP B X cs p := by
  obtain ⟨w, h1, h2, h3⟩ := h; exact ⟨w, h1, h2.pre (fun _ _ => armP.pre) hp, h3⟩
theorem blkP.pre {B : Nat} {H X : Hp} (hp : Pre H X) {cs : List CV} {p : BlkR} (h : blkP B H cs p) : blkP B X cs p := by
  obtain ⟨w, u, h1, h2, h3, h4⟩ := h; exact ⟨w, u, h1, h2.pre (fun _ _ => phiP.pre hp) hp, h3.pre (fun _ _ => insP.pre) hp, h4⟩
theorem fnP.pre {B : Nat} {H X : Hp} (hp : Pre H X) {cs : List CV} {p : FnR} (h : fnP B H cs p) : fnP B X cs p := by
  obtain ⟨v, h1, h2, h3⟩ := h; exact ⟨v, h1, h2.pre (fun _ _ => blkP.pre hp) hp, h3⟩
abbrev Blocks (H : Hp) (v : CV) (bs : List BlkR) : Prop := Row (blkP BIG) 6 H v bs
abbrev Phis (H : Hp) (v : CV) (ps : List PhiR) : Prop := Row (phiP BIG) 2 H v ps
abbrev Arms (H : Hp) (v : CV) (ps : List ArmR) : Prop := Row armP 2 H v ps
abbrev List5 (H : Hp) (v : CV) (ps : List InsR) : Prop := Row insP 5 H v ps
theorem Blocks.pre {H X : Hp} (hp : Pre H X) {v : CV} {bs : List BlkR} (h : Blocks H v bs) : Blocks X v bs := Row.pre (fun _ _ => blkP.pre hp) hp h
theorem Blocks.app {H : Hp} {v : CV} {bs : List BlkR} (h : Blocks H v bs) (L : Hp) : Blocks (H ++ L) v bs := h.pre ⟨L, rfl⟩
theorem Phis.pre {H X : Hp} (hp : Pre H X) {v : CV} {bs : List PhiR} (h : Phis H v bs) : Phis X v bs := Row.pre (fun _ _ => phiP.pre hp) hp h
theorem Phis.app {H : Hp} {v : CV} {bs : List PhiR} (h : Phis H v bs) (L : Hp) : Phis (H ++ L) v bs := h.pre ⟨L, rfl⟩
theorem Arms.pre {H X : Hp} (hp : Pre H X) {v : CV} {bs : List ArmR} (h : Arms H v bs) : Arms X v bs := Row.pre (fun _ _ => armP.pre) hp h
theorem Arms.app {H : Hp} {v : CV} {bs : List ArmR} (h : Arms H v bs) (L : Hp) : Arms (H ++ L) v bs := h.pre ⟨L, rfl⟩
theorem List5.pre {H X : Hp} (hp : Pre H X) {v : CV} {bs : List InsR} (h : List5 H v bs) : List5 X v bs := Row.pre (fun _ _ => insP.pre) hp h
theorem List5.app {H : Hp} {v : CV} {bs : List InsR} (h : List5 H v bs) (L : Hp) : List5 (H ++ L) v bs := h.pre ⟨L, rfl⟩
abbrev ArmAt (H : Hp) (id g off : Nat) (a : ArmR) : Prop := rdC H id g off = some (.i a.fr) ∧ rdC H id g (off + 1) = some (.i a.v) ∧ rdN H id g off 2 = some [.i a.fr, .i a.v]
abbrev InsAt (H : Hp) (id g off : Nat) (x : InsR) : Prop := rdC H id g off = some (.i x.op) ∧ rdC H id g (off + 1) = some (.i x.d) ∧ rdC H id g (off + 2) = some (.i x.a) ∧ rdC H id g (off + 3) = some (.i x.b) ∧ rdC H id g (off + 4) = some (.i x.n) ∧
  rdN H id g off 5 = some [.i x.op, .i x.d, .i x.a, .i x.b, .i x.n]
abbrev PhiAt (H : Hp) (id g off : Nat) (d : Int) (w : CV) : Prop := rdC H id g off = some (.i d) ∧ rdC H id g (off + 1) = some w ∧ rdN H id g off 2 = some [.i d, w]
abbrev BlkAt (H : Hp) (id g off : Nat) (w u : CV) (t : TrmR) : Prop := rdC H id g off = some w ∧ rdC H id g (off + 1) = some u ∧ rdC H id g (off + 2) = some (.i t.kind) ∧ rdC H id g (off + 3) = some (.i t.a) ∧ rdC H id g (off + 4) = some (.i t.to) ∧ rdC H id g (off + 5) = some (.i t.els) ∧
  rdC H id g (off + 2 + 1) = some (.i t.a) ∧ rdC H id g (off + 2 + 2) = some (.i t.to) ∧ rdC H id g (off + 2 + 3) = some (.i t.els) ∧
  rdN H id g (off + 2) 4 = some [.i t.kind, .i t.a, .i t.to, .i t.els] ∧ rdN H id g off 6 = some [w, u, .i t.kind, .i t.a, .i t.to, .i t.els]
theorem At.arm {H : Hp} {id g off : Nat} {a : ArmR} (h : At H id g off (armC a)) : ArmAt H id g off a := ⟨h.c 0 (by simp [armC]), h.c 1 (by simp [armC]), h.n 0 2 (by simp [armC])⟩
theorem At.ins {H : Hp} {id g off : Nat} {a : InsR} (h : At H id g off (insC a)) : InsAt H id g off a :=
  ⟨h.c 0 (by simp [insC]), h.c 1 (by simp [insC]), h.c 2 (by simp [insC]), h.c 3 (by simp [insC]), h.c 4 (by simp [insC]), h.n 0 5 (by simp [insC])⟩
theorem At.phi {H : Hp} {id g off : Nat} {d : Int} {w : CV} (h : At H id g off [.i d, w]) : PhiAt H id g off d w := ⟨h.c 0 (by simp), h.c 1 (by simp), h.n 0 2 (by simp)⟩
theorem At.blk {H : Hp} {id g off : Nat} {w u : CV} {t : TrmR} (h : At H id g off (w :: u :: trmC t)) : BlkAt H id g off w u t :=
  ⟨h.c 0 (by simp [trmC]), h.c 1 (by simp [trmC]), h.c 2 (by simp [trmC]), h.c 3 (by simp [trmC]), h.c 4 (by simp [trmC]), h.c 5 (by simp [trmC]), h.c 3 (by simp [trmC]), h.c 4 (by simp [trmC]), h.c 5 (by simp [trmC]),
    h.n 2 4 (by simp [trmC]), h.n 0 6 (by simp [trmC])⟩
theorem Arms.get {H : Hp} {v : CV} {xs : List ArmR} (h : Arms H v xs) {k : Nat} (hk : k < xs.length) :
    ∃ id g off, idxOf 2 v (k : Int) = some (.p id g off) ∧ ArmAt H id g off xs[k] ∧ (∀ L, ArmAt (H ++ L) id g off xs[k]) ∧ (∀ L, rdOb (H ++ L) id g = rdOb H id g) ∧ id < H.length := by
  obtain ⟨id, g, off, cs, h1, h2, h3, h4⟩ := Row.get h hk
  have h4 : cs = armC xs[k] := h4
  subst h4
  exact ⟨id, g, off, h1, h2.arm, fun L => (h2.app L).arm, h2.keep, h2.lt⟩
theorem List5.get {H : Hp} {v : CV} {xs : List InsR} (h : List5 H v xs) {k : Nat} (hk : k < xs.length) :
    ∃ id g off, idxOf 5 v (k : Int) = some (.p id g off) ∧ InsAt H id g off xs[k] ∧ (∀ L, InsAt (H ++ L) id g off xs[k]) ∧ (∀ L, rdOb (H ++ L) id g = rdOb H id g) ∧ id < H.length := by
  obtain ⟨id, g, off, cs, h1, h2, h3, h4⟩ := Row.get h hk
  have h4 : cs = insC xs[k] := h4
  subst h4
  exact ⟨id, g, off, h1, h2.ins, fun L => (h2.app L).ins, h2.keep, h2.lt⟩
theorem Phis.get {H : Hp} {v : CV} {xs : List PhiR} (h : Phis H v xs) {k : Nat} (hk : k < xs.length) :
    ∃ id g off w, idxOf 2 v (k : Int) = some (.p id g off) ∧ PhiAt H id g off xs[k].d w ∧ (∀ L, PhiAt (H ++ L) id g off xs[k].d w) ∧ Arms H w xs[k].arms ∧ xs[k].arms.length ≤ BIG ∧ (∀ L, rdOb (H ++ L) id g = rdOb H id g) ∧ id < H.length := by
  obtain ⟨id, g, off, cs, h1, h2, h3, w, rfl, h5, h6⟩ := Row.get h hk
  exact ⟨id, g, off, w, h1, h2.phi, fun L => (h2.app L).phi, h5, h6, h2.keep, h2.lt⟩
theorem Blocks.get {H : Hp} {v : CV} {xs : List BlkR} (h : Blocks H v xs) {k : Nat} (hk : k < xs.length) :
    ∃ id g off w u, idxOf 6 v (k : Int) = some (.p id g off) ∧ BlkAt H id g off w u xs[k].term ∧ (∀ L, BlkAt (H ++ L) id g off w u xs[k].term) ∧ Phis H w xs[k].phis ∧ List5 H u xs[k].list ∧ xs[k].phis.length ≤ BIG ∧ xs[k].list.length ≤ BIG ∧
      (∀ L, rdOb (H ++ L) id g = rdOb H id g) ∧ id < H.length := by
  obtain ⟨id, g, off, cs, h1, h2, h3, w, u, rfl, h5, h6, h7, h8⟩ := Row.get h hk
  exact ⟨id, g, off, w, u, h1, h2.blk, fun L => (h2.app L).blk, h5, h6, h7, h8, h2.keep, h2.lt⟩
theorem up1 {i n : Nat} (hi : i < n) (hn : n ≤ BIG) : wrap64 ((i : Int) + 1) = (i : Int) + 1 := wrap64_id (by simp only [BIG] at hn; omega)
end Go.Proofs.YtgdfgnppeekfjaaGreat.Vm
end
section
/- What the small functions over words, values and parts do. No conditions. -/
namespace Go.Proofs.YtgdfgnppeekfjaaGreat.Vm
open Go.RowKit (wrap64)
set_option linter.unusedSimpArgs false
set_option linter.unusedVariables false
def inB (x a b : Int) : Bool := decide (a ≤ x ∧ x ≤ b)
def valB (v n : Int) : Bool := decide (0 ≤ v ∧ v < n)
def wordOk (op : Int) : Bool := inB op 1 10
theorem specIn (H : Hp) (x a b : Int) (k : IV × Hp → Prop) : CM 76 [.c (.i x), .c (.i a), .c (.i b)] H k = k (.c (.b (inB x a b)), H) := by
  refine det (cw76 ?_) k
  unfold vf76c inB
  by_cases h : a ≤ x <;> simp [h]
theorem implIn (H : Hp) (x a b : Int) (k : IV × Hp → Prop) : CM 66 [.c (.i x), .c (.i a), .c (.i b)] H k = k (.c (.b (inB x a b)), H) := by
  refine det (cw66 ?_) k
  unfold vf66c inB
  by_cases h : a ≤ x <;> simp [h]
theorem specVal (H : Hp) (x n : Int) (k : IV × Hp → Prop) : CM 145 [.c (.i x), .c (.i n)] H k = k (.c (.b (valB x n)), H) := by
  refine det (cw145 ?_) k
  unfold vf145c valB
  by_cases h : 0 ≤ x <;> simp [h]
theorem specWordOk (H : Hp) (op : Int) (k : IV × Hp → Prop) : CM 116 [.c (.i op)] H k = k (.c (.b (wordOk op)), H) := by
  refine det (cw116 ?_) k
  unfold vf116c
  simp [specIn, wordOk]
theorem implWordOk (H : Hp) (op : Int) (k : IV × Hp → Prop) : CM 118 [.c (.i op)] H k = k (.c (.b (wordOk op)), H) := by
  refine det (cw118 ?_) k
  unfold vf118c
  simp [implIn, wordOk]
def termB (t : TrmR) (n m : Int) : Bool :=
  if t.kind = 1 then inB t.to 0 (n - 1) && decide (t.a = 0) && decide (t.els = 0)
  else if t.kind = 2 then inB t.to 0 (n - 1) && inB t.els 0 (n - 1) && valB t.a m
  else if t.kind = 3 then valB t.a m && decide (t.to = 0) && decide (t.els = 0)
  else false
def insB (x : InsR) (m : Int) : Bool :=
  if wordOk x.op = true then valB x.d m && valB x.a m && valB x.b m && decide (x.n = 0)
  else if x.op = 20 then valB x.d m && decide (x.a = 0) && decide (x.b = 0)
  else if x.op = 21 ∨ x.op = 25 then valB x.d m && valB x.a m && decide (x.b = 0) && decide (x.n = 0)
  else if x.op = 22 then valB x.a m && valB x.b m && decide (x.d = 0) && decide (x.n = 0)
  else if x.op = 23 then valB x.a m && decide (x.d = 0) && decide (x.b = 0) && decide (x.n = 0)
  else if x.op = 24 then valB x.d m && decide (x.a = 0) && decide (x.b = 0) && decide (x.n = 0)
  else false
theorem specTerm (H : Hp) (t : TrmR) (n m : Int) (hn : -9223372036854775807 ≤ n ∧ n ≤ 9223372036854775807) (k : IV × Hp → Prop) :
    CM 77 [.agg (trmC t), .c (.i n), .c (.i m)] H k = k (.c (.b (termB t n m)), H) := by
  refine det (cw77 ?_) k
  unfold vf77c termB
  have hw : wrap64 (n - 1) = n - 1 := wrap64_id (by omega)
  obtain ⟨kind, a, to, els⟩ := t
  by_cases h1 : kind = 1
  · subst h1; simp [trmC, specIn, specVal, hw]; repeat' first | (refine cnd_of (fun hc => ?_) (fun hc => ?_) <;> simp [hc, trmC]) | (refine grd_t (fun hc => ?_) (fun hc => ?_) <;> simp [hc, trmC]) | (refine grd_f (fun hc => ?_) (fun hc => ?_) <;> simp [hc, trmC])
  · by_cases h2 : kind = 2
    · subst h2; simp [trmC, specIn, specVal, hw]; repeat' first | (refine cnd_of (fun hc => ?_) (fun hc => ?_) <;> simp [hc, trmC]) | (refine grd_t (fun hc => ?_) (fun hc => ?_) <;> simp [hc, trmC]) | (refine grd_f (fun hc => ?_) (fun hc => ?_) <;> simp [hc, trmC])
    · by_cases h3 : kind = 3
      · subst h3; simp [trmC, specIn, specVal, hw]; repeat' first | (refine cnd_of (fun hc => ?_) (fun hc => ?_) <;> simp [hc, trmC]) | (refine grd_t (fun hc => ?_) (fun hc => ?_) <;> simp [hc, trmC]) | (refine grd_f (fun hc => ?_) (fun hc => ?_) <;> simp [hc, trmC])
      · simp [trmC, specIn, specVal, hw, h1, h2, h3]
theorem specIns (H : Hp) (x : InsR) (m : Int) (k : IV × Hp → Prop) :
    CM 79 [.agg (insC x), .c (.i m)] H k = k (.c (.b (insB x m)), H) := by
  refine det (cw79 ?_) k
  unfold vf79c insB
  obtain ⟨op, d, a, b, n⟩ := x
  cases h0 : wordOk op with
  | true => simp [insC, specVal, specWordOk, h0]; repeat' first | (refine cnd_of (fun hc => ?_) (fun hc => ?_) <;> simp [hc, insC]) | (refine grd_t (fun hc => ?_) (fun hc => ?_) <;> simp [hc, insC]) | (refine grd_f (fun hc => ?_) (fun hc => ?_) <;> simp [hc, insC])
  | false =>
    by_cases h1 : op = 20
    · subst h1; simp [insC, specVal, specWordOk, h0]; repeat' first | (refine cnd_of (fun hc => ?_) (fun hc => ?_) <;> simp [hc, insC]) | (refine grd_t (fun hc => ?_) (fun hc => ?_) <;> simp [hc, insC]) | (refine grd_f (fun hc => ?_) (fun hc => ?_) <;> simp [hc, insC])
    · by_cases h2 : op = 21
      · subst h2; simp [insC, specVal, specWordOk, h0]; repeat' first | (refine cnd_of (fun hc => ?_) (fun hc => ?_) <;> simp [hc, insC]) | (refine grd_t (fun hc => ?_) (fun hc => ?_) <;> simp [hc, insC]) | (refine grd_f (fun hc => ?_) (fun hc => ?_) <;> simp [hc, insC])
      · by_cases h3 : op = 25
        · subst h3; simp [insC, specVal, specWordOk, h0]; repeat' first | (refine cnd_of (fun hc => ?_) (fun hc => ?_) <;> simp [hc, insC]) | (refine grd_t (fun hc => ?_) (fun hc => ?_) <;> simp [hc, insC]) | (refine grd_f (fun hc => ?_) (fun hc => ?_) <;> simp [hc, insC])
        · by_cases h4 : op = 22
          · subst h4; simp [insC, specVal, specWordOk, h0]; repeat' first | (refine cnd_of (fun hc => ?_) (fun hc => ?_) <;> simp [hc, insC]) | (refine grd_t (fun hc => ?_) (fun hc => ?_) <;> simp [hc, insC]) | (refine grd_f (fun hc => ?_) (fun hc => ?_) <;> simp [hc, insC])
          · by_cases h5 : op = 23
            · subst h5; simp [insC, specVal, specWordOk, h0]; repeat' first | (refine cnd_of (fun hc => ?_) (fun hc => ?_) <;> simp [hc, insC]) | (refine grd_t (fun hc => ?_) (fun hc => ?_) <;> simp [hc, insC]) | (refine grd_f (fun hc => ?_) (fun hc => ?_) <;> simp [hc, insC])
            · by_cases h6 : op = 24
              · subst h6; simp [insC, specVal, specWordOk, h0]; repeat' first | (refine cnd_of (fun hc => ?_) (fun hc => ?_) <;> simp [hc, insC]) | (refine grd_t (fun hc => ?_) (fun hc => ?_) <;> simp [hc, insC]) | (refine grd_f (fun hc => ?_) (fun hc => ?_) <;> simp [hc, insC])
              · simp [insC, specVal, specWordOk, h0, h1, h2, h3, h4, h5, h6]
end Go.Proofs.YtgdfgnppeekfjaaGreat.Vm
end
section
/- Searching rows for what answers to a test. No conditions. -/
namespace Go.Proofs.YtgdfgnppeekfjaaGreat.Vm
open Go.RowKit (wrap64)
set_option linter.unusedSimpArgs false
set_option linter.unusedVariables false
def findI {α : Type} (p : α → Bool) (xs : List α) : Int := match xs.findIdx? p with
  | some i => i
  | none => -1
theorem findI_some {α : Type} {p : α → Bool} {xs : List α} {i : Nat} (hi : i < xs.length) (h : ∀ j (hj : j < i), p (xs[j]'(by omega)) = false) (hp : p xs[i] = true) : findI p xs = i := by
  unfold findI
  have : xs.findIdx? p = some i := by
    rw [List.findIdx?_eq_some_iff_getElem]
    exact ⟨hi, hp, fun j hj => by rw [h j hj]; simp⟩
  rw [this]
theorem findI_none {α : Type} {p : α → Bool} {xs : List α} (h : ∀ j (hj : j < xs.length), p xs[j] = false) : findI p xs = -1 := by
  unfold findI
  have : xs.findIdx? p = none := by
    rw [List.findIdx?_eq_none_iff]
    intro x hx
    obtain ⟨j, hj, rfl⟩ := List.getElem_of_mem hx
    exact h j hj
  rw [this]
theorem findI_nonneg {α : Type} {p : α → Bool} {xs : List α} : 0 ≤ findI p xs ↔ xs.any p = true := by
  unfold findI
  cases h : xs.findIdx? p with
  | some i =>
    rw [List.findIdx?_eq_some_iff_getElem] at h
    obtain ⟨hi, hp, _⟩ := h
    simp only [Int.natCast_nonneg, true_iff, List.any_eq_true]
    exact ⟨_, List.getElem_mem hi, hp⟩
  | none =>
    rw [List.findIdx?_eq_none_iff] at h
    constructor
    · intro h2; exact absurd h2 (by decide)
    · intro h2
      rw [List.any_eq_true] at h2
      obtain ⟨x, hx, hp⟩ := h2
      rw [h x hx] at hp; cases hp
theorem indexBlk {H : Hp} {v : CV} {xs : List BlkR} (hv : Blocks H v xs) (hb : xs.length ≤ BIG) {fid : Nat} {caps : List CV} (p : BlkR → Bool)
    (hp : ∀ i (hi : i < xs.length) cs, blkP BIG H cs xs[i] → ∀ k : IV × Hp → Prop, CM fid (.agg cs :: caps.map .c) H k = k (.c (.b (p xs[i])), H)) (k : IV × Hp → Prop) :
    CM 139 [.c v, .f fid caps] H k = k (.c (.i (findI p xs)), H) := by
  refine det (cw139 ?_) k
  unfold vf139c
  simp [hv.lenOf]
  refine wp_for CM_mono xs.length (fun i s => (∀ j (hj : j < i) (hx : j < xs.length), p xs[j] = false) ∧ s.h = H ∧ Env.get s.e 0 = .c v ∧ Env.get s.e 1 = .f fid caps ∧ Env.get s.e 7 = .c (.i xs.length) ∧ Env.get s.e 8 = .c (.i i)) (by simp) ?_ ?_
  · rintro i ⟨e, X⟩ hi ⟨ht, rfl, h0, h1, h7, h8⟩
    simp only at h0 h1 h7 h8 hv hp ⊢
    obtain ⟨id, g, off, cs, q1, hA, hl, hP⟩ := Row.get hv hi
    have hq : rdN X id g off 6 = some cs := by have := hA.n 0 6 (by omega); rw [Nat.add_zero, List.drop_zero, List.take_of_length_le (by omega)] at this; exact this
    have hwr := up1 hi hb
    unfold vf139b0
    cases hpx : p xs[i] with
    | false =>
      simp [h0, h1, h7, h8, q1, hq, hi, hwr, hp i hi _ hP, hpx]
      intro j hj hx
      by_cases e : j = i
      · subst e; exact hpx
      · exact ht j (by omega) hx
    | true =>
      simp [h0, h1, h7, h8, q1, hq, hi, hwr, hp i hi _ hP, hpx, findI_some hi (fun j hj => ht j hj (by omega)) hpx]
  · rintro ⟨e, X⟩ ⟨ht, rfl, h0, h1, h7, h8⟩
    simp only at h0 h1 h7 h8 ⊢
    unfold vf139b0
    simp [h0, h1, h7, h8, findI_none (fun j hj => ht j hj hj)]
theorem containsBlk {H : Hp} {v : CV} {xs : List BlkR} (hv : Blocks H v xs) (hb : xs.length ≤ BIG) {fid : Nat} {caps : List CV} (p : BlkR → Bool)
    (hp : ∀ i (hi : i < xs.length) cs, blkP BIG H cs xs[i] → ∀ k : IV × Hp → Prop, CM fid (.agg cs :: caps.map .c) H k = k (.c (.b (p xs[i])), H)) (k : IV × Hp → Prop) :
    CM 67 [.c v, .f fid caps] H k = k (.c (.b (xs.any p)), H) := by
  refine det (cw67 ?_) k
  unfold vf67c
  have e : decide (0 ≤ findI p xs) = xs.any p := by
    cases h : xs.any p with
    | true => exact decide_eq_true (findI_nonneg.2 h)
    | false => exact decide_eq_false fun hc => by rw [findI_nonneg.1 hc] at h; cases h
  simp [indexBlk hv hb p hp, e]
theorem indexPhi {H : Hp} {v : CV} {xs : List PhiR} (hv : Phis H v xs) (hb : xs.length ≤ BIG) {fid : Nat} {caps : List CV} (p : PhiR → Bool)
    (hp : ∀ i (hi : i < xs.length) cs, phiP BIG H cs xs[i] → ∀ k : IV × Hp → Prop, CM fid (.agg cs :: caps.map .c) H k = k (.c (.b (p xs[i])), H)) (k : IV × Hp → Prop) :
    CM 141 [.c v, .f fid caps] H k = k (.c (.i (findI p xs)), H) := by
  refine det (cw141 ?_) k
  unfold vf141c
  simp [hv.lenOf]
  refine wp_for CM_mono xs.length (fun i s => (∀ j (hj : j < i) (hx : j < xs.length), p xs[j] = false) ∧ s.h = H ∧ Env.get s.e 0 = .c v ∧ Env.get s.e 1 = .f fid caps ∧ Env.get s.e 7 = .c (.i xs.length) ∧ Env.get s.e 8 = .c (.i i)) (by simp) ?_ ?_
  · rintro i ⟨e, X⟩ hi ⟨ht, rfl, h0, h1, h7, h8⟩
    simp only at h0 h1 h7 h8 hv hp ⊢
    obtain ⟨id, g, off, cs, q1, hA, hl, hP⟩ := Row.get hv hi
    have hq : rdN X id g off 2 = some cs := by have := hA.n 0 2 (by omega); rw [Nat.add_zero, List.drop_zero, List.take_of_length_le (by omega)] at this; exact this
    have hwr := up1 hi hb
    unfold vf141b0
    cases hpx : p xs[i] with
    | false =>
      simp [h0, h1, h7, h8, q1, hq, hi, hwr, hp i hi _ hP, hpx]
      intro j hj hx
      by_cases e : j = i
      · subst e; exact hpx
      · exact ht j (by omega) hx
    | true =>
      simp [h0, h1, h7, h8, q1, hq, hi, hwr, hp i hi _ hP, hpx, findI_some hi (fun j hj => ht j hj (by omega)) hpx]
  · rintro ⟨e, X⟩ ⟨ht, rfl, h0, h1, h7, h8⟩
    simp only at h0 h1 h7 h8 ⊢
    unfold vf141b0
    simp [h0, h1, h7, h8, findI_none (fun j hj => ht j hj hj)]
theorem containsPhi {H : Hp} {v : CV} {xs : List PhiR} (hv : Phis H v xs) (hb : xs.length ≤ BIG) {fid : Nat} {caps : List CV} (p : PhiR → Bool)
    (hp : ∀ i (hi : i < xs.length) cs, phiP BIG H cs xs[i] → ∀ k : IV × Hp → Prop, CM fid (.agg cs :: caps.map .c) H k = k (.c (.b (p xs[i])), H)) (k : IV × Hp → Prop) :
    CM 70 [.c v, .f fid caps] H k = k (.c (.b (xs.any p)), H) := by
  refine det (cw70 ?_) k
  unfold vf70c
  have e : decide (0 ≤ findI p xs) = xs.any p := by
    cases h : xs.any p with
    | true => exact decide_eq_true (findI_nonneg.2 h)
    | false => exact decide_eq_false fun hc => by rw [findI_nonneg.1 hc] at h; cases h
  simp [indexPhi hv hb p hp, e]
theorem indexIns {H : Hp} {v : CV} {xs : List InsR} (hv : List5 H v xs) (hb : xs.length ≤ BIG) {fid : Nat} {caps : List CV} (p : InsR → Bool)
    (hp : ∀ i (hi : i < xs.length) cs, insP H cs xs[i] → ∀ k : IV × Hp → Prop, CM fid (.agg cs :: caps.map .c) H k = k (.c (.b (p xs[i])), H)) (k : IV × Hp → Prop) :
    CM 101 [.c v, .f fid caps] H k = k (.c (.i (findI p xs)), H) := by
  refine det (cw101 ?_) k
  unfold vf101c
  simp [hv.lenOf]
  refine wp_for CM_mono xs.length (fun i s => (∀ j (hj : j < i) (hx : j < xs.length), p xs[j] = false) ∧ s.h = H ∧ Env.get s.e 0 = .c v ∧ Env.get s.e 1 = .f fid caps ∧ Env.get s.e 7 = .c (.i xs.length) ∧ Env.get s.e 8 = .c (.i i)) (by simp) ?_ ?_
  · rintro i ⟨e, X⟩ hi ⟨ht, rfl, h0, h1, h7, h8⟩
    simp only at h0 h1 h7 h8 hv hp ⊢
    obtain ⟨id, g, off, cs, q1, hA, hl, hP⟩ := Row.get hv hi
    have hq : rdN X id g off 5 = some cs := by have := hA.n 0 5 (by omega); rw [Nat.add_zero, List.drop_zero, List.take_of_length_le (by omega)] at this; exact this
    have hwr := up1 hi hb
    unfold vf101b0
    cases hpx : p xs[i] with
    | false =>
      simp [h0, h1, h7, h8, q1, hq, hi, hwr, hp i hi _ hP, hpx]
      intro j hj hx
      by_cases e : j = i
      · subst e; exact hpx
      · exact ht j (by omega) hx
    | true =>
      simp [h0, h1, h7, h8, q1, hq, hi, hwr, hp i hi _ hP, hpx, findI_some hi (fun j hj => ht j hj (by omega)) hpx]
  · rintro ⟨e, X⟩ ⟨ht, rfl, h0, h1, h7, h8⟩
    simp only at h0 h1 h7 h8 ⊢
    unfold vf101b0
    simp [h0, h1, h7, h8, findI_none (fun j hj => ht j hj hj)]
theorem containsIns {H : Hp} {v : CV} {xs : List InsR} (hv : List5 H v xs) (hb : xs.length ≤ BIG) {fid : Nat} {caps : List CV} (p : InsR → Bool)
    (hp : ∀ i (hi : i < xs.length) cs, insP H cs xs[i] → ∀ k : IV × Hp → Prop, CM fid (.agg cs :: caps.map .c) H k = k (.c (.b (p xs[i])), H)) (k : IV × Hp → Prop) :
    CM 73 [.c v, .f fid caps] H k = k (.c (.b (xs.any p)), H) := by
  refine det (cw73 ?_) k
  unfold vf73c
  have e : decide (0 ≤ findI p xs) = xs.any p := by
    cases h : xs.any p with
    | true => exact decide_eq_true (findI_nonneg.2 h)
    | false => exact decide_eq_false fun hc => by rw [findI_nonneg.1 hc] at h; cases h
  simp [indexIns hv hb p hp, e]
theorem indexArm {H : Hp} {v : CV} {xs : List ArmR} (hv : Arms H v xs) (hb : xs.length ≤ BIG) {fid : Nat} {caps : List CV} (p : ArmR → Bool)
    (hp : ∀ i (hi : i < xs.length) cs, armP H cs xs[i] → ∀ k : IV × Hp → Prop, CM fid (.agg cs :: caps.map .c) H k = k (.c (.b (p xs[i])), H)) (k : IV × Hp → Prop) :
    CM 197 [.c v, .f fid caps] H k = k (.c (.i (findI p xs)), H) := by
  refine det (cw197 ?_) k
  unfold vf197c
  simp [hv.lenOf]
  refine wp_for CM_mono xs.length (fun i s => (∀ j (hj : j < i) (hx : j < xs.length), p xs[j] = false) ∧ s.h = H ∧ Env.get s.e 0 = .c v ∧ Env.get s.e 1 = .f fid caps ∧ Env.get s.e 7 = .c (.i xs.length) ∧ Env.get s.e 8 = .c (.i i)) (by simp) ?_ ?_
  · rintro i ⟨e, X⟩ hi ⟨ht, rfl, h0, h1, h7, h8⟩
    simp only at h0 h1 h7 h8 hv hp ⊢
    obtain ⟨id, g, off, cs, q1, hA, hl, hP⟩ := Row.get hv hi
    have hq : rdN X id g off 2 = some cs := by have := hA.n 0 2 (by omega); rw [Nat.add_zero, List.drop_zero, List.take_of_length_le (by omega)] at this; exact this
    have hwr := up1 hi hb
    unfold vf197b0
    cases hpx : p xs[i] with
    | false =>
      simp [h0, h1, h7, h8, q1, hq, hi, hwr, hp i hi _ hP, hpx]
      intro j hj hx
      by_cases e : j = i
      · subst e; exact hpx
      · exact ht j (by omega) hx
    | true =>
      simp [h0, h1, h7, h8, q1, hq, hi, hwr, hp i hi _ hP, hpx, findI_some hi (fun j hj => ht j hj (by omega)) hpx]
  · rintro ⟨e, X⟩ ⟨ht, rfl, h0, h1, h7, h8⟩
    simp only at h0 h1 h7 h8 ⊢
    unfold vf197b0
    simp [h0, h1, h7, h8, findI_none (fun j hj => ht j hj hj)]
theorem containsArm {H : Hp} {v : CV} {xs : List ArmR} (hv : Arms H v xs) (hb : xs.length ≤ BIG) {fid : Nat} {caps : List CV} (p : ArmR → Bool)
    (hp : ∀ i (hi : i < xs.length) cs, armP H cs xs[i] → ∀ k : IV × Hp → Prop, CM fid (.agg cs :: caps.map .c) H k = k (.c (.b (p xs[i])), H)) (k : IV × Hp → Prop) :
    CM 142 [.c v, .f fid caps] H k = k (.c (.b (xs.any p)), H) := by
  refine det (cw142 ?_) k
  unfold vf142c
  have e : decide (0 ≤ findI p xs) = xs.any p := by
    cases h : xs.any p with
    | true => exact decide_eq_true (findI_nonneg.2 h)
    | false => exact decide_eq_false fun hc => by rw [findI_nonneg.1 hc] at h; cases h
  simp [indexArm hv hb p hp, e]
end Go.Proofs.YtgdfgnppeekfjaaGreat.Vm
end
section
/- The shape of a program: what both say of it. No conditions. -/
namespace Go.Proofs.YtgdfgnppeekfjaaGreat.Vm
open Go.RowKit (wrap64)
set_option linter.unusedSimpArgs false
set_option linter.unusedVariables false
/-! ### Parts of a slice -/
theorem Row.slice {α : Type} {P : Hp → List CV → α → Prop} {sz : Nat} {H : Hp} {v : CV} {xs : List α} (h : Row P sz H v xs) {l m : Nat} (hl : l ≤ m) (hm : m ≤ xs.length) :
    ∃ w, doSlice H sz v (some (.c (.i l))) (some (.c (.i m))) = some (.c w) ∧ Row P sz H w ((xs.drop l).take (m - l)) ∧ (l = 0 → doSlice H sz v none (some (.c (.i m))) = some (.c w)) ∧ (m = xs.length → doSlice H sz v (some (.c (.i l))) none = some (.c w)) := by
  obtain ⟨css, h1, h2, h3⟩ := h
  have hl2 : ∀ cs ∈ css, cs.length = sz := by
    intro cs hcs
    obtain ⟨i, hi, rfl⟩ := List.getElem_of_mem hcs
    exact (h3 i _ xs[i] (List.getElem?_eq_getElem hi) (List.getElem?_eq_getElem (by omega))).1
  rcases h1 with ⟨rfl, h1, _⟩ | ⟨id, g, off, o, rfl, q1, q2, q3, q4⟩
  · have e1 : l = 0 := by omega
    have e2 : m = 0 := by omega
    subst e1; subst e2
    refine ⟨.ns, by simp [doSlice], by simpa using Row.ns, fun _ => by simp [doSlice], fun _ => by simp [doSlice]⟩
  · have hmi : ¬ ((m : Int) < l) := by omega
    refine ⟨.sl id g (off + l * sz) (m - l), by simp [doSlice, hl, hm, q1, q2], ?_, fun e => by subst e; simp [doSlice, hm, q1, q2], fun e => by subst e; simp [doSlice, hl, q1, q2]⟩
    have hmul : m * sz ≤ xs.length * sz := Nat.mul_le_mul_right _ hm
    have hlm : l * sz + (m - l) * sz = m * sz := by rw [← Nat.add_mul]; congr 1; omega
    have hlen : ((xs.drop l).take (m - l)).length = m - l := by simp; omega
    refine ⟨(css.drop l).take (m - l), ?_, by simp; omega, fun k cs x a b => ?_⟩
    · rw [hlen]
      refine .inr ⟨id, g, off + l * sz, o, rfl, q1, q2, by omega, ?_⟩
      have key : ∀ (css : List (List CV)), (∀ cs ∈ css, cs.length = sz) → ∀ l n, l + n ≤ css.length → ((css.drop l).take n).flatten = (css.flatten.drop (l * sz)).take (n * sz) := by
        intro css
        induction css with
        | nil => intro _ l n h; simp at h; simp [h.1, h.2]
        | cons c r ih =>
          intro hc l n h
          have hcl := hc c (by simp)
          cases l with
          | zero =>
            cases n with
            | zero => simp
            | succ n =>
              have := ih (fun cs h => hc cs (by simp [h])) 0 n (by simpa using h)
              simp at this
              have hm : (n + 1) * sz = c.length + n * sz := by rw [Nat.succ_mul, hcl]; omega
              simp [hm, List.take_append, this]
              rw [List.take_of_length_le (by omega)]
          | succ l =>
            have := ih (fun cs h => hc cs (by simp [h])) l n (by simp at h; omega)
            have hm : (l + 1) * sz = c.length + l * sz := by rw [Nat.succ_mul, hcl]; omega
            have hd : List.drop (c.length + l * sz) c = [] := List.drop_eq_nil_of_le (by omega)
            simp [hm, List.drop_append, this, hd]
      rw [key css hl2 l (m - l) (by omega), ← q4, List.drop_take, List.take_take, List.drop_drop]
      congr 1
      omega
    · rw [List.getElem?_take] at a b
      split at a
      · rename_i hk
        rw [if_pos hk] at b
        rw [List.getElem?_drop] at a b
        exact h3 _ cs x a b
      · cases a
/-! ### What a place has -/
def IsB (H : Hp) (v : CV) (xs : List Int) : Prop := Sl H 1 v xs.length (xs.map .y)
theorem IsB.lenOf {H : Hp} {v : CV} {xs : List Int} (h : IsB H v xs) : lenOf v = some xs.length := Sl.lenOf h
theorem IsB.at_ {H : Hp} {v : CV} {xs : List Int} (h : IsB H v xs) {k : Nat} (hk : k < xs.length) :
    ∃ id g off, idxOf 1 v (k : Int) = some (.p id g off) ∧ rdC H id g off = some (.y xs[k]) := by
  obtain ⟨id, g, off, o, h1, h2, _, h3⟩ := Sl.get h hk
  refine ⟨id, g, off, h1, ?_⟩
  have := h3 0 (by omega)
  simp [hk] at this
  simp [rdC, h2, this]
theorem IsB.mk {H : Hp} {id g off : Nat} {o : Ob} {xs : List Int} (h : rdOb H id g = some o) (hs : o.sz = 1) (hl : off + xs.length ≤ o.cells.length) (hc : (o.cells.drop off).take xs.length = xs.map .y) : IsB H (.sl id g off xs.length) xs :=
  .inr ⟨id, g, off, o, rfl, h, hs, by omega, by rw [Nat.mul_one]; exact hc⟩
theorem indexByte {H : Hp} {v : CV} {xs : List Int} {x : Int} (hv : IsB H v xs) (hb : xs.length ≤ BIG) (k : IV × Hp → Prop) :
    CM 207 [.c v, .c (.y x)] H k = k (.c (.i (findI (fun y => decide (x = y)) xs)), H) := by
  refine det (cw207 ?_) k
  unfold vf207c
  simp [hv.lenOf]
  refine wp_for CM_mono xs.length (fun i s => (∀ j (hj : j < i) (hx : j < xs.length), decide (x = xs[j]) = false) ∧ s.h = H ∧ Env.get s.e 0 = .c v ∧ Env.get s.e 1 = .c (.y x) ∧ Env.get s.e 7 = .c (.i xs.length) ∧ Env.get s.e 8 = .c (.i i)) (by simp) ?_ ?_
  · rintro i ⟨e, X⟩ hi ⟨ht, rfl, h0, h1, h7, h8⟩
    simp only at h0 h1 h7 h8 hv ⊢
    obtain ⟨id, g, off, q1, q2⟩ := hv.at_ hi
    have hwr := up1 hi hb
    unfold vf207b0
    cases hpx : decide (x = xs[i]) with
    | false =>
      simp [h0, h1, h7, h8, q1, q2, hi, hwr, hpx]
      intro j hj hx
      by_cases e : j = i
      · subst e; exact of_decide_eq_false hpx
      · exact of_decide_eq_false (ht j (by omega) hx)
    | true =>
      simp [h0, h1, h7, h8, q1, q2, hi, hwr, hpx, findI_some hi (p := fun y => decide (x = y)) (fun j hj => ht j hj (by omega)) hpx]
  · rintro ⟨e, X⟩ ⟨ht, rfl, h0, h1, h7, h8⟩
    simp only at h0 h1 h7 h8 ⊢
    unfold vf207b0
    simp [h0, h1, h7, h8, findI_none (p := fun y => decide (x = y)) (fun j hj => ht j hj hj)]
theorem containsByte {H : Hp} {v : CV} {xs : List Int} {x : Int} (hv : IsB H v xs) (hb : xs.length ≤ BIG) (k : IV × Hp → Prop) :
    CM 162 [.c v, .c (.y x)] H k = k (.c (.b (xs.any fun y => decide (x = y))), H) := by
  refine det (cw162 ?_) k
  unfold vf162c
  have e : decide (0 ≤ findI (fun y => decide (x = y)) xs) = xs.any (fun y => decide (x = y)) := by
    cases h : xs.any (fun y => decide (x = y)) with
    | true => exact decide_eq_true (findI_nonneg.2 h)
    | false => exact decide_eq_false fun hc => by rw [findI_nonneg.1 hc] at h; cases h
  simp [indexByte hv hb, e]
def formF (op : Int) : ByteArray × Bool :=
  if op = 20 then (⟨#[68, 78]⟩, true) else if op = 21 ∨ op = 25 then (⟨#[68, 65]⟩, true) else if op = 22 then (⟨#[65, 66]⟩, true) else if op = 23 then (⟨#[65]⟩, true) else if op = 24 then (⟨#[68]⟩, true) else (⟨#[68, 65, 66]⟩, wordOk op)
theorem gc_tup (H : Hp) (s : ByteArray) (b : Bool) : gcRet H (.tup [(false, [.s s]), (false, [.b b])]) H = (.tup [(false, [.s s]), (false, [.b b])], H) := gc_same H rfl
theorem formOf_call (H : Hp) (op : Int) (k : IV × Hp → Prop) : CM 144 [.c (.i op)] H k = k (.tup [(false, [.s (formF op).1]), (false, [.b (formF op).2])], H) := by
  refine det (cw144 ?_) k
  unfold vf144c formF
  by_cases h0 : op = 20
  · simp [h0, gc_tup]
  · by_cases h1 : op = 21
    · simp [h1, gc_tup]
    · by_cases h5 : op = 25
      · simp [h5, gc_tup]
      · by_cases h2 : op = 22
        · simp [h2, gc_tup]
        · by_cases h3 : op = 23
          · simp [h3, gc_tup]
          · by_cases h4 : op = 24
            · simp [h4, gc_tup]
            · simp [h0, h1, h2, h3, h4, h5, gc_tup, implWordOk]
def bytesI (s : ByteArray) : List Int := s.data.toList.map fun b => (b.toNat : Int)
def hasF (op x : Int) : Bool := (formF op).2 && (bytesI (formF op).1).any fun y => decide (x = y)
theorem has_call (H : Hp) (op x : Int) (k : IV × Hp → Prop) : CM 99 [.c (.i op), .c (.y x)] H k = k (.c (.b (hasF op x)), H) := by
  refine det (cw99 ?_) k
  unfold vf99c
  have hsz : (formF op).1.size ≤ 3 := by
    unfold formF
    repeat' split
    all_goals first
      | decide
      | exact (by decide : ByteArray.size ⟨#[68, 65, 66]⟩ ≤ 3)
  generalize hf : formF op = f at hsz
  obtain ⟨s, ok⟩ := f
  simp only at hsz
  unfold hasF
  rw [hf]
  have hlen : (bytesI s).length = s.size := by simp [bytesI]
  have hc := containsByte (H := H ++ [⟨s.data.toList.map fun b => .y b.toNat, 0, false, 1⟩]) (v := .sl H.length 0 0 s.size) (xs := bytesI s) (x := x)
    (by rw [← hlen]; exact IsB.mk (o := ⟨s.data.toList.map fun b => .y b.toNat, 0, false, 1⟩) (by simp) rfl (by simp [hlen]) (by rw [hlen, List.drop_zero, List.take_of_length_le (by simp)]; simp [bytesI])) (by rw [hlen]; simp only [BIG]; omega)
  have hl : s.size ≤ LIM := by unfold LIM; omega
  cases ok with
  | true => simp [formOf_call, hf, hc, hl]
  | false => simp [formOf_call, hf, hc, hl]
theorem partOk_call (H : Hp) (n m : Int) (had : Bool) (k : IV × Hp → Prop) : CM 140 [.c (.i n), .c (.b had), .c (.i m)] H k = k (.c (.b (if had = true then valB n m else decide (n = 0))), H) := by
  refine det (cw140 ?_) k
  unfold vf140c valB
  cases had with
  | true => by_cases h : 0 ≤ n <;> simp [h]
  | false => simp
theorem implTerm (H : Hp) (t : TrmR) (n m : Int) (hn : -9223372036854775807 ≤ n ∧ n ≤ 9223372036854775807) (k : IV × Hp → Prop) :
    CM 69 [.agg (trmC t), .c (.i n), .c (.i m)] H k = k (.c (.b (termB t n m)), H) := by
  refine det (cw69 ?_) k
  unfold vf69c termB
  have hw : wrap64 (n - 1) = n - 1 := wrap64_id (by omega)
  obtain ⟨kind, a, to, els⟩ := t
  by_cases h1 : kind = 1
  · subst h1; simp [trmC, implIn, partOk_call, hw]; repeat' first | (refine cnd_of (fun hc => ?_) (fun hc => ?_) <;> simp [hc, implIn, partOk_call, hw]) | (refine grd_t (fun hc => ?_) (fun hc => ?_) <;> simp [hc, implIn, partOk_call, hw]) | (refine grd_f (fun hc => ?_) (fun hc => ?_) <;> simp [hc, implIn, partOk_call, hw])
  · by_cases h2 : kind = 2
    · subst h2; simp [trmC, implIn, partOk_call, hw]; repeat' first | (refine cnd_of (fun hc => ?_) (fun hc => ?_) <;> simp [hc, implIn, partOk_call, hw]) | (refine grd_t (fun hc => ?_) (fun hc => ?_) <;> simp [hc, implIn, partOk_call, hw]) | (refine grd_f (fun hc => ?_) (fun hc => ?_) <;> simp [hc, implIn, partOk_call, hw])
    · by_cases h3 : kind = 3
      · subst h3; simp [trmC, implIn, partOk_call, hw]; repeat' first | (refine cnd_of (fun hc => ?_) (fun hc => ?_) <;> simp [hc, implIn, partOk_call, hw]) | (refine grd_t (fun hc => ?_) (fun hc => ?_) <;> simp [hc, implIn, partOk_call, hw]) | (refine grd_f (fun hc => ?_) (fun hc => ?_) <;> simp [hc, implIn, partOk_call, hw])
      · simp [trmC, implIn, partOk_call, hw, h1, h2, h3]
theorem has_tab (op : Int) : (wordOk op = true ∧ hasF op 68 = true ∧ hasF op 65 = true ∧ hasF op 66 = true ∧ hasF op 78 = false ∧ (formF op).2 = true) ∨
    (op = 20 ∧ hasF op 68 = true ∧ hasF op 65 = false ∧ hasF op 66 = false ∧ hasF op 78 = true ∧ (formF op).2 = true) ∨
    ((op = 21 ∨ op = 25) ∧ hasF op 68 = true ∧ hasF op 65 = true ∧ hasF op 66 = false ∧ hasF op 78 = false ∧ (formF op).2 = true) ∨
    (op = 22 ∧ hasF op 68 = false ∧ hasF op 65 = true ∧ hasF op 66 = true ∧ hasF op 78 = false ∧ (formF op).2 = true) ∨
    (op = 23 ∧ hasF op 68 = false ∧ hasF op 65 = true ∧ hasF op 66 = false ∧ hasF op 78 = false ∧ (formF op).2 = true) ∨
    (op = 24 ∧ hasF op 68 = true ∧ hasF op 65 = false ∧ hasF op 66 = false ∧ hasF op 78 = false ∧ (formF op).2 = true) ∨
    (wordOk op = false ∧ op ≠ 20 ∧ op ≠ 21 ∧ op ≠ 25 ∧ op ≠ 22 ∧ op ≠ 23 ∧ op ≠ 24 ∧ hasF op 68 = false ∧ hasF op 65 = false ∧ hasF op 66 = false ∧ hasF op 78 = false ∧ (formF op).2 = false) := by
  by_cases h0 : op = 20
  · subst h0; exact .inr (.inl (by decide))
  · by_cases h1 : op = 21
    · subst h1; exact .inr (.inr (.inl (by decide)))
    · by_cases h5 : op = 25
      · subst h5; exact .inr (.inr (.inl (by decide)))
      · by_cases h2 : op = 22
        · subst h2; exact .inr (.inr (.inr (.inl (by decide))))
        · by_cases h3 : op = 23
          · subst h3; exact .inr (.inr (.inr (.inr (.inl (by decide)))))
          · by_cases h4 : op = 24
            · subst h4; exact .inr (.inr (.inr (.inr (.inr (.inl (by decide))))))
            · have hf : formF op = (⟨#[68, 65, 66]⟩, wordOk op) := by simp [formF, h0, h1, h2, h3, h4, h5]
              have hb : bytesI ⟨#[68, 65, 66]⟩ = [68, 65, 66] := by decide
              cases hw : wordOk op with
              | true => left; simp [hasF, hf, hw, hb]
              | false => right; right; right; right; right; right; simp [hasF, hf, hw, h0, h1, h2, h3, h4, h5]
set_option maxRecDepth 4000 in
theorem implIns (H : Hp) (x : InsR) (m : Int) (k : IV × Hp → Prop) :
    CM 75 [.agg (insC x), .c (.i m)] H k = k (.c (.b (insB x m)), H) := by
  refine det (cw75 ?_) k
  unfold vf75c insB
  obtain ⟨op, d, a, b, n⟩ := x
  simp only
  rcases has_tab op with h | h | h | h | h | h | h
  · obtain ⟨h0, h1, h2, h3, h4, h5⟩ := h
    simp [insC, formOf_call, has_call, partOk_call, h0, h1, h2, h3, h4, h5]
    repeat' first | (refine cnd_of (fun hc => ?_) (fun hc => ?_) <;> simp [hc, has_call, partOk_call, h0, h1, h2, h3, h4, h5]) | (refine grd_t (fun hc => ?_) (fun hc => ?_) <;> simp [hc, has_call, partOk_call, h0, h1, h2, h3, h4, h5]) | (refine grd_f (fun hc => ?_) (fun hc => ?_) <;> simp [hc, has_call, partOk_call, h0, h1, h2, h3, h4, h5])
  · obtain ⟨rfl, h1, h2, h3, h4, h5⟩ := h
    have h0 : wordOk 20 = false := by decide
    simp [insC, formOf_call, has_call, partOk_call, h0, h1, h2, h3, h4, h5]
    repeat' first | (refine cnd_of (fun hc => ?_) (fun hc => ?_) <;> simp [hc, has_call, partOk_call, h0, h1, h2, h3, h4, h5]) | (refine grd_t (fun hc => ?_) (fun hc => ?_) <;> simp [hc, has_call, partOk_call, h0, h1, h2, h3, h4, h5]) | (refine grd_f (fun hc => ?_) (fun hc => ?_) <;> simp [hc, has_call, partOk_call, h0, h1, h2, h3, h4, h5])
  · obtain ⟨rfl | rfl, h1, h2, h3, h4, h5⟩ := h
    · have h0 : wordOk 21 = false := by decide
      simp [insC, formOf_call, has_call, partOk_call, h0, h1, h2, h3, h4, h5]
      repeat' first | (refine cnd_of (fun hc => ?_) (fun hc => ?_) <;> simp [hc, has_call, partOk_call, h0, h1, h2, h3, h4, h5]) | (refine grd_t (fun hc => ?_) (fun hc => ?_) <;> simp [hc, has_call, partOk_call, h0, h1, h2, h3, h4, h5]) | (refine grd_f (fun hc => ?_) (fun hc => ?_) <;> simp [hc, has_call, partOk_call, h0, h1, h2, h3, h4, h5])
    · have h0 : wordOk 25 = false := by decide
      simp [insC, formOf_call, has_call, partOk_call, h0, h1, h2, h3, h4, h5]
      repeat' first | (refine cnd_of (fun hc => ?_) (fun hc => ?_) <;> simp [hc, has_call, partOk_call, h0, h1, h2, h3, h4, h5]) | (refine grd_t (fun hc => ?_) (fun hc => ?_) <;> simp [hc, has_call, partOk_call, h0, h1, h2, h3, h4, h5]) | (refine grd_f (fun hc => ?_) (fun hc => ?_) <;> simp [hc, has_call, partOk_call, h0, h1, h2, h3, h4, h5])
  · obtain ⟨rfl, h1, h2, h3, h4, h5⟩ := h
    have h0 : wordOk 22 = false := by decide
    simp [insC, formOf_call, has_call, partOk_call, h0, h1, h2, h3, h4, h5]
    repeat' first | (refine cnd_of (fun hc => ?_) (fun hc => ?_) <;> simp [hc, has_call, partOk_call, h0, h1, h2, h3, h4, h5]) | (refine grd_t (fun hc => ?_) (fun hc => ?_) <;> simp [hc, has_call, partOk_call, h0, h1, h2, h3, h4, h5]) | (refine grd_f (fun hc => ?_) (fun hc => ?_) <;> simp [hc, has_call, partOk_call, h0, h1, h2, h3, h4, h5])
  · obtain ⟨rfl, h1, h2, h3, h4, h5⟩ := h
    have h0 : wordOk 23 = false := by decide
    simp [insC, formOf_call, has_call, partOk_call, h0, h1, h2, h3, h4, h5]
    repeat' first | (refine cnd_of (fun hc => ?_) (fun hc => ?_) <;> simp [hc, has_call, partOk_call, h0, h1, h2, h3, h4, h5]) | (refine grd_t (fun hc => ?_) (fun hc => ?_) <;> simp [hc, has_call, partOk_call, h0, h1, h2, h3, h4, h5]) | (refine grd_f (fun hc => ?_) (fun hc => ?_) <;> simp [hc, has_call, partOk_call, h0, h1, h2, h3, h4, h5])
  · obtain ⟨rfl, h1, h2, h3, h4, h5⟩ := h
    have h0 : wordOk 24 = false := by decide
    simp [insC, formOf_call, has_call, partOk_call, h0, h1, h2, h3, h4, h5]
    repeat' first | (refine cnd_of (fun hc => ?_) (fun hc => ?_) <;> simp [hc, has_call, partOk_call, h0, h1, h2, h3, h4, h5]) | (refine grd_t (fun hc => ?_) (fun hc => ?_) <;> simp [hc, has_call, partOk_call, h0, h1, h2, h3, h4, h5]) | (refine grd_f (fun hc => ?_) (fun hc => ?_) <;> simp [hc, has_call, partOk_call, h0, h1, h2, h3, h4, h5])
  · obtain ⟨h0, e1, e2, e3, e4, e5, e6, h1, h2, h3, h4, h5⟩ := h
    simp [insC, formOf_call, has_call, partOk_call, h0, h1, h2, h3, h4, h5, e1, e2, e3, e4, e5, e6]
end Go.Proofs.YtgdfgnppeekfjaaGreat.Vm
end
section
/- The shape of a program, of both: phis, blocks, all. No conditions. -/
namespace Go.Proofs.YtgdfgnppeekfjaaGreat.Vm
open Go.RowKit (wrap64)
set_option linter.unusedSimpArgs false
set_option linter.unusedVariables false
theorem all_of {α : Type} {p : α → Bool} {xs : List α} (h : ∀ j (hj : j < xs.length), p xs[j] = true) : xs.all p = true := by
  rw [List.all_eq_true]
  intro x hx
  obtain ⟨j, hj, rfl⟩ := List.getElem_of_mem hx
  exact h j hj
theorem all_not {α : Type} {p : α → Bool} {xs : List α} {i : Nat} (hi : i < xs.length) (h : p xs[i] = false) : xs.all p = false := by
  cases hc : xs.all p with
  | false => rfl
  | true => rw [List.all_eq_true] at hc; rw [hc _ (List.getElem_mem hi)] at h; cases h
def armB (n m : Int) (arms : List ArmR) (i : Nat) : Bool := match arms[i]? with
  | some a => inB a.fr 0 (n - 1) && valB a.v m && !(arms.take i).any fun x => decide (x.fr = a.fr)
  | none => true
def armsB (n m : Int) (arms : List ArmR) : Bool := (List.range arms.length).all (armB n m arms)
def phiB (n m : Int) (p : PhiR) : Bool := valB p.d m && decide (p.arms.length ≤ 16) && armsB n m p.arms
def blkB (n m : Int) (b : BlkR) : Bool := decide (b.phis.length ≤ 24) && decide (b.list.length ≤ 24) && termB b.term n m && b.phis.all (phiB n m) && b.list.all fun x => insB x m
def shapeB (f : FnR) : Bool := inB f.blocks.length 1 16 && inB f.values 0 80 && f.blocks.all (blkB f.blocks.length f.values)
theorem armB_at {n m : Int} {arms : List ArmR} {i : Nat} (hi : i < arms.length) : armB n m arms i = (inB arms[i].fr 0 (n - 1) && valB arms[i].v m && !(arms.take i).any fun x => decide (x.fr = arms[i].fr)) := by
  unfold armB; rw [List.getElem?_eq_getElem hi]
theorem armsB_true {n m : Int} {arms : List ArmR} (h : ∀ j, j < arms.length → armB n m arms j = true) : armsB n m arms = true := by
  unfold armsB; rw [List.all_eq_true]; intro j hj; exact h j (List.mem_range.1 hj)
theorem armsB_false {n m : Int} {arms : List ArmR} {i : Nat} (hi : i < arms.length) (h : armB n m arms i = false) : armsB n m arms = false := by
  cases hc : armsB n m arms with
  | false => rfl
  | true =>
    unfold armsB at hc
    rw [List.all_eq_true] at hc
    rw [hc i (List.mem_range.2 hi)] at h; cases h
theorem natLe {m : Nat} : ((m : Int) ≤ 16) = (m ≤ 16) := by simp only [eq_iff_iff]; omega
theorem wn1 {n : Int} (hn : -9223372036854775807 ≤ n ∧ n ≤ 9223372036854775807) : wrap64 (n - 1) = n - 1 := wrap64_id (by omega)
theorem specPhi {H : Hp} {d : Int} {w : CV} {arms : List ArmR} (hw : Arms H w arms) (hb : arms.length ≤ BIG) (n m : Int) (hn : -9223372036854775807 ≤ n ∧ n ≤ 9223372036854775807) (k : IV × Hp → Prop) :
    CM 78 [.agg [.i d, w], .c (.i n), .c (.i m)] H k = k (.c (.b (phiB n m ⟨d, arms⟩)), H) := by
  refine det (cw78 ?_) k
  unfold vf78c phiB
  simp only
  cases e1 : valB d m with
  | false => simp [specVal, e1]
  | true =>
    by_cases e2 : arms.length ≤ 16
    · have e2' : ¬ (16 : Int) < arms.length := by omega
      simp [specVal, e1, hw.lenOf, e2, e2']
      refine wp_for CM_mono arms.length (fun i s => (∀ j, j < i → armB n m arms j = true) ∧ s.h = H ++ [⟨[.i d, w], 0, true, 2⟩] ∧ Env.get s.e 1 = .c (.i n) ∧ Env.get s.e 2 = .c (.i m) ∧ Env.get s.e 3 = .c (.p H.length 0 0) ∧ Env.get s.e 7 = .c (.i i)) (by simp) ?_ ?_
      · rintro i ⟨e, X⟩ hi ⟨ht, rfl, h1, h2, h3, h7⟩
        simp only at h1 h2 h3 h7 ⊢
        obtain ⟨id, g, off, q1, q2, q3, q4, q5⟩ := hw.get hi
        have hA := armB_at (n := n) (m := m) hi
        unfold vf78b1
        cases f1 : inB arms[i].fr 0 (n - 1) with
        | false => simp [h1, h2, h3, h7, hw.lenOf, hi, q1, q3, specIn, wn1 hn, f1, armsB_false hi (by rw [hA, f1]; rfl)]
        | true =>
          cases f2 : valB arms[i].v m with
          | false => simp [h1, h2, h3, h7, hw.lenOf, hi, q1, q3, specIn, specVal, wn1 hn, f1, f2, armsB_false hi (by rw [hA, f1, f2]; rfl)]
          | true =>
            simp [h1, h2, h3, h7, hw.lenOf, hi, q1, q3, specIn, specVal, wn1 hn, f1, f2]
            refine wp_for CM_mono i (fun j s => (∀ l (hl : l < j) (hx : l < arms.length), ¬ arms[l].fr = arms[i].fr) ∧ s.h = H ++ [⟨[.i d, w], 0, true, 2⟩] ∧ Env.get s.e 1 = .c (.i n) ∧ Env.get s.e 2 = .c (.i m) ∧ Env.get s.e 3 = .c (.p H.length 0 0) ∧ Env.get s.e 7 = .c (.i i) ∧ Env.get s.e 8 = .c (.i j)) (by simp [h1, h2, h3, h7]) ?_ ?_
            · rintro j ⟨e', X'⟩ hj ⟨ht', rfl, h1, h2, h3, h7, h8⟩
              simp only at h1 h2 h3 h7 h8 ⊢
              obtain ⟨id', g', off', r1, r2, r3, r4, r5⟩ := hw.get (k := j) (by omega)
              unfold vf78b0
              by_cases f3 : arms[j].fr = arms[i].fr
              · have hany : ((arms.take i).any fun x => decide (x.fr = arms[i].fr)) = true := by
                  rw [List.any_eq_true]
                  exact ⟨arms[j], List.mem_take_iff_getElem.2 ⟨j, by omega, rfl⟩, by simp [f3]⟩
                simp [h1, h2, h3, h7, h8, hj, q1, q3, r1, r3, f3, armsB_false hi (by rw [hA, hany]; simp)]
              · simp [h1, h2, h3, h7, h8, hj, q1, q3, r1, r3, f3, up1 hj (Nat.le_of_lt (Nat.lt_of_lt_of_le hi hb))]
                intro l hl hx
                by_cases el : l = j
                · subst el; exact f3
                · exact ht' l (by omega) hx
            · rintro ⟨e', X'⟩ ⟨ht', rfl, h1, h2, h3, h7, h8⟩
              simp only at h1 h2 h3 h7 h8 ⊢
              unfold vf78b0
              have hany : ((arms.take i).any fun x => decide (x.fr = arms[i].fr)) = false := by
                rw [List.any_eq_false]
                intro x hx
                obtain ⟨l, hl, rfl⟩ := List.mem_take_iff_getElem.1 hx
                simpa using ht' l (by omega) (by omega)
              have hAt : armB n m arms i = true := by rw [hA, f1, f2, hany]; rfl
              simp [h1, h2, h3, h7, h8, up1 hi hb]
              intro l hl
              by_cases el : l = i
              · subst el; exact hAt
              · exact ht l (by omega)
      · rintro ⟨e, X⟩ ⟨ht, rfl, h1, h2, h3, h7⟩
        simp only at h1 h2 h3 h7 ⊢
        unfold vf78b1
        simp [h1, h2, h3, h7, hw.lenOf, armsB_true ht]
    · have e2' : (16 : Int) < arms.length := by omega
      simp [specVal, e1, hw.lenOf, e2, e2']
theorem phiTest {H : Hp} {id g : Nat} {fr : Int} (h : rdC H id g 0 = some (.i fr)) (a : ArmR) (k : IV × Hp → Prop) :
    CM 143 [.agg (armC a), .c (.p id g 0)] H k = k (.c (.b (decide (a.fr = fr))), H) := by
  refine det (cw143 ?_) k
  unfold vf143c
  have hk : ∀ L, rdC (H ++ L) id g 0 = some (.i fr) := by
    intro L
    unfold rdC at h ⊢
    cases ho : rdOb H id g with
    | none => rw [ho] at h; cases h
    | some o => rw [ho] at h; rw [rdOb_app L ho]; exact h
  simp [armC, hk]
theorem implPhi {H : Hp} {d : Int} {w : CV} {arms : List ArmR} (hw : Arms H w arms) (hb : arms.length ≤ BIG) (n m : Int) (hn : -9223372036854775807 ≤ n ∧ n ≤ 9223372036854775807) (k : IV × Hp → Prop) :
    CM 72 [.agg [.i d, w], .c (.i n), .c (.i m)] H k = k (.c (.b (phiB n m ⟨d, arms⟩)), H) := by
  refine det (cw72 ?_) k
  unfold vf72c phiB
  simp [hw.lenOf]
  refine wp_for CM_mono arms.length (fun i s => (∀ j, j < i → armB n m arms j = true) ∧ Pre (H ++ [⟨[.i d, w], 0, true, 2⟩]) s.h ∧ Env.get s.e 1 = .c (.i n) ∧ Env.get s.e 2 = .c (.i m) ∧ Env.get s.e 3 = .c (.p H.length 0 0) ∧ Env.get s.e 10 = .c w ∧ Env.get s.e 11 = .c (.i arms.length) ∧ Env.get s.e 12 = .c (.i i)) ⟨by simp, Pre.refl _, by simp⟩ ?_ ?_
  · rintro i ⟨e, X⟩ hi ⟨ht, ⟨L, hX⟩, h1, h2, h3, h10, h11, h12⟩
    simp only at h1 h2 h3 h10 h11 h12 hX ⊢
    simp only [List.append_assoc, List.cons_append, List.nil_append] at hX
    subst hX
    obtain ⟨id, g, off, q1, q2, q3, q4, q5⟩ := hw.get hi
    have hA := armB_at (n := n) (m := m) hi
    unfold vf72b0
    cases f1 : inB arms[i].fr 0 (n - 1) with
    | false => simp [h1, h2, h3, h10, h11, h12, hi, q1, q3, implIn, wn1 hn, f1, armsB_false hi (by rw [hA, f1]; rfl), putAt]
    | true =>
      cases f2 : valB arms[i].v m with
      | false => simp [h1, h2, h3, h10, h11, h12, hi, q1, q3, implIn, partOk_call, wn1 hn, f1, f2, armsB_false hi (by rw [hA, f1, f2]; rfl), putAt]
      | true =>
        obtain ⟨w', s1, s2, s3, _⟩ := Row.slice (Arms.app hw (⟨[.i d, w], 0, true, 2⟩ :: (L ++ [⟨[.i arms[i].fr, .i arms[i].v], 0, true, 2⟩]))) (l := 0) (m := i) (by omega) (by omega)
        have s3 := s3 rfl
        rw [List.drop_zero, Nat.sub_zero] at s2
        simp [h1, h2, h3, h10, h11, h12, hi, q1, q3, implIn, partOk_call, wn1 hn, f1, f2, putAt, s3]
        rw [containsArm s2 (by simp; omega) (fun a => decide (a.fr = arms[i].fr)) (fun l hl cs hcs k => by
          have hcs : cs = armC _ := hcs
          subst hcs
          exact phiTest (by simp) _ k)]
        cases f4 : (arms.take i).any fun a => decide (a.fr = arms[i].fr) with
        | true => simp [h1, h2, h3, h10, h11, h12, armsB_false hi (by rw [hA, f4]; simp)]
        | false =>
          have hAt : armB n m arms i = true := by rw [hA, f1, f2, f4]; rfl
          simp [h1, h2, h3, h10, h11, h12, up1 hi hb]
          refine ⟨fun l hl => ?_, ?_⟩
          · by_cases el : l = i
            · subst el; exact hAt
            · exact ht l (by omega)
          · exact ⟨L ++ [⟨[.i arms[i].fr, .i arms[i].v], 0, true, 2⟩], by simp⟩
  · rintro ⟨e, X⟩ ⟨ht, ⟨L, hX⟩, h1, h2, h3, h10, h11, h12⟩
    simp only at h1 h2 h3 h10 h11 h12 hX ⊢
    simp only [List.append_assoc, List.cons_append, List.nil_append] at hX
    subst hX
    unfold vf72b0
    cases e1 : valB d m with
    | false => simp [h1, h2, h3, h10, h11, h12, partOk_call, e1]
    | true => simp [h1, h2, h3, h10, h11, h12, partOk_call, e1, armsB_true ht, hw.lenOf, natLe]
end Go.Proofs.YtgdfgnppeekfjaaGreat.Vm
end
section
/- The shape of a program, of both: blocks, all. No conditions. -/
namespace Go.Proofs.YtgdfgnppeekfjaaGreat.Vm
open Go.RowKit (wrap64)
set_option linter.unusedSimpArgs false
set_option linter.unusedVariables false
theorem specTerm' (H : Hp) (t : TrmR) (n m : Int) (hn : -9223372036854775807 ≤ n ∧ n ≤ 9223372036854775807) (k : IV × Hp → Prop) :
    CM 77 [.agg [.i t.kind, .i t.a, .i t.to, .i t.els], .c (.i n), .c (.i m)] H k = k (.c (.b (termB t n m)), H) := specTerm H t n m hn k
theorem implTerm' (H : Hp) (t : TrmR) (n m : Int) (hn : -9223372036854775807 ≤ n ∧ n ≤ 9223372036854775807) (k : IV × Hp → Prop) :
    CM 69 [.agg [.i t.kind, .i t.a, .i t.to, .i t.els], .c (.i n), .c (.i m)] H k = k (.c (.b (termB t n m)), H) := implTerm H t n m hn k
theorem specIns' (H : Hp) (x : InsR) (m : Int) (k : IV × Hp → Prop) :
    CM 79 [.agg [.i x.op, .i x.d, .i x.a, .i x.b, .i x.n], .c (.i m)] H k = k (.c (.b (insB x m)), H) := specIns H x m k
theorem implIns' (H : Hp) (x : InsR) (m : Int) (k : IV × Hp → Prop) :
    CM 75 [.agg [.i x.op, .i x.d, .i x.a, .i x.b, .i x.n], .c (.i m)] H k = k (.c (.b (insB x m)), H) := implIns H x m k
theorem bigI {n : Nat} (hb : n ≤ BIG) : -9223372036854775807 ≤ (n : Int) ∧ (n : Int) ≤ 9223372036854775807 := by simp only [BIG] at hb; omega
theorem not_all {α : Type} {p : α → Bool} {xs : List α} {i : Nat} (hi : i < xs.length) (h : p xs[i] = false) : ∃ x, x ∈ xs ∧ p x = false := ⟨_, List.getElem_mem hi, h⟩
theorem all_mem {α : Type} {p : α → Bool} {xs : List α} (h : ∀ j (hj : j < xs.length), p xs[j] = true) : ∀ x ∈ xs, p x = true := List.all_eq_true.1 (all_of h)
theorem specShape {H : Hp} {v : CV} {f : FnR} (hv : Blocks H v f.blocks) (hb : f.blocks.length ≤ BIG) (k : IV × Hp → Prop) :
    CM 20 [.agg [v, .i f.values]] H k = k (.c (.b (shapeB f)), H) := by
  refine det (cw20 ?_) k
  obtain ⟨bs, m⟩ := f
  simp only at hv hb ⊢
  unfold vf20c shapeB
  simp only
  cases e1 : inB bs.length 1 16 with
  | false => simp [hv.lenOf, (hv.app _).lenOf, specIn, e1]
  | true =>
    cases e2 : inB m 0 80 with
    | false => simp [hv.lenOf, (hv.app _).lenOf, specIn, e1, e2]
    | true =>
      simp [hv.lenOf, (hv.app _).lenOf, specIn, e1, e2]
      refine wp_for CM_mono bs.length (fun i s => (∀ j (hj : j < i) (hx : j < bs.length), blkB bs.length m bs[j] = true) ∧ Pre (H ++ [⟨[v, .i m], 0, true, 2⟩]) s.h ∧ Env.get s.e 1 = .c (.p H.length 0 0) ∧ Env.get s.e 3 = .c (.i bs.length) ∧ Env.get s.e 4 = .c (.i i)) ⟨by simp, Pre.refl _, by simp⟩ ?_ ?_
      · rintro i ⟨e, X⟩ hi ⟨ht, ⟨L, hX⟩, h1, h3, h4⟩
        simp only at h1 h3 h4 hX ⊢
        simp only [List.append_assoc, List.cons_append, List.nil_append] at hX
        subst hX
        obtain ⟨id, g, off, w, u, q1, q2, q3, hw, hu, hb1, hb2, q4, q5⟩ := hv.get hi
        unfold vf20b2
        by_cases f1 : bs[i].phis.length ≤ 24
        · have f1' : ¬ (24 : Int) < bs[i].phis.length := by omega
          by_cases f2 : bs[i].list.length ≤ 24
          · have f2' : ¬ (24 : Int) < bs[i].list.length := by omega
            cases f3 : termB bs[i].term bs.length m with
            | false =>
              simp [h1, h3, h4, hi, q1, q3, putAt, hw.lenOf, hu.lenOf, f1', f2', specTerm' _ _ _ _ (bigI hb), f3]
              exact not_all hi (by simp [blkB, f3])
            | true =>
              simp [h1, h3, h4, hi, q1, q3, putAt, hw.lenOf, hu.lenOf, f1', f2', specTerm' _ _ _ _ (bigI hb), f3]
              generalize hBX : (L ++ [(⟨[w, u, .i bs[i].term.kind, .i bs[i].term.a, .i bs[i].term.to, .i bs[i].term.els], 0, true, 6⟩ : Ob)]) = L1
              refine wp_for CM_mono bs[i].phis.length (fun j s => (∀ l (hl : l < j) (hx : l < bs[i].phis.length), phiB bs.length m bs[i].phis[l] = true) ∧ s.h = H ++ (⟨[v, .i m], 0, true, 2⟩ :: L1) ∧ Env.get s.e 1 = .c (.p H.length 0 0) ∧ Env.get s.e 3 = .c (.i bs.length) ∧ Env.get s.e 4 = .c (.i i) ∧
                Env.get s.e 5 = .c (.p (H.length + (L.length + 1)) 0 0) ∧ Env.get s.e 6 = .c (.i j)) ⟨by simp, by simp, by simp [h1, h3, h4]⟩ ?_ ?_
              · rintro j ⟨e', X'⟩ hj ⟨ht', rfl, h1, h3, h4, h5, h6⟩
                simp only at h1 h3 h4 h5 h6 ⊢
                obtain ⟨id', g', off', z, r1, r2, r3, hz, hbz, r4, r5⟩ := hw.get hj
                unfold vf20b0
                subst hBX
                cases f4 : phiB bs.length m bs[i].phis[j] with
                | false =>
                  simp [h1, h3, h4, h5, h6, hw.lenOf, hj, r1, r3, specPhi (hz.app _) hbz bs.length m (bigI hb), f4]
                  exact not_all hi (by simp only [blkB, all_not hj f4]; simp)
                | true =>
                  simp [h1, h3, h4, h5, h6, hw.lenOf, hj, r1, r3, specPhi (hz.app _) hbz bs.length m (bigI hb), f4, up1 hj hb1]
                  intro l hl hx
                  by_cases el : l = j
                  · subst el; exact f4
                  · exact ht' l (by omega) hx
              · rintro ⟨e', X'⟩ ⟨ht', rfl, h1, h3, h4, h5, h6⟩
                simp only at h1 h3 h4 h5 h6 ⊢
                have hph := all_of (fun j hj => ht' j hj hj)
                unfold vf20b0
                subst hBX
                simp [h1, h3, h4, h5, h6, hw.lenOf]
                generalize hBX : (L ++ [(⟨[w, u, .i bs[i].term.kind, .i bs[i].term.a, .i bs[i].term.to, .i bs[i].term.els], 0, true, 6⟩ : Ob)]) = L1
                refine wp_for CM_mono bs[i].list.length (fun j s => (∀ l (hl : l < j) (hx : l < bs[i].list.length), insB bs[i].list[l] m = true) ∧ s.h = H ++ (⟨[v, .i m], 0, true, 2⟩ :: L1) ∧ Env.get s.e 1 = .c (.p H.length 0 0) ∧ Env.get s.e 3 = .c (.i bs.length) ∧ Env.get s.e 4 = .c (.i i) ∧
                  Env.get s.e 5 = .c (.p (H.length + (L.length + 1)) 0 0) ∧ Env.get s.e 7 = .c (.i j)) ⟨by simp, by simp, by simp [h1, h3, h4, h5]⟩ ?_ ?_
                · rintro j ⟨e', X'⟩ hj ⟨ht', rfl, h1, h3, h4, h5, h7⟩
                  simp only at h1 h3 h4 h5 h7 ⊢
                  obtain ⟨id', g', off', r1, r2, r3, r4, r5⟩ := hu.get hj
                  unfold vf20b1
                  subst hBX
                  cases f4 : insB bs[i].list[j] m with
                  | false =>
                    simp [h1, h3, h4, h5, h7, hu.lenOf, hj, r1, r3, specIns', f4]
                    exact not_all hi (by simp only [blkB, all_not (p := fun x => insB x m) hj f4]; simp)
                  | true =>
                    simp [h1, h3, h4, h5, h7, hu.lenOf, hj, r1, r3, specIns', f4, up1 hj hb2]
                    intro l hl hx
                    by_cases el : l = j
                    · subst el; exact f4
                    · exact ht' l (by omega) hx
                · rintro ⟨e', X'⟩ ⟨ht', rfl, h1, h3, h4, h5, h7⟩
                  simp only at h1 h3 h4 h5 h7 ⊢
                  have hin := all_of (p := fun x => insB x m) (fun j hj => ht' j hj hj)
                  unfold vf20b1
                  subst hBX
                  have hAt : blkB bs.length m bs[i] = true := by simp only [blkB, f1, f2, f3, hph, hin]; simp
                  simp [h1, h3, h4, h5, h7, hu.lenOf, up1 hi hb]
                  refine ⟨fun l hl hx => ?_, ⟨_, by simp; rfl⟩⟩
                  by_cases el : l = i
                  · subst el; exact hAt
                  · exact ht l (by omega) hx
          · have f2' : (24 : Int) < bs[i].list.length := by omega
            simp [h1, h3, h4, hi, q1, q3, putAt, hw.lenOf, hu.lenOf, f1', f2']
            exact not_all hi (by simp [blkB, f2])
        · have f1' : (24 : Int) < bs[i].phis.length := by omega
          simp [h1, h3, h4, hi, q1, q3, putAt, hw.lenOf, hu.lenOf, f1']
          exact not_all hi (by simp [blkB, f1])
      · rintro ⟨e, X⟩ ⟨ht, ⟨L, hX⟩, h1, h3, h4⟩
        simp only at h1 h3 h4 hX ⊢
        simp only [List.append_assoc, List.cons_append, List.nil_append] at hX
        subst hX
        unfold vf20b2
        simp [h1, h3, h4]
        exact all_mem (fun j hj => ht j hj hj)
end Go.Proofs.YtgdfgnppeekfjaaGreat.Vm
end
section
/- The shape of a program, as the program itself says it. No conditions. -/
namespace Go.Proofs.YtgdfgnppeekfjaaGreat.Vm
open Go.RowKit (wrap64)
set_option linter.unusedSimpArgs false
set_option linter.unusedVariables false
theorem rdC_app {H : Hp} {id g off : Nat} {c : CV} (h : rdC H id g off = some c) (L : Hp) : rdC (H ++ L) id g off = some c := by
  unfold rdC at h ⊢
  cases ho : rdOb H id g with
  | none => rw [ho] at h; cases h
  | some o => rw [ho] at h; rw [rdOb_app L ho]; exact h
theorem shape11 {H : Hp} {idn gn idf gf : Nat} {n m d : Int} {w : CV} {arms : List ArmR} (hn : rdC H idn gn 0 = some (.i n)) (hf : rdC H idf gf 1 = some (.i m)) (hw : Arms H w arms) (hb : arms.length ≤ BIG) (hr : -9223372036854775807 ≤ n ∧ n ≤ 9223372036854775807) (k : IV × Hp → Prop) :
    CM 71 [.agg [.i d, w], .c (.p idn gn 0), .c (.p idf gf 0)] H k = k (.c (.b (!phiB n m ⟨d, arms⟩)), H) := by
  refine det (cw71 ?_) k
  unfold vf71c
  simp [rdC_app hn, rdC_app hf, implPhi (hw.app _) hb n m hr]
theorem shape12 {H : Hp} {idf gf : Nat} {m : Int} (x : InsR) (hf : rdC H idf gf 1 = some (.i m)) (k : IV × Hp → Prop) :
    CM 74 [.agg [.i x.op, .i x.d, .i x.a, .i x.b, .i x.n], .c (.p idf gf 0)] H k = k (.c (.b (!insB x m)), H) := by
  refine det (cw74 ?_) k
  unfold vf74c
  simp [rdC_app hf, implIns']
theorem shape1 {H : Hp} {idn gn idf gf : Nat} {n m : Int} {w u : CV} {b : BlkR} (hn : rdC H idn gn 0 = some (.i n)) (hf : rdC H idf gf 1 = some (.i m)) (hw : Phis H w b.phis) (hu : List5 H u b.list) (hb1 : b.phis.length ≤ BIG) (hb2 : b.list.length ≤ BIG)
    (hr : -9223372036854775807 ≤ n ∧ n ≤ 9223372036854775807) (k : IV × Hp → Prop) :
    CM 68 [.agg [w, u, .i b.term.kind, .i b.term.a, .i b.term.to, .i b.term.els], .c (.p idn gn 0), .c (.p idf gf 0)] H k = k (.c (.b (!blkB n m b)), H) := by
  refine det (cw68 ?_) k
  unfold vf68c blkB
  by_cases f1 : b.phis.length ≤ 24
  · have f1' : ¬ (24 : Int) < b.phis.length := by omega
    by_cases f2 : b.list.length ≤ 24
    · have f2' : ¬ (24 : Int) < b.list.length := by omega
      cases f3 : termB b.term n m with
      | false => simp [hw.lenOf, hu.lenOf, f1, f1', f2, f2', rdC_app hn, rdC_app hf, implTerm' _ _ _ _ hr, f3]
      | true =>
        simp [hw.lenOf, hu.lenOf, f1, f1', f2, f2', rdC_app hn, rdC_app hf, implTerm' _ _ _ _ hr, f3]
        rw [containsPhi (hw.app _) hb1 (fun p => !phiB n m p) (fun i hi cs hP k => by
          obtain ⟨z, rfl, hz, hbz⟩ := hP
          exact shape11 (rdC_app hn _) (rdC_app hf _) hz hbz hr k)]
        cases f4 : b.phis.any (fun p => !phiB n m p) with
        | true =>
          simp
          have : b.phis.all (phiB n m) = false := by
            obtain ⟨x, hx, hq⟩ := List.any_eq_true.1 f4
            rw [List.all_eq_false]
            exact ⟨x, hx, by simpa using hq⟩
          left
          simpa using this
        | false =>
          have h4 : ∀ x ∈ b.phis, phiB n m x = true := by
            intro x hx
            have := List.any_eq_false.1 f4 x hx
            simpa using this
          simp [rdC_app hf]
          rw [containsIns (hu.app _) hb2 (fun x => !insB x m) (fun i hi cs hP k => by
            have hP : cs = insC _ := hP
            subst hP
            exact shape12 _ (rdC_app hf _) k)]
          simp
          cases f5 : b.list.any (fun x => !insB x m) with
          | true =>
            have : b.list.all (fun x => insB x m) = false := by
              obtain ⟨x, hx, hq⟩ := List.any_eq_true.1 f5
              rw [List.all_eq_false]
              exact ⟨x, hx, by simpa using hq⟩
            rw [this]; simp
          | false =>
            have h5 : b.list.all (fun x => insB x m) = true := by
              rw [List.all_eq_true]
              intro x hx
              have := List.any_eq_false.1 f5 x hx
              simpa using this
            have h6 : b.phis.all (phiB n m) = true := List.all_eq_true.2 h4
            rw [h5, h6]; simp
    · have f2' : (24 : Int) < b.list.length := by omega
      simp [hw.lenOf, hu.lenOf, f1, f1', f2, f2']
  · have f1' : (24 : Int) < b.phis.length := by omega
    simp [hw.lenOf, hu.lenOf, f1, f1']
theorem implShape {H : Hp} {v : CV} {f : FnR} (hv : Blocks H v f.blocks) (hb : f.blocks.length ≤ BIG) (k : IV × Hp → Prop) :
    CM 19 [.agg [v, .i f.values]] H k = k (.c (.b (shapeB f)), H) := by
  refine det (cw19 ?_) k
  obtain ⟨bs, m⟩ := f
  simp only at hv hb ⊢
  unfold vf19c shapeB
  simp only
  cases e1 : inB bs.length 1 16 with
  | false => simp [hv.lenOf, (hv.app _).lenOf, implIn, e1, putAt]
  | true =>
    cases e2 : inB m 0 80 with
    | false => simp [hv.lenOf, (hv.app _).lenOf, implIn, e1, e2, putAt]
    | true =>
      simp [hv.lenOf, (hv.app _).lenOf, implIn, e1, e2, putAt]
      rw [containsBlk (hv.app _) hb (fun b => !blkB bs.length m b) (fun i hi cs hP k => by
        obtain ⟨w, u, rfl, hw, hu, hb1, hb2⟩ := hP
        exact shape1 (by simp) (by simp) hw hu hb1 hb2 (bigI hb) k)]
      simp
      rw [Bool.eq_iff_iff]
      simp
end Go.Proofs.YtgdfgnppeekfjaaGreat.Vm
end
section
/- Programs held against each other, counted. No conditions. -/
namespace Go.Proofs.YtgdfgnppeekfjaaGreat.Vm
open Go.RowKit (wrap64)
set_option linter.unusedSimpArgs false
set_option linter.unusedVariables false
theorem take_snoc_eq {α : Type} {xs ys : List α} {i : Nat} (hi : i < xs.length) (hj : i < ys.length) (ht : xs.take i = ys.take i) (he : xs[i] = ys[i]) : xs.take (i + 1) = ys.take (i + 1) := by
  rw [List.take_succ_eq_append_getElem hi, List.take_succ_eq_append_getElem hj, ht, he]
theorem At.all {H : Hp} {id g off : Nat} {cs : List CV} (h : At H id g off cs) {n : Nat} (hn : cs.length = n) : rdN H id g off n = some cs := by
  have := h.n 0 n (by omega)
  rwa [Nat.add_zero, List.drop_zero, List.take_of_length_le (by omega)] at this
theorem eqArm_call (H : Hp) {cs cs' : List CV} {a b : ArmR} (ha : armP H cs a) (hb : armP H cs' b) (k : IV × Hp → Prop) : CM 260 [.agg cs, .agg cs'] H k = k (.c (.b (decide (a = b))), H) := by
  cases ha; cases hb
  refine det (cw260 ?_) k
  unfold vf260c
  obtain ⟨a1, a2⟩ := a
  obtain ⟨b1, b2⟩ := b
  by_cases h1 : a1 = b1 <;> by_cases h2 : a2 = b2 <;> simp [armC, h1, h2]
theorem eqIns_call (H : Hp) {cs cs' : List CV} {a b : InsR} (ha : insP H cs a) (hb : insP H cs' b) (k : IV × Hp → Prop) : CM 248 [.agg cs, .agg cs'] H k = k (.c (.b (decide (a = b))), H) := by
  cases ha; cases hb
  refine det (cw248 ?_) k
  unfold vf248c
  obtain ⟨a1, a2, a3, a4, a5⟩ := a
  obtain ⟨b1, b2, b3, b4, b5⟩ := b
  by_cases h1 : a1 = b1
  · by_cases h2 : a2 = b2
    · by_cases h3 : a3 = b3
      · by_cases h4 : a4 = b4
        · by_cases h5 : a5 = b5 <;> simp [insC, h1, h2, h3, h4, h5]
        · simp [insC, h1, h2, h3, h4]
      · simp [insC, h1, h2, h3]
    · simp [insC, h1, h2]
  · simp [insC, h1]
theorem eqTerm_call (H : Hp) (a b : TrmR) (k : IV × Hp → Prop) : CM 215 [.agg [.i a.kind, .i a.a, .i a.to, .i a.els], .agg [.i b.kind, .i b.a, .i b.to, .i b.els]] H k = k (.c (.b (decide (a = b))), H) := by
  refine det (cw215 ?_) k
  unfold vf215c
  obtain ⟨a1, a2, a3, a4⟩ := a
  obtain ⟨b1, b2, b3, b4⟩ := b
  by_cases h1 : a1 = b1
  · by_cases h2 : a2 = b2
    · by_cases h3 : a3 = b3
      · by_cases h4 : a4 = b4 <;> simp [h1, h2, h3, h4]
      · simp [h1, h2, h3]
    · simp [h1, h2]
  · simp [h1]
theorem eqArmS_call {H : Hp} {v w : CV} {xs ys : List ArmR} (hv : Row armP 2 H v xs) (hw : Row armP 2 H w ys) (hb : xs.length ≤ BIG) (k : IV × Hp → Prop) : CM 257 [.c v, .c w] H k = k (.c (.b (decide (xs = ys))), H) := by
  refine det (cw257 ?_) k
  unfold vf257c
  simp [hv.lenOf, hw.lenOf]
  refine cnd_of (fun hl => ?_) (fun hl => ?_) <;> simp at hl
  · have he : ¬ xs = ys := fun h => hl (by rw [h])
    simp [he]
  · simp
    refine wp_for CM_mono xs.length (fun i s => xs.take i = ys.take i ∧ s.h = H ∧ Env.get s.e 0 = .c v ∧ Env.get s.e 1 = .c w ∧ Env.get s.e 5 = .c (.i i)) (by simp) ?_ ?_
    · rintro i ⟨e, X⟩ hi ⟨ht, rfl, h0, h1, h5⟩
      simp only at h0 h1 h5 hv hw ⊢
      obtain ⟨id, g, off, cs, p1, p2, p3, p4⟩ := Row.get hv hi
      obtain ⟨id', g', off', cs', q1, q2, q3, q4⟩ := Row.get hw (k := i) (by omega)
      unfold vf257b0
      by_cases he : xs[i] = ys[i]
      · simp [h0, h1, h5, hv.lenOf, p1, p2.all p3, q1, q2.all q3, hi, up1 hi hb, eqArm_call X p4 q4, he]
        exact take_snoc_eq hi (by omega) ht he
      · simp [h0, h1, h5, hv.lenOf, p1, p2.all p3, q1, q2.all q3, hi, up1 hi hb, eqArm_call X p4 q4, he]
        rintro rfl; exact he rfl
    · rintro ⟨e, X⟩ ⟨ht, rfl, h0, h1, h5⟩
      simp only at h0 h1 h5 hv hw ⊢
      unfold vf257b0
      simp [h0, h1, h5, hv.lenOf]
      rw [List.take_length, hl, List.take_length] at ht
      exact ht
theorem eqInsS_call {H : Hp} {v w : CV} {xs ys : List InsR} (hv : Row insP 5 H v xs) (hw : Row insP 5 H w ys) (hb : xs.length ≤ BIG) (k : IV × Hp → Prop) : CM 214 [.c v, .c w] H k = k (.c (.b (decide (xs = ys))), H) := by
  refine det (cw214 ?_) k
  unfold vf214c
  simp [hv.lenOf, hw.lenOf]
  refine cnd_of (fun hl => ?_) (fun hl => ?_) <;> simp at hl
  · have he : ¬ xs = ys := fun h => hl (by rw [h])
    simp [he]
  · simp
    refine wp_for CM_mono xs.length (fun i s => xs.take i = ys.take i ∧ s.h = H ∧ Env.get s.e 0 = .c v ∧ Env.get s.e 1 = .c w ∧ Env.get s.e 5 = .c (.i i)) (by simp) ?_ ?_
    · rintro i ⟨e, X⟩ hi ⟨ht, rfl, h0, h1, h5⟩
      simp only at h0 h1 h5 hv hw ⊢
      obtain ⟨id, g, off, cs, p1, p2, p3, p4⟩ := Row.get hv hi
      obtain ⟨id', g', off', cs', q1, q2, q3, q4⟩ := Row.get hw (k := i) (by omega)
      unfold vf214b0
      by_cases he : xs[i] = ys[i]
      · simp [h0, h1, h5, hv.lenOf, p1, p2.all p3, q1, q2.all q3, hi, up1 hi hb, eqIns_call X p4 q4, he]
        exact take_snoc_eq hi (by omega) ht he
      · simp [h0, h1, h5, hv.lenOf, p1, p2.all p3, q1, q2.all q3, hi, up1 hi hb, eqIns_call X p4 q4, he]
        rintro rfl; exact he rfl
    · rintro ⟨e, X⟩ ⟨ht, rfl, h0, h1, h5⟩
      simp only at h0 h1 h5 hv hw ⊢
      unfold vf214b0
      simp [h0, h1, h5, hv.lenOf]
      rw [List.take_length, hl, List.take_length] at ht
      exact ht
theorem eqPhi_call (H : Hp) {cs cs' : List CV} {a b : PhiR} (ha : phiP BIG H cs a) (hb : phiP BIG H cs' b) (k : IV × Hp → Prop) : CM 247 [.agg cs, .agg cs'] H k = k (.c (.b (decide (a = b))), H) := by
  obtain ⟨d, arms⟩ := a
  obtain ⟨d', arms'⟩ := b
  obtain ⟨z, rfl, hz, hbz⟩ := ha
  obtain ⟨z', rfl, hz', hbz'⟩ := hb
  simp only at hz hz' hbz hbz' ⊢
  refine det (cw247 ?_) k
  unfold vf247c
  by_cases h1 : d = d'
  · by_cases h2 : arms = arms'
    · simp [h1, eqArmS_call (Arms.app hz _) (Arms.app hz' _) hbz, h2]
    · simp [h1, eqArmS_call (Arms.app hz _) (Arms.app hz' _) hbz, h2]
  · simp [h1]
theorem eqPhiS_call {H : Hp} {v w : CV} {xs ys : List PhiR} (hv : Row (phiP BIG) 2 H v xs) (hw : Row (phiP BIG) 2 H w ys) (hb : xs.length ≤ BIG) (k : IV × Hp → Prop) : CM 213 [.c v, .c w] H k = k (.c (.b (decide (xs = ys))), H) := by
  refine det (cw213 ?_) k
  unfold vf213c
  simp [hv.lenOf, hw.lenOf]
  refine cnd_of (fun hl => ?_) (fun hl => ?_) <;> simp at hl
  · have he : ¬ xs = ys := fun h => hl (by rw [h])
    simp [he]
  · simp
    refine wp_for CM_mono xs.length (fun i s => xs.take i = ys.take i ∧ s.h = H ∧ Env.get s.e 0 = .c v ∧ Env.get s.e 1 = .c w ∧ Env.get s.e 5 = .c (.i i)) (by simp) ?_ ?_
    · rintro i ⟨e, X⟩ hi ⟨ht, rfl, h0, h1, h5⟩
      simp only at h0 h1 h5 hv hw ⊢
      obtain ⟨id, g, off, cs, p1, p2, p3, p4⟩ := Row.get hv hi
      obtain ⟨id', g', off', cs', q1, q2, q3, q4⟩ := Row.get hw (k := i) (by omega)
      unfold vf213b0
      by_cases he : xs[i] = ys[i]
      · simp [h0, h1, h5, hv.lenOf, p1, p2.all p3, q1, q2.all q3, hi, up1 hi hb, eqPhi_call X p4 q4, he]
        exact take_snoc_eq hi (by omega) ht he
      · simp [h0, h1, h5, hv.lenOf, p1, p2.all p3, q1, q2.all q3, hi, up1 hi hb, eqPhi_call X p4 q4, he]
        rintro rfl; exact he rfl
    · rintro ⟨e, X⟩ ⟨ht, rfl, h0, h1, h5⟩
      simp only at h0 h1 h5 hv hw ⊢
      unfold vf213b0
      simp [h0, h1, h5, hv.lenOf]
      rw [List.take_length, hl, List.take_length] at ht
      exact ht
theorem eqBlk_call (H : Hp) {cs cs' : List CV} {a b : BlkR} (ha : blkP BIG H cs a) (hb : blkP BIG H cs' b) (k : IV × Hp → Prop) : CM 165 [.agg cs, .agg cs'] H k = k (.c (.b (decide (a = b))), H) := by
  obtain ⟨ps, ls, t⟩ := a
  obtain ⟨ps', ls', t'⟩ := b
  obtain ⟨z, u, rfl, hz, hu, hb1, hb2⟩ := ha
  obtain ⟨z', u', rfl, hz', hu', hb1', hb2'⟩ := hb
  simp only at hz hu hz' hu' hb1 hb2 ⊢
  refine det (cw165 ?_) k
  unfold vf165c
  by_cases h1 : ps = ps'
  · by_cases h2 : ls = ls'
    · by_cases h3 : t = t' <;> simp [trmC, h1, eqPhiS_call (Phis.app hz _) (Phis.app hz' _) hb1, eqInsS_call (List5.app hu _) (List5.app hu' _) hb2, eqTerm_call, h2, h3]
    · simp [trmC, h1, eqPhiS_call (Phis.app hz _) (Phis.app hz' _) hb1, eqInsS_call (List5.app hu _) (List5.app hu' _) hb2, h2]
  · simp [trmC, h1, eqPhiS_call (Phis.app hz _) (Phis.app hz' _) hb1]
theorem eqBlkS_call {H : Hp} {v w : CV} {xs ys : List BlkR} (hv : Row (blkP BIG) 6 H v xs) (hw : Row (blkP BIG) 6 H w ys) (hb : xs.length ≤ BIG) (k : IV × Hp → Prop) : CM 106 [.c v, .c w] H k = k (.c (.b (decide (xs = ys))), H) := by
  refine det (cw106 ?_) k
  unfold vf106c
  simp [hv.lenOf, hw.lenOf]
  refine cnd_of (fun hl => ?_) (fun hl => ?_) <;> simp at hl
  · have he : ¬ xs = ys := fun h => hl (by rw [h])
    simp [he]
  · simp
    refine wp_for CM_mono xs.length (fun i s => xs.take i = ys.take i ∧ s.h = H ∧ Env.get s.e 0 = .c v ∧ Env.get s.e 1 = .c w ∧ Env.get s.e 5 = .c (.i i)) (by simp) ?_ ?_
    · rintro i ⟨e, X⟩ hi ⟨ht, rfl, h0, h1, h5⟩
      simp only at h0 h1 h5 hv hw ⊢
      obtain ⟨id, g, off, cs, p1, p2, p3, p4⟩ := Row.get hv hi
      obtain ⟨id', g', off', cs', q1, q2, q3, q4⟩ := Row.get hw (k := i) (by omega)
      unfold vf106b0
      by_cases he : xs[i] = ys[i]
      · simp [h0, h1, h5, hv.lenOf, p1, p2.all p3, q1, q2.all q3, hi, up1 hi hb, eqBlk_call X p4 q4, he]
        exact take_snoc_eq hi (by omega) ht he
      · simp [h0, h1, h5, hv.lenOf, p1, p2.all p3, q1, q2.all q3, hi, up1 hi hb, eqBlk_call X p4 q4, he]
        rintro rfl; exact he rfl
    · rintro ⟨e, X⟩ ⟨ht, rfl, h0, h1, h5⟩
      simp only at h0 h1 h5 hv hw ⊢
      unfold vf106b0
      simp [h0, h1, h5, hv.lenOf]
      rw [List.take_length, hl, List.take_length] at ht
      exact ht
theorem eqFn_call (H : Hp) {cs cs' : List CV} {a b : FnR} (ha : fnP BIG H cs a) (hb : fnP BIG H cs' b) (k : IV × Hp → Prop) : CM 37 [.agg cs, .agg cs'] H k = k (.c (.b (decide (a = b))), H) := by
  obtain ⟨bs, m⟩ := a
  obtain ⟨bs', m'⟩ := b
  obtain ⟨z, rfl, hz, hbz⟩ := ha
  obtain ⟨z', rfl, hz', hbz'⟩ := hb
  simp only at hz hz' hbz ⊢
  refine det (cw37 ?_) k
  unfold vf37c
  by_cases h1 : bs = bs'
  · by_cases h2 : m = m' <;> simp [h1, eqBlkS_call (Blocks.app hz _) (Blocks.app hz' _) hbz, h2]
  · simp [h1, eqBlkS_call (Blocks.app hz _) (Blocks.app hz' _) hbz]
/-! ### How great a program is -/
def szL (n : Nat) (l : Int) : Int := if l - n < 0 then -1 else l - n
def szPhisFrom : List PhiR → Int → Int
  | [], l => l
  | p :: r, l => if szL p.arms.length l < 0 then -1 else szPhisFrom r (szL p.arms.length l)
def szPhis (ps : List PhiR) (l : Int) : Int := if l - ps.length < 0 then -1 else szPhisFrom ps (l - ps.length)
def szBlk (b : BlkR) (l : Int) : Int := if szPhis b.phis l < 0 then -1 else szL b.list.length (szPhis b.phis l)
def szBlksFrom : List BlkR → Int → Int
  | [], l => l
  | b :: r, l => if szBlk b l < 0 then -1 else szBlksFrom r (szBlk b l)
def szFnF (f : FnR) (l : Int) : Int := if l - f.blocks.length < 0 then -1 else szBlksFrom f.blocks (l - f.blocks.length)
theorem szL_le {n : Nat} {l : Int} (h0 : 0 ≤ l) : -1 ≤ szL n l ∧ szL n l ≤ l ∧ (0 ≤ szL n l → n ≤ l.toNat) := by
  unfold szL; split <;> omega
theorem szPhisFrom_le : ∀ {ps : List PhiR} {l : Int}, 0 ≤ l → -1 ≤ szPhisFrom ps l ∧ szPhisFrom ps l ≤ l ∧ (0 ≤ szPhisFrom ps l → ∀ p ∈ ps, p.arms.length ≤ l.toNat) := by
  intro ps
  induction ps with
  | nil => intro l h; exact ⟨by simp only [szPhisFrom]; omega, by simp [szPhisFrom], fun _ p hp => by cases hp⟩
  | cons p r ih =>
    intro l h
    obtain ⟨a1, a2, a3⟩ := szL_le (n := p.arms.length) h
    simp only [szPhisFrom]
    split
    · exact ⟨by omega, by omega, fun h => by omega⟩
    · rename_i hn
      obtain ⟨b1, b2, b3⟩ := ih (l := szL p.arms.length l) (by omega)
      refine ⟨b1, by omega, fun h q hq => ?_⟩
      rcases List.mem_cons.1 hq with rfl | hq
      · exact a3 (by omega)
      · have := b3 h q hq; omega
theorem szPhis_le {ps : List PhiR} {l : Int} (h : 0 ≤ l) : -1 ≤ szPhis ps l ∧ szPhis ps l ≤ l ∧ (0 ≤ szPhis ps l → ps.length ≤ l.toNat ∧ ∀ p ∈ ps, p.arms.length ≤ l.toNat) := by
  unfold szPhis
  split
  · exact ⟨by omega, by omega, fun h => by omega⟩
  · obtain ⟨b1, b2, b3⟩ := szPhisFrom_le (ps := ps) (l := l - ps.length) (by omega)
    exact ⟨b1, by omega, fun h => ⟨by omega, fun p hp => by have := b3 h p hp; omega⟩⟩
theorem szBlk_le {b : BlkR} {l : Int} (h : 0 ≤ l) : -1 ≤ szBlk b l ∧ szBlk b l ≤ l ∧ (0 ≤ szBlk b l → b.phis.length ≤ l.toNat ∧ b.list.length ≤ l.toNat ∧ ∀ p ∈ b.phis, p.arms.length ≤ l.toNat) := by
  unfold szBlk
  obtain ⟨b1, b2, b3⟩ := szPhis_le (ps := b.phis) h
  split
  · exact ⟨by omega, by omega, fun h => by omega⟩
  · obtain ⟨c1, c2, c3⟩ := szL_le (n := b.list.length) (l := szPhis b.phis l) (by omega)
    refine ⟨c1, by omega, fun h => ?_⟩
    have := b3 (by omega)
    exact ⟨this.1, by have := c3 h; omega, this.2⟩
theorem szBlksFrom_le : ∀ {bs : List BlkR} {l : Int}, 0 ≤ l → -1 ≤ szBlksFrom bs l ∧ szBlksFrom bs l ≤ l ∧ (0 ≤ szBlksFrom bs l → ∀ b ∈ bs, b.phis.length ≤ l.toNat ∧ b.list.length ≤ l.toNat ∧ ∀ p ∈ b.phis, p.arms.length ≤ l.toNat) := by
  intro bs
  induction bs with
  | nil => intro l h; exact ⟨by simp only [szBlksFrom]; omega, by simp [szBlksFrom], fun _ p hp => by cases hp⟩
  | cons p r ih =>
    intro l h
    obtain ⟨a1, a2, a3⟩ := szBlk_le (b := p) h
    simp only [szBlksFrom]
    split
    · exact ⟨by omega, by omega, fun h => by omega⟩
    · rename_i hn
      obtain ⟨b1, b2, b3⟩ := ih (l := szBlk p l) (by omega)
      refine ⟨b1, by omega, fun h q hq => ?_⟩
      rcases List.mem_cons.1 hq with rfl | hq
      · exact a3 (by omega)
      · obtain ⟨c1, c2, c3⟩ := b3 h q hq
        exact ⟨by omega, by omega, fun x hx => by have := c3 x hx; omega⟩
theorem szFnF_le {f : FnR} {l : Int} (h : 0 ≤ l) : -1 ≤ szFnF f l ∧ szFnF f l ≤ l ∧ (0 ≤ szFnF f l → f.blocks.length ≤ l.toNat ∧ ∀ b ∈ f.blocks, b.phis.length ≤ l.toNat ∧ b.list.length ≤ l.toNat ∧ ∀ p ∈ b.phis, p.arms.length ≤ l.toNat) := by
  unfold szFnF
  split
  · exact ⟨by omega, by omega, fun h => by omega⟩
  · obtain ⟨b1, b2, b3⟩ := szBlksFrom_le (bs := f.blocks) (l := l - f.blocks.length) (by omega)
    refine ⟨b1, by omega, fun h => ⟨by omega, fun b hb => ?_⟩⟩
    obtain ⟨c1, c2, c3⟩ := b3 h b hb
    exact ⟨by omega, by omega, fun x hx => by have := c3 x hx; omega⟩
theorem wsub {l : Int} {n : Nat} (h0 : 0 ≤ l) (h1 : l ≤ 1048576) (hn : n ≤ maxLen) : wrap64 (l - n) = l - n := wrap64_id (by simp only [maxLen] at hn; omega)
theorem upM {i n : Nat} (hi : i < n) (hn : n ≤ maxLen) : wrap64 ((i : Int) + 1) = (i : Int) + 1 := wrap64_id (by simp only [maxLen] at hn; omega)
theorem szArmS_call {H : Hp} {v : CV} {xs : List ArmR} (hv : Row armP 2 H v xs) (hb : xs.length ≤ maxLen) {l : Int} (h0 : 0 ≤ l) (h1 : l ≤ 1048576) (k : IV × Hp → Prop) : CM 255 [.c v, .c (.i l)] H k = k (.c (.i (szL xs.length l)), H) := by
  refine det (cw255 ?_) k
  unfold vf255c szL
  by_cases h : l - (xs.length : Int) < 0
  · simp [hv.lenOf, wsub h0 h1 hb, h]
  · simp [hv.lenOf, wsub h0 h1 hb, h]
theorem szInsS_call {H : Hp} {v : CV} {xs : List InsR} (hv : Row insP 5 H v xs) (hb : xs.length ≤ maxLen) {l : Int} (h0 : 0 ≤ l) (h1 : l ≤ 1048576) (k : IV × Hp → Prop) : CM 209 [.c v, .c (.i l)] H k = k (.c (.i (szL xs.length l)), H) := by
  refine det (cw209 ?_) k
  unfold vf209c szL
  by_cases h : l - (xs.length : Int) < 0
  · simp [hv.lenOf, wsub h0 h1 hb, h]
  · simp [hv.lenOf, wsub h0 h1 hb, h]
theorem szPhi_call {H : Hp} {cs : List CV} {p : PhiR} (hp : phiP maxLen H cs p) {l : Int} (h0 : 0 ≤ l) (h1 : l ≤ 1048576) (k : IV × Hp → Prop) : CM 244 [.agg cs, .c (.i l)] H k = k (.c (.i (szL p.arms.length l)), H) := by
  obtain ⟨z, rfl, hz, hbz⟩ := hp
  refine det (cw244 ?_) k
  unfold vf244c
  by_cases h : szL p.arms.length l < 0
  · have h3 : szL p.arms.length l = -1 := by have := (szL_le (n := p.arms.length) h0).1; omega
    simp [szArmS_call (Arms.app hz _) hbz h0 h1, h3]
  · simp [szArmS_call (Arms.app hz _) hbz h0 h1, h]
theorem szPhiS_call {H : Hp} {v : CV} {xs : List PhiR} (hv : Row (phiP maxLen) 2 H v xs) (hb : xs.length ≤ maxLen) {l : Int} (h0 : 0 ≤ l) (h1 : l ≤ 1048576) (k : IV × Hp → Prop) : CM 208 [.c v, .c (.i l)] H k = k (.c (.i (szPhis xs l)), H) := by
  refine det (cw208 ?_) k
  unfold vf208c szPhis
  by_cases h : l - (xs.length : Int) < 0
  · simp [hv.lenOf, wsub h0 h1 hb, h]
  · simp [hv.lenOf, wsub h0 h1 hb, h]
    refine wp_for CM_mono xs.length (fun i s => ∃ m : Int, 0 ≤ m ∧ m ≤ 1048576 ∧ szPhisFrom xs (l - xs.length) = szPhisFrom (xs.drop i) m ∧ s.h = H ∧ Env.get s.e 0 = .c v ∧ Env.get s.e 1 = .c (.i m) ∧ Env.get s.e 5 = .c (.i i)) ⟨l - xs.length, by omega, by omega, by simp⟩ ?_ ?_
    · rintro i ⟨e, X⟩ hi ⟨m, m0, m1, ht, rfl, g0, g1, g5⟩
      simp only at g0 g1 g5 hv ⊢
      obtain ⟨id, g, off, cs, p1, p2, p3, p4⟩ := Row.get hv hi
      rw [List.drop_eq_getElem_cons hi] at ht
      simp only [szPhisFrom] at ht
      unfold vf208b0
      by_cases hn : szL xs[i].arms.length m < 0
      · rw [if_pos hn] at ht
        have h3 : szL xs[i].arms.length m = -1 := by have := (szL_le (n := xs[i].arms.length) m0).1; omega
        simp [g0, g1, g5, hv.lenOf, p1, p2.all p3, hi, szPhi_call p4 m0 m1, h3, ht]
      · rw [if_neg hn] at ht
        simp [g0, g1, g5, hv.lenOf, p1, p2.all p3, hi, szPhi_call p4 m0 m1, hn, upM hi hb, ht]
        have := (szL_le (n := xs[i].arms.length) m0).2.1
        refine ⟨szL xs[i].arms.length m, by omega, by omega, ?_⟩
        simp
    · rintro ⟨e, X⟩ ⟨m, m0, m1, ht, rfl, g0, g1, g5⟩
      simp only at g0 g1 g5 hv ⊢
      rw [List.drop_length] at ht
      unfold vf208b0
      simp [g0, g1, g5, hv.lenOf, ht, szPhisFrom]
theorem szBlk_call {H : Hp} {cs : List CV} {b : BlkR} (hp : blkP maxLen H cs b) {l : Int} (h0 : 0 ≤ l) (h1 : l ≤ 1048576) (k : IV × Hp → Prop) : CM 163 [.agg cs, .c (.i l)] H k = k (.c (.i (szBlk b l)), H) := by
  obtain ⟨z, u, rfl, hz, hu, hb1, hb2⟩ := hp
  refine det (cw163 ?_) k
  unfold vf163c szBlk
  have a0 := szPhis_le (ps := b.phis) h0
  by_cases h : szPhis b.phis l < 0
  · simp [trmC, szPhiS_call (Row.pre (fun _ _ => phiP.pre ⟨_, rfl⟩) ⟨_, rfl⟩ hz) hb1 h0 h1, h]
  · have a1 := szL_le (n := b.list.length) (l := szPhis b.phis l) (by omega)
    by_cases h2 : szL b.list.length (szPhis b.phis l) < 0
    · have h3 : szL b.list.length (szPhis b.phis l) = -1 := by omega
      simp [trmC, szPhiS_call (Row.pre (fun _ _ => phiP.pre ⟨_, rfl⟩) ⟨_, rfl⟩ hz) hb1 h0 h1, h, szInsS_call (List5.app hu _) hb2 (l := szPhis b.phis l) (by omega) (by omega), h3]
    · simp [trmC, szPhiS_call (Row.pre (fun _ _ => phiP.pre ⟨_, rfl⟩) ⟨_, rfl⟩ hz) hb1 h0 h1, h, szInsS_call (List5.app hu _) hb2 (l := szPhis b.phis l) (by omega) (by omega), h2]
theorem szBlkS_call {H : Hp} {v : CV} {xs : List BlkR} (hv : Row (blkP maxLen) 6 H v xs) (hb : xs.length ≤ maxLen) {l : Int} (h0 : 0 ≤ l) (h1 : l ≤ 1048576) (k : IV × Hp → Prop) : CM 104 [.c v, .c (.i l)] H k = k (.c (.i (szFnF ⟨xs, 0⟩ l)), H) := by
  refine det (cw104 ?_) k
  unfold vf104c szFnF
  by_cases h : l - (xs.length : Int) < 0
  · simp [hv.lenOf, wsub h0 h1 hb, h]
  · simp [hv.lenOf, wsub h0 h1 hb, h]
    refine wp_for CM_mono xs.length (fun i s => ∃ m : Int, 0 ≤ m ∧ m ≤ 1048576 ∧ szBlksFrom xs (l - xs.length) = szBlksFrom (xs.drop i) m ∧ s.h = H ∧ Env.get s.e 0 = .c v ∧ Env.get s.e 1 = .c (.i m) ∧ Env.get s.e 5 = .c (.i i)) ⟨l - xs.length, by omega, by omega, by simp⟩ ?_ ?_
    · rintro i ⟨e, X⟩ hi ⟨m, m0, m1, ht, rfl, g0, g1, g5⟩
      simp only at g0 g1 g5 hv ⊢
      obtain ⟨id, g, off, cs, p1, p2, p3, p4⟩ := Row.get hv hi
      rw [List.drop_eq_getElem_cons hi] at ht
      simp only [szBlksFrom] at ht
      unfold vf104b0
      by_cases hn : szBlk xs[i] m < 0
      · rw [if_pos hn] at ht
        have h3 : szBlk xs[i] m = -1 := by have := (szBlk_le (b := xs[i]) m0).1; omega
        simp [g0, g1, g5, hv.lenOf, p1, p2.all p3, hi, szBlk_call p4 m0 m1, h3, ht]
      · rw [if_neg hn] at ht
        simp [g0, g1, g5, hv.lenOf, p1, p2.all p3, hi, szBlk_call p4 m0 m1, hn, upM hi hb, ht]
        have := (szBlk_le (b := xs[i]) m0).2.1
        refine ⟨szBlk xs[i] m, by omega, by omega, ?_⟩
        simp
    · rintro ⟨e, X⟩ ⟨m, m0, m1, ht, rfl, g0, g1, g5⟩
      simp only at g0 g1 g5 hv ⊢
      rw [List.drop_length] at ht
      unfold vf104b0
      simp [g0, g1, g5, hv.lenOf, ht, szBlksFrom]
theorem szFn_call {H : Hp} {cs : List CV} {f : FnR} (hp : fnP maxLen H cs f) {l : Int} (h0 : 0 ≤ l) (h1 : l ≤ 1048576) (k : IV × Hp → Prop) : CM 35 [.agg cs, .c (.i l)] H k = k (.c (.i (szFnF f l)), H) := by
  obtain ⟨z, rfl, hz, hbz⟩ := hp
  refine det (cw35 ?_) k
  unfold vf35c
  have e : szFnF f l = szFnF ⟨f.blocks, 0⟩ l := rfl
  rw [e]
  have hz' : ∀ L, Row (blkP maxLen) 6 (H ++ L) z f.blocks := fun L => Row.pre (fun _ _ => blkP.pre ⟨_, rfl⟩) ⟨_, rfl⟩ hz
  by_cases h : szFnF ⟨f.blocks, 0⟩ l < 0
  · have h3 : szFnF ⟨f.blocks, 0⟩ l = -1 := by have := (szFnF_le (f := ⟨f.blocks, 0⟩) h0).1; omega
    simp [szBlkS_call (hz' _) hbz h0 h1, h3]
  · simp [szBlkS_call (hz' _) hbz h0 h1, h]
end Go.Proofs.YtgdfgnppeekfjaaGreat.Vm
end
section
/- Programs copied: what is copied lies in memory of its own. No conditions. -/
namespace Go.Proofs.YtgdfgnppeekfjaaGreat.Vm
open Go.RowKit (wrap64)
set_option linter.unusedSimpArgs false
set_option linter.unusedVariables false
def Keep (lo : Nat) (X X' : Hp) : Prop := ∀ id g o, lo ≤ id → rdOb X id g = some o → rdOb X' id g = some o
theorem Keep.trans {lo : Nat} {X Y Z : Hp} (h : Keep lo X Y) (k : Keep lo Y Z) : Keep lo X Z := fun id g o hl ho => k id g o hl (h id g o hl ho)
theorem Keep.app (lo : Nat) (X L : Hp) : Keep lo X (X ++ L) := fun _ _ _ _ h => rdOb_app L h
theorem Keep.mono {lo lo' : Nat} {X Y : Hp} (h : Keep lo X Y) (hl : lo ≤ lo') : Keep lo' X Y := fun id g o h1 h2 => h id g o (Nat.le_trans hl h1) h2
theorem Keep.mid (H : Hp) (a b : Ob) (L L' : Hp) : Keep (H.length + 1) (H ++ a :: L) (H ++ b :: (L ++ L')) := by
  intro id g o hl ho
  obtain ⟨j, rfl⟩ : ∃ j, id = H.length + (j + 1) := ⟨id - H.length - 1, by omega⟩
  rw [rdOb_r, rdOb_cs] at ho ⊢
  exact rdOb_app L' ho
theorem Keep.alt (X A B L L2 : Hp) (h : A.length = B.length) : Keep (X.length + A.length) (X ++ (A ++ L)) (X ++ (B ++ (L ++ L2))) := by
  intro id g o hl ho
  obtain ⟨j, rfl⟩ : ∃ j, id = X.length + (A.length + j) := ⟨id - X.length - A.length, by omega⟩
  rw [rdOb_r, rdOb_r] at ho
  rw [rdOb_r, h, rdOb_r]
  exact rdOb_app L2 ho
theorem keep3 (X : Hp) (a b c a' b' c' : Ob) (L : Hp) : Keep (X.length + 3) (X ++ a :: b :: c :: L) (X ++ a' :: b' :: c' :: L) := by
  have := Keep.alt X [a, b, c] [a', b', c'] L [] rfl
  simpa using this
theorem keep3' (X : Hp) (a b c a' b' c' : Ob) (L L2 : Hp) : Keep (X.length + 3) (X ++ a :: b :: c :: L) (X ++ a' :: b' :: c' :: (L ++ L2)) := by
  have := Keep.alt X [a, b, c] [a', b', c'] L L2 rfl
  simpa using this
def ORow {α : Type} (P : Nat → Hp → List CV → α → Prop) (sz : Nat) (lo : Nat) (X : Hp) (w : CV) (xs : List α) : Prop :=
  ∃ (id : Nat) (css : List (List CV)), w = .sl id 0 0 xs.length ∧ lo ≤ id ∧ rdOb X id 0 = some ⟨css.flatten, 0, true, sz⟩ ∧ css.length = xs.length ∧ ∀ (k : Nat) cs x, css[k]? = some cs → xs[k]? = some x → cs.length = sz ∧ P lo X cs x
theorem ORow.row {α : Type} {P : Nat → Hp → List CV → α → Prop} {P' : Hp → List CV → α → Prop} {sz lo : Nat} {X : Hp} {w : CV} {xs : List α} (h : ORow P sz lo X w xs) (hP : ∀ cs x, x ∈ xs → P lo X cs x → P' X cs x) : Row P' sz X w xs := by
  obtain ⟨id, css, rfl, h2, h3, h4, h5⟩ := h
  exact Row.mk h3 rfl rfl h4 fun k cs x a b => ⟨(h5 k cs x a b).1, hP _ _ (List.mem_of_getElem? b) (h5 k cs x a b).2⟩
theorem ORow.keep {α : Type} {P : Nat → Hp → List CV → α → Prop} {sz lo : Nat} {X X' : Hp} (hk : Keep lo X X') (hP : ∀ cs x, P lo X cs x → P lo X' cs x) {w : CV} {xs : List α} (h : ORow P sz lo X w xs) : ORow P sz lo X' w xs := by
  obtain ⟨id, css, h1, h2, h3, h4, h5⟩ := h
  exact ⟨id, css, h1, h2, hk _ _ _ h2 h3, h4, fun k cs x a b => ⟨(h5 k cs x a b).1, hP _ _ (h5 k cs x a b).2⟩⟩
theorem ORow.lo {α : Type} {P : Nat → Hp → List CV → α → Prop} {sz lo lo' : Nat} {X : Hp} (hl : lo' ≤ lo) (hP : ∀ cs x, P lo X cs x → P lo' X cs x) {w : CV} {xs : List α} (h : ORow P sz lo X w xs) : ORow P sz lo' X w xs := by
  obtain ⟨id, css, h1, h2, h3, h4, h5⟩ := h
  exact ⟨id, css, h1, Nat.le_trans hl h2, h3, h4, fun k cs x a b => ⟨(h5 k cs x a b).1, hP _ _ (h5 k cs x a b).2⟩⟩
theorem ORow.sl {α : Type} {P : Nat → Hp → List CV → α → Prop} {sz lo : Nat} {X : Hp} {w : CV} {xs : List α} (h : ORow P sz lo X w xs) : ∃ id, w = .sl id 0 0 xs.length := by
  obtain ⟨id, css, rfl, _⟩ := h; exact ⟨_, rfl⟩
theorem ORow.lenOf {α : Type} {P : Nat → Hp → List CV → α → Prop} {sz lo : Nat} {X : Hp} {w : CV} {xs : List α} (h : ORow P sz lo X w xs) : lenOf w = some xs.length := by
  obtain ⟨id, css, rfl, _⟩ := h; rfl
def armO (_ : Nat) (_ : Hp) (cs : List CV) (a : ArmR) : Prop := cs = armC a
def insO (_ : Nat) (_ : Hp) (cs : List CV) (x : InsR) : Prop := cs = insC x
def phiO (lo : Nat) (X : Hp) (cs : List CV) (p : PhiR) : Prop := ∃ z, cs = [.i p.d, z] ∧ ORow armO 2 lo X z p.arms
def blkO (lo : Nat) (X : Hp) (cs : List CV) (b : BlkR) : Prop := ∃ z u, cs = z :: u :: trmC b.term ∧ ORow phiO 2 lo X z b.phis ∧ ORow insO 5 lo X u b.list
def fnO (lo : Nat) (X : Hp) (cs : List CV) (f : FnR) : Prop := ∃ z, cs = [z, .i f.values] ∧ ORow blkO 6 lo X z f.blocks
theorem armO.keep {lo lo' : Nat} {X X' : Hp} {cs : List CV} {a : ArmR} (h : armO lo X cs a) : armO lo' X' cs a := h
theorem insO.keep {lo lo' : Nat} {X X' : Hp} {cs : List CV} {a : InsR} (h : insO lo X cs a) : insO lo' X' cs a := h
theorem phiO.keep {lo : Nat} {X X' : Hp} (hk : Keep lo X X') {cs : List CV} {p : PhiR} (h : phiO lo X cs p) : phiO lo X' cs p := by
  obtain ⟨z, h1, h2⟩ := h; exact ⟨z, h1, h2.keep hk fun _ _ h => h⟩
theorem blkO.keep {lo : Nat} {X X' : Hp} (hk : Keep lo X X') {cs : List CV} {p : BlkR} (h : blkO lo X cs p) : blkO lo X' cs p := by
  obtain ⟨z, u, h1, h2, h3⟩ := h; exact ⟨z, u, h1, h2.keep hk fun _ _ => phiO.keep hk, h3.keep hk fun _ _ h => h⟩
theorem fnO.keep {lo : Nat} {X X' : Hp} (hk : Keep lo X X') {cs : List CV} {p : FnR} (h : fnO lo X cs p) : fnO lo X' cs p := by
  obtain ⟨z, h1, h2⟩ := h; exact ⟨z, h1, h2.keep hk fun _ _ => blkO.keep hk⟩
theorem phiO.lo {lo lo' : Nat} {X : Hp} (hl : lo' ≤ lo) {cs : List CV} {p : PhiR} (h : phiO lo X cs p) : phiO lo' X cs p := by
  obtain ⟨z, h1, h2⟩ := h; exact ⟨z, h1, h2.lo hl fun _ _ h => h⟩
theorem blkO.lo {lo lo' : Nat} {X : Hp} (hl : lo' ≤ lo) {cs : List CV} {p : BlkR} (h : blkO lo X cs p) : blkO lo' X cs p := by
  obtain ⟨z, u, h1, h2, h3⟩ := h; exact ⟨z, u, h1, h2.lo hl fun _ _ => phiO.lo hl, h3.lo hl fun _ _ h => h⟩
theorem fnO.lo {lo lo' : Nat} {X : Hp} (hl : lo' ≤ lo) {cs : List CV} {p : FnR} (h : fnO lo X cs p) : fnO lo' X cs p := by
  obtain ⟨z, h1, h2⟩ := h; exact ⟨z, h1, h2.lo hl fun _ _ => blkO.lo hl⟩
def Small (f : FnR) : Prop := f.blocks.length ≤ BIG ∧ ∀ b ∈ f.blocks, b.phis.length ≤ BIG ∧ b.list.length ≤ BIG ∧ ∀ p ∈ b.phis, p.arms.length ≤ BIG
theorem phiO.p {lo : Nat} {X : Hp} {cs : List CV} {p : PhiR} (hs : p.arms.length ≤ BIG) (h : phiO lo X cs p) : phiP BIG X cs p := by
  obtain ⟨z, h1, h2⟩ := h; exact ⟨z, h1, h2.row fun _ _ _ h => h, hs⟩
theorem blkO.p {lo : Nat} {X : Hp} {cs : List CV} {b : BlkR} (hs : b.phis.length ≤ BIG ∧ b.list.length ≤ BIG ∧ ∀ p ∈ b.phis, p.arms.length ≤ BIG) (h : blkO lo X cs b) : blkP BIG X cs b := by
  obtain ⟨z, u, h1, h2, h3⟩ := h; exact ⟨z, u, h1, h2.row fun _ _ hx => phiO.p (hs.2.2 _ hx), h3.row fun _ _ _ h => h, hs.1, hs.2.1⟩
theorem fnO.p {lo : Nat} {X : Hp} {cs : List CV} {f : FnR} (hs : Small f) (h : fnO lo X cs f) : fnP BIG X cs f := by
  obtain ⟨z, h1, h2⟩ := h; exact ⟨z, h1, h2.row fun _ _ hx => blkO.p (hs.2 _ hx), hs.1⟩
theorem gc_own {H L : Hp} {n : Nat} {ob : Ob} (hrw : ob.rw = true) (hg : ob.g = 0) :
    ∃ L', gcRet H (.c (.sl H.length 0 0 n)) (H ++ ob :: L) = (.c (.sl H.length 0 0 n), H ++ ob :: L') ∧ (L' = L ∨ (L' = [] ∧ ob.cells.all flatC = true)) := by
  unfold gcRet
  rw [if_pos (by simp), if_neg (by simp [flatV, flatC])]
  simp only [Nat.le_refl, if_true, List.getElem?_append_right (Nat.le_refl _), Nat.sub_self, List.getElem?_cons_zero, hg, hrw, true_and]
  by_cases hf : ob.cells.all flatC = true
  · rw [if_pos hf]
    refine ⟨[], ?_, .inr ⟨rfl, hf⟩⟩
    obtain ⟨cs, g, rw_, sz⟩ := ob
    simp only at hg hrw
    subst hg; subst hrw
    rfl
  · rw [if_neg hf]
    exact ⟨L, rfl, .inl rfl⟩
theorem gc_agg {H H' : Hp} {cs : List CV} (h : cs.all flatC = false) : gcRet H (.agg cs) H' = (.agg cs, H') := by
  unfold gcRet
  split
  · rw [if_neg (by simp only [flatV, h]; simp)]
  · rfl
theorem gc_aggF {H L : Hp} {cs : List CV} (h : cs.all flatC = true) : gcRet H (.agg cs) (H ++ L) = (.agg cs, H) := gc_flat H L h
theorem put_mid {A zs R cs : List CV} {n : Nat} (hn : A.length = n) (h : cs.length = zs.length) : putAt (A ++ (zs ++ R)) n cs = A ++ (cs ++ R) := by
  subst hn
  unfold putAt
  rw [List.take_append_of_le_length (Nat.le_refl _), List.take_length, List.drop_append, List.drop_eq_nil_of_le (by omega), List.nil_append, Nat.add_sub_cancel_left, h, List.drop_append, List.drop_eq_nil_of_le (by omega)]
  simp
theorem flat_len {css : List (List CV)} {sz : Nat} (h : ∀ cs ∈ css, cs.length = sz) : css.flatten.length = css.length * sz := by
  induction css with
  | nil => simp
  | cons c r ih => rw [List.flatten_cons, List.length_append, ih (fun cs hc => h cs (by simp [hc])), h c (by simp), List.length_cons, Nat.succ_mul]; omega
theorem toArm_call (H : Hp) (a : ArmR) (k : IV × Hp → Prop) : CM 259 [.agg (armC a)] H k = k (.agg (armC a), H) := by
  refine det (cw259 ?_) k
  unfold vf259c
  simp [armC, putAt]
  exact gc_aggF (by simp [flatC])
theorem toIns_call (H : Hp) (a : InsR) (k : IV × Hp → Prop) : CM 246 [.agg (insC a)] H k = k (.agg (insC a), H) := by
  refine det (cw246 ?_) k
  unfold vf246c
  simp [insC, putAt]
  exact gc_aggF (by simp [flatC])
theorem toTerm_call (H : Hp) (t : TrmR) (k : IV × Hp → Prop) : CM 212 [.agg [.i t.kind, .i t.a, .i t.to, .i t.els]] H k = k (.agg [.i t.kind, .i t.a, .i t.to, .i t.els], H) := by
  refine det (cw212 ?_) k
  unfold vf212c
  simp [putAt]
  exact gc_aggF (by simp [flatC])
theorem toArm_own (X : Hp) {cs : List CV} {a : ArmR} (h : armP X cs a) : CM 259 [.agg cs] X fun r => ∃ cs' L, r = (.agg cs', X ++ L) ∧ cs'.length = 2 ∧ armO X.length (X ++ L) cs' a := by
  cases h
  rw [toArm_call]
  exact ⟨armC a, [], by simp, rfl, rfl⟩
theorem toIns_own (X : Hp) {cs : List CV} {a : InsR} (h : insP X cs a) : CM 246 [.agg cs] X fun r => ∃ cs' L, r = (.agg cs', X ++ L) ∧ cs'.length = 5 ∧ insO X.length (X ++ L) cs' a := by
  cases h
  rw [toIns_call]
  exact ⟨insC a, [], by simp, rfl, rfl⟩
def ToInv {α : Type} (O : Nat → Hp → List CV → α → Prop) (sz : Nat) (zs : List CV) (H : Hp) (v : CV) (xs : List α) (i : Nat) (s : St) : Prop :=
  ∃ (css : List (List CV)) (L : Hp), s.h = H ++ ⟨css.flatten ++ (List.replicate (xs.length - i) zs).flatten, 0, true, sz⟩ :: L ∧ css.length = i ∧
    (∀ (k : Nat) cs x, css[k]? = some cs → xs[k]? = some x → cs.length = sz ∧ O (H.length + 1) s.h cs x) ∧ Env.get s.e 0 = .c v ∧ Env.get s.e 3 = .c (.sl H.length 0 0 xs.length) ∧ Env.get s.e 4 = .c (.i i)
section
variable {α : Type} {O : Nat → Hp → List CV → α → Prop} {sz : Nat} {zs : List CV} {H : Hp} {v : CV} {xs : List α} {i : Nat}
theorem ToInv.start {e : Env} (h0 : Env.get e 0 = .c v) (h3 : Env.get e 3 = .c (.sl H.length 0 0 xs.length)) (h4 : Env.get e 4 = .c (.i 0)) : ToInv O sz zs H v xs 0 ⟨e, H ++ [⟨(List.replicate xs.length zs).flatten, 0, true, sz⟩]⟩ :=
  ⟨[], [], by simp, rfl, fun k cs x h => by simp at h, h0, h3, h4⟩
theorem ToInv.next (hk : ∀ X X', Keep (H.length + 1) X X' → ∀ cs x, O (H.length + 1) X cs x → O (H.length + 1) X' cs x) (hlo : ∀ lo, H.length + 1 ≤ lo → ∀ X cs x, O lo X cs x → O (H.length + 1) X cs x) (hzs : zs.length = sz)
    (hi : i < xs.length) {css : List (List CV)} {L L' : Hp} {cs' : List CV} (hc : css.length = i) (hP : ∀ (k : Nat) cs x, css[k]? = some cs → xs[k]? = some x → cs.length = sz ∧ O (H.length + 1) (H ++ ⟨css.flatten ++ (List.replicate (xs.length - i) zs).flatten, 0, true, sz⟩ :: L) cs x)
    (hl : cs'.length = sz) (ho : O (H ++ ⟨css.flatten ++ (List.replicate (xs.length - i) zs).flatten, 0, true, sz⟩ :: L).length (H ++ ⟨css.flatten ++ (List.replicate (xs.length - i) zs).flatten, 0, true, sz⟩ :: L ++ L') cs' xs[i]) {e : Env} {X' : Hp}
    (hX : X' = H ++ ⟨putAt (css.flatten ++ (List.replicate (xs.length - i) zs).flatten) (i * sz) cs', 0, true, sz⟩ :: (L ++ L')) (h0 : Env.get e 0 = .c v) (h3 : Env.get e 3 = .c (.sl H.length 0 0 xs.length)) (h4 : Env.get e 4 = .c (.i (i + 1))) : ToInv O sz zs H v xs (i + 1) ⟨e, X'⟩ := by
  have hl2 : ∀ cs ∈ css, cs.length = sz := by
    intro cs hcs
    obtain ⟨j, hj, rfl⟩ := List.getElem_of_mem hcs
    exact (hP j _ xs[j] (List.getElem?_eq_getElem hj) (List.getElem?_eq_getElem (by omega))).1
  have hfl : css.flatten.length = i * sz := by rw [flat_len hl2, hc]
  have hrep : (List.replicate (xs.length - i) zs).flatten = zs ++ (List.replicate (xs.length - (i + 1)) zs).flatten := by
    rw [show xs.length - i = (xs.length - (i + 1)) + 1 by omega, List.replicate_succ, List.flatten_cons]
  have hput := put_mid (A := css.flatten) (zs := zs) (R := (List.replicate (xs.length - (i + 1)) zs).flatten) hfl (hl.trans hzs.symm)
  rw [← hrep] at hput
  rw [hput] at hX
  subst hX
  refine ⟨css ++ [cs'], L ++ L', by simp, by simp [hc], fun k cs x a b => ?_, h0, h3, by simpa using h4⟩
  by_cases hkl : k < css.length
  · rw [List.getElem?_append_left hkl] at a
    obtain ⟨g1, g2⟩ := hP k cs x a b
    exact ⟨g1, hk _ _ (Keep.mid _ _ _ _ _) _ _ g2⟩
  · have hk2 : k = css.length := by
      have := (List.getElem?_eq_some_iff.1 a).1
      simp at this; omega
    subst hk2
    rw [List.getElem?_append_right (Nat.le_refl _), Nat.sub_self] at a
    simp at a
    subst a
    have hx : x = xs[i] := by simp only [hc] at b; rw [List.getElem?_eq_getElem hi] at b; injection b with b; exact b.symm
    subst hx
    refine ⟨hl, hk _ _ ?_ _ _ (hlo _ (by simp) _ _ _ ho)⟩
    intro id g o hid hob
    obtain ⟨j, rfl⟩ : ∃ j, id = H.length + (j + 1) := ⟨id - H.length - 1, by omega⟩
    rw [List.append_assoc, rdOb_r, List.cons_append, rdOb_cs] at hob
    rw [rdOb_r, rdOb_cs]
    exact hob
theorem ToInv.fits (hzs : zs.length = sz) (hi : i < xs.length) {css : List (List CV)} (hc : css.length = i) (hl2 : ∀ (k : Nat) cs x, css[k]? = some cs → xs[k]? = some x → cs.length = sz) : i * sz + sz ≤ (css.flatten ++ (List.replicate (xs.length - i) zs).flatten).length := by
  have hl3 : ∀ cs ∈ css, cs.length = sz := by
    intro cs hcs
    obtain ⟨j, hj, rfl⟩ := List.getElem_of_mem hcs
    exact hl2 j _ xs[j] (List.getElem?_eq_getElem hj) (List.getElem?_eq_getElem (by omega))
  rw [List.length_append, flat_len hl3, hc, flat_len (sz := sz) (fun cs h => by rw [List.eq_of_mem_replicate h, hzs]), List.length_replicate]
  have : 1 * sz ≤ (xs.length - i) * sz := Nat.mul_le_mul_right _ (by omega)
  omega
theorem ToInv.done (hlo : ∀ X cs x, O (H.length + 1) X cs x → O H.length X cs x) (hfl : ∀ X X' cs x, cs.all flatC = true → O H.length X cs x → O H.length X' cs x) {css : List (List CV)} {L : Hp} (hc : css.length = xs.length)
    (hP : ∀ (k : Nat) cs x, css[k]? = some cs → xs[k]? = some x → cs.length = sz ∧ O (H.length + 1) (H ++ ⟨css.flatten ++ (List.replicate (xs.length - xs.length) zs).flatten, 0, true, sz⟩ :: L) cs x) :
    ∃ w L', gcRet H (.c (.sl H.length 0 0 xs.length)) (H ++ ⟨css.flatten ++ (List.replicate (xs.length - xs.length) zs).flatten, 0, true, sz⟩ :: L) = (.c w, H ++ L') ∧ ORow O sz H.length (H ++ L') w xs := by
  simp only [Nat.sub_self, List.replicate_zero, List.flatten_nil, List.append_nil] at hP ⊢
  obtain ⟨L', hg, hL⟩ := gc_own (H := H) (L := L) (n := xs.length) (ob := ⟨css.flatten, 0, true, sz⟩) rfl rfl
  refine ⟨_, _, hg, H.length, css, rfl, Nat.le_refl _, by simp, hc, fun k cs x a b => ?_⟩
  obtain ⟨g1, g2⟩ := hP k cs x a b
  refine ⟨g1, ?_⟩
  rcases hL with rfl | ⟨rfl, hf⟩
  · exact hlo _ _ _ g2
  · refine hfl _ _ _ _ ?_ (hlo _ _ _ g2)
    rw [List.all_eq_true] at hf ⊢
    intro c hcc
    exact hf c (List.mem_flatten.2 ⟨cs, List.mem_of_getElem? a, hcc⟩)
end
theorem toArmS_call {H : Hp} {v : CV} {xs : List ArmR} (hv : Row armP 2 H v xs) (hb : xs.length ≤ BIG) : CM 256 [.c v] H fun r => ∃ w L, r = (.c w, H ++ L) ∧ ORow armO 2 H.length (H ++ L) w xs := by
  refine cw256 ?_
  unfold vf256c
  have hlim : xs.length * 2 ≤ LIM := by simp only [BIG] at hb; simp only [LIM]; omega
  simp [hv.lenOf, hlim]
  refine wp_for CM_mono xs.length (ToInv armO 2 [.i 0, .i 0] H v xs) (ToInv.start (by simp) (by simp) (by simp)) ?_ ?_
  · rintro i ⟨e, X⟩ hi ⟨css, L, hX, hc, hP, h0, h3, h4⟩
    simp only at h0 h3 h4 hX hP ⊢
    subst hX
    obtain ⟨id, g, off, cs, q1, hA, hl, hp⟩ := Row.get hv hi
    have hq := (hA.app (⟨css.flatten ++ (List.replicate (xs.length - i) [.i 0, .i 0]).flatten, 0, true, 2⟩ :: L)).all hl
    have hfit := ToInv.fits (zs := [.i 0, .i 0]) (sz := 2) rfl hi hc (fun k cs x a b => (hP k cs x a b).1)
    generalize hcells : css.flatten ++ (List.replicate (xs.length - i) [.i 0, .i 0]).flatten = cells at hq hfit
    unfold vf256b0
    simp [h0, h3, h4, hv.lenOf, hi, q1, hq, hcells]
    refine (toArm_own _ (armP.pre hp)).mono ?_
    rintro _ ⟨cs', L', rfl, hl', ho⟩
    simp [h0, h3, h4, hl', up1 hi hb, hi, hfit]
    subst hcells
    exact ToInv.next (O := armO) (zs := [.i 0, .i 0]) (sz := 2) (fun _ _ hk _ _ => fun h => h) (fun _ hlo _ _ _ => fun h => h) rfl hi hc hP hl' ho rfl (by simp) (by simp) (by simp)
  · rintro ⟨e, X⟩ ⟨css, L, hX, hc, hP, h0, h3, h4⟩
    simp only at h0 h3 h4 hX hP ⊢
    subst hX
    obtain ⟨w, L', hg, ho⟩ := ToInv.done (O := armO) (zs := [.i 0, .i 0]) (sz := 2) (fun _ _ _ => fun h => h) (fun _ _ _ _ => fun _ h => h) hc hP
    generalize hcells : css.flatten ++ (List.replicate (xs.length - xs.length) [.i 0, .i 0]).flatten = cells at hg
    unfold vf256b0
    simp [h0, h3, h4, hv.lenOf, hcells, hg]
    exact ⟨_, _, ⟨rfl, rfl⟩, ho⟩
theorem toInsS_call {H : Hp} {v : CV} {xs : List InsR} (hv : Row insP 5 H v xs) (hb : xs.length ≤ BIG) : CM 211 [.c v] H fun r => ∃ w L, r = (.c w, H ++ L) ∧ ORow insO 5 H.length (H ++ L) w xs := by
  refine cw211 ?_
  unfold vf211c
  have hlim : xs.length * 5 ≤ LIM := by simp only [BIG] at hb; simp only [LIM]; omega
  simp [hv.lenOf, hlim]
  refine wp_for CM_mono xs.length (ToInv insO 5 [.i 0, .i 0, .i 0, .i 0, .i 0] H v xs) (ToInv.start (by simp) (by simp) (by simp)) ?_ ?_
  · rintro i ⟨e, X⟩ hi ⟨css, L, hX, hc, hP, h0, h3, h4⟩
    simp only at h0 h3 h4 hX hP ⊢
    subst hX
    obtain ⟨id, g, off, cs, q1, hA, hl, hp⟩ := Row.get hv hi
    have hq := (hA.app (⟨css.flatten ++ (List.replicate (xs.length - i) [.i 0, .i 0, .i 0, .i 0, .i 0]).flatten, 0, true, 5⟩ :: L)).all hl
    have hfit := ToInv.fits (zs := [.i 0, .i 0, .i 0, .i 0, .i 0]) (sz := 5) rfl hi hc (fun k cs x a b => (hP k cs x a b).1)
    generalize hcells : css.flatten ++ (List.replicate (xs.length - i) [.i 0, .i 0, .i 0, .i 0, .i 0]).flatten = cells at hq hfit
    unfold vf211b0
    simp [h0, h3, h4, hv.lenOf, hi, q1, hq, hcells]
    refine (toIns_own _ (insP.pre hp)).mono ?_
    rintro _ ⟨cs', L', rfl, hl', ho⟩
    simp [h0, h3, h4, hl', up1 hi hb, hi, hfit]
    subst hcells
    exact ToInv.next (O := insO) (zs := [.i 0, .i 0, .i 0, .i 0, .i 0]) (sz := 5) (fun _ _ hk _ _ => fun h => h) (fun _ hlo _ _ _ => fun h => h) rfl hi hc hP hl' ho rfl (by simp) (by simp) (by simp)
  · rintro ⟨e, X⟩ ⟨css, L, hX, hc, hP, h0, h3, h4⟩
    simp only at h0 h3 h4 hX hP ⊢
    subst hX
    obtain ⟨w, L', hg, ho⟩ := ToInv.done (O := insO) (zs := [.i 0, .i 0, .i 0, .i 0, .i 0]) (sz := 5) (fun _ _ _ => fun h => h) (fun _ _ _ _ => fun _ h => h) hc hP
    generalize hcells : css.flatten ++ (List.replicate (xs.length - xs.length) [.i 0, .i 0, .i 0, .i 0, .i 0]).flatten = cells at hg
    unfold vf211b0
    simp [h0, h3, h4, hv.lenOf, hcells, hg]
    exact ⟨_, _, ⟨rfl, rfl⟩, ho⟩
theorem toPhi_own (X : Hp) {cs : List CV} {p : PhiR} (h : phiP BIG X cs p) : CM 245 [.agg cs] X fun r => ∃ cs' L, r = (.agg cs', X ++ L) ∧ cs'.length = 2 ∧ phiO X.length (X ++ L) cs' p := by
  obtain ⟨z, rfl, hz, hbz⟩ := h
  refine cw245 ?_
  unfold vf245c
  simp [putAt]
  refine (toArmS_call (Arms.app hz _) hbz).mono ?_
  rintro _ ⟨w, L, rfl, ho⟩
  obtain ⟨idw, rfl⟩ := ho.sl
  simp [putAt]
  rw [gc_agg (by simp [flatC])]
  refine ⟨_, _, rfl, rfl, _, rfl, ?_⟩
  simp only [List.append_assoc, List.cons_append, List.nil_append, List.length_append, List.length_cons, List.length_nil, Nat.zero_add, Nat.reduceAdd] at ho
  exact (ho.keep (keep3 _ _ _ _ _ _ _ _) (fun _ _ => armO.keep)).lo (by simp) (fun _ _ => armO.keep)
theorem toPhiS_call {H : Hp} {v : CV} {xs : List PhiR} (hv : Row (phiP BIG) 2 H v xs) (hb : xs.length ≤ BIG) : CM 210 [.c v] H fun r => ∃ w L, r = (.c w, H ++ L) ∧ ORow phiO 2 H.length (H ++ L) w xs := by
  refine cw210 ?_
  unfold vf210c
  have hlim : xs.length * 2 ≤ LIM := by simp only [BIG] at hb; simp only [LIM]; omega
  simp [hv.lenOf, hlim]
  refine wp_for CM_mono xs.length (ToInv phiO 2 [.i 0, .ns] H v xs) (ToInv.start (by simp) (by simp) (by simp)) ?_ ?_
  · rintro i ⟨e, X⟩ hi ⟨css, L, hX, hc, hP, h0, h3, h4⟩
    simp only at h0 h3 h4 hX hP ⊢
    subst hX
    obtain ⟨id, g, off, cs, q1, hA, hl, hp⟩ := Row.get hv hi
    have hq := (hA.app (⟨css.flatten ++ (List.replicate (xs.length - i) [.i 0, .ns]).flatten, 0, true, 2⟩ :: L)).all hl
    have hfit := ToInv.fits (zs := [.i 0, .ns]) (sz := 2) rfl hi hc (fun k cs x a b => (hP k cs x a b).1)
    generalize hcells : css.flatten ++ (List.replicate (xs.length - i) [.i 0, .ns]).flatten = cells at hq hfit
    unfold vf210b0
    simp [h0, h3, h4, hv.lenOf, hi, q1, hq, hcells]
    refine (toPhi_own _ (phiP.pre ⟨_, rfl⟩ hp)).mono ?_
    rintro _ ⟨cs', L', rfl, hl', ho⟩
    simp [h0, h3, h4, hl', up1 hi hb, hi, hfit]
    subst hcells
    exact ToInv.next (O := phiO) (zs := [.i 0, .ns]) (sz := 2) (fun _ _ hk _ _ => phiO.keep hk) (fun _ hlo _ _ _ => phiO.lo hlo) rfl hi hc hP hl' ho rfl (by simp) (by simp) (by simp)
  · rintro ⟨e, X⟩ ⟨css, L, hX, hc, hP, h0, h3, h4⟩
    simp only at h0 h3 h4 hX hP ⊢
    subst hX
    obtain ⟨w, L', hg, ho⟩ := ToInv.done (O := phiO) (zs := [.i 0, .ns]) (sz := 2) (fun _ _ _ => phiO.lo (Nat.le_succ _)) (fun _ _ _ _ => fun hf h => by obtain ⟨z, rfl, id, css, rfl, _⟩ := h; simp [flatC] at hf) hc hP
    generalize hcells : css.flatten ++ (List.replicate (xs.length - xs.length) [.i 0, .ns]).flatten = cells at hg
    unfold vf210b0
    simp [h0, h3, h4, hv.lenOf, hcells, hg]
    exact ⟨_, _, ⟨rfl, rfl⟩, ho⟩
theorem toBlk_own (X : Hp) {cs : List CV} {b : BlkR} (h : blkP BIG X cs b) : CM 164 [.agg cs] X fun r => ∃ cs' L, r = (.agg cs', X ++ L) ∧ cs'.length = 6 ∧ blkO X.length (X ++ L) cs' b := by
  obtain ⟨z, u, rfl, hz, hu, hb1, hb2⟩ := h
  refine cw164 ?_
  unfold vf164c
  simp [trmC, putAt]
  refine (toPhiS_call (Phis.app hz _) hb1).mono ?_
  rintro _ ⟨w, L, rfl, ho⟩
  obtain ⟨idw, rfl⟩ := ho.sl
  simp [putAt]
  refine (toInsS_call (List5.app hu _) hb2).mono ?_
  rintro _ ⟨w2, L2, rfl, ho2⟩
  obtain ⟨idw2, rfl⟩ := ho2.sl
  simp [putAt, toTerm_call]
  rw [gc_agg (by simp [flatC])]
  refine ⟨_, _, rfl, rfl, _, _, rfl, ?_, ?_⟩
  · simp only [List.append_assoc, List.cons_append, List.nil_append, List.length_append, List.length_cons, List.length_nil, Nat.zero_add, Nat.reduceAdd] at ho
    exact (ho.keep (keep3' _ _ _ _ _ _ _ _ _) (fun _ _ => phiO.keep (keep3' _ _ _ _ _ _ _ _ _))).lo (by simp) (fun _ _ => phiO.lo (by simp))
  · simp only [List.append_assoc, List.cons_append, List.nil_append, List.length_append, List.length_cons, List.length_nil, Nat.zero_add, Nat.reduceAdd] at ho2
    exact (ho2.keep (Keep.mono (keep3 _ _ _ _ _ _ _ _) (by omega)) (fun _ _ => insO.keep)).lo (by omega) (fun _ _ => insO.keep)
theorem toBlkS_call {H : Hp} {v : CV} {xs : List BlkR} (hv : Row (blkP BIG) 6 H v xs) (hb : xs.length ≤ BIG) : CM 105 [.c v] H fun r => ∃ w L, r = (.c w, H ++ L) ∧ ORow blkO 6 H.length (H ++ L) w xs := by
  refine cw105 ?_
  unfold vf105c
  have hlim : xs.length * 6 ≤ LIM := by simp only [BIG] at hb; simp only [LIM]; omega
  simp [hv.lenOf, hlim]
  refine wp_for CM_mono xs.length (ToInv blkO 6 [.ns, .ns, .i 0, .i 0, .i 0, .i 0] H v xs) (ToInv.start (by simp) (by simp) (by simp)) ?_ ?_
  · rintro i ⟨e, X⟩ hi ⟨css, L, hX, hc, hP, h0, h3, h4⟩
    simp only at h0 h3 h4 hX hP ⊢
    subst hX
    obtain ⟨id, g, off, cs, q1, hA, hl, hp⟩ := Row.get hv hi
    have hq := (hA.app (⟨css.flatten ++ (List.replicate (xs.length - i) [.ns, .ns, .i 0, .i 0, .i 0, .i 0]).flatten, 0, true, 6⟩ :: L)).all hl
    have hfit := ToInv.fits (zs := [.ns, .ns, .i 0, .i 0, .i 0, .i 0]) (sz := 6) rfl hi hc (fun k cs x a b => (hP k cs x a b).1)
    generalize hcells : css.flatten ++ (List.replicate (xs.length - i) [.ns, .ns, .i 0, .i 0, .i 0, .i 0]).flatten = cells at hq hfit
    unfold vf105b0
    simp [h0, h3, h4, hv.lenOf, hi, q1, hq, hcells]
    refine (toBlk_own _ (blkP.pre ⟨_, rfl⟩ hp)).mono ?_
    rintro _ ⟨cs', L', rfl, hl', ho⟩
    simp [h0, h3, h4, hl', up1 hi hb, hi, hfit]
    subst hcells
    exact ToInv.next (O := blkO) (zs := [.ns, .ns, .i 0, .i 0, .i 0, .i 0]) (sz := 6) (fun _ _ hk _ _ => blkO.keep hk) (fun _ hlo _ _ _ => blkO.lo hlo) rfl hi hc hP hl' ho rfl (by simp) (by simp) (by simp)
  · rintro ⟨e, X⟩ ⟨css, L, hX, hc, hP, h0, h3, h4⟩
    simp only at h0 h3 h4 hX hP ⊢
    subst hX
    obtain ⟨w, L', hg, ho⟩ := ToInv.done (O := blkO) (zs := [.ns, .ns, .i 0, .i 0, .i 0, .i 0]) (sz := 6) (fun _ _ _ => blkO.lo (Nat.le_succ _)) (fun _ _ _ _ => fun hf h => by obtain ⟨z, u, rfl, ⟨id, css, rfl, _⟩, _⟩ := h; simp [flatC] at hf) hc hP
    generalize hcells : css.flatten ++ (List.replicate (xs.length - xs.length) [.ns, .ns, .i 0, .i 0, .i 0, .i 0]).flatten = cells at hg
    unfold vf105b0
    simp [h0, h3, h4, hv.lenOf, hcells, hg]
    exact ⟨_, _, ⟨rfl, rfl⟩, ho⟩
theorem toFn_call (X : Hp) {cs : List CV} {f : FnR} (h : fnP BIG X cs f) : CM 36 [.agg cs] X fun r => ∃ cs' L, r = (.agg cs', X ++ L) ∧ fnO X.length (X ++ L) cs' f := by
  obtain ⟨z, rfl, hz, hb1⟩ := h
  refine cw36 ?_
  unfold vf36c
  simp [putAt]
  refine (toBlkS_call (Blocks.app hz _) hb1).mono ?_
  rintro _ ⟨w, L, rfl, ho⟩
  obtain ⟨idw, rfl⟩ := ho.sl
  simp [putAt]
  rw [gc_agg (by simp [flatC])]
  refine ⟨_, _, rfl, _, rfl, ?_⟩
  simp only [List.append_assoc, List.cons_append, List.nil_append, List.length_append, List.length_cons, List.length_nil, Nat.zero_add, Nat.reduceAdd] at ho
  exact (ho.keep (keep3 _ _ _ _ _ _ _ _) (fun _ _ => blkO.keep (keep3 _ _ _ _ _ _ _ _))).lo (by simp) (fun _ _ => blkO.lo (by simp))
end Go.Proofs.YtgdfgnppeekfjaaGreat.Vm
end
section
/- Who follows whom; what a program costs. No conditions. -/
namespace Go.Proofs.YtgdfgnppeekfjaaGreat.Vm
open Go.RowKit (wrap64)
set_option linter.unusedSimpArgs false
set_option linter.unusedVariables false
/-! ### Numbers -/
def intP (_ : Hp) (cs : List CV) (x : Int) : Prop := cs = [.i x]
theorem IsI.row {H : Hp} {v : CV} {xs : List Int} (h : IsI H v xs) : Row intP 1 H v xs := by
  refine ⟨xs.map fun x => [.i x], ?_, by simp, fun k cs x a b => ?_⟩
  · have e : ∀ xs : List Int, (xs.map fun x => [CV.i x]).flatten = xs.map .i := by
      intro xs
      induction xs with
      | nil => rfl
      | cons a r ih => simp [ih]
    rw [e]; exact h
  · rw [List.getElem?_map, b] at a
    simp at a; subst a
    exact ⟨rfl, rfl⟩
theorem indexInt {H : Hp} {v : CV} {xs : List Int} {x : Int} (hv : IsI H v xs) (hb : xs.length ≤ BIG) (k : IV × Hp → Prop) :
    CM 201 [.c v, .c (.i x)] H k = k (.c (.i (findI (fun y => decide (x = y)) xs)), H) := by
  refine det (cw201 ?_) k
  unfold vf201c
  simp [hv.lenOf]
  refine wp_for CM_mono xs.length (fun i s => (∀ j (hj : j < i) (hx : j < xs.length), decide (x = xs[j]) = false) ∧ s.h = H ∧ Env.get s.e 0 = .c v ∧ Env.get s.e 1 = .c (.i x) ∧ Env.get s.e 7 = .c (.i xs.length) ∧ Env.get s.e 8 = .c (.i i)) (by simp) ?_ ?_
  · rintro i ⟨e, X⟩ hi ⟨ht, rfl, h0, h1, h7, h8⟩
    simp only at h0 h1 h7 h8 hv ⊢
    obtain ⟨id, g, off, q1, q2⟩ := hv.at_ hi
    unfold vf201b0
    cases hpx : decide (x = xs[i]) with
    | false =>
      simp [h0, h1, h7, h8, q1, q2, hi, up1 hi hb, hpx]
      intro j hj hx
      by_cases e : j = i
      · subst e; exact of_decide_eq_false hpx
      · exact of_decide_eq_false (ht j (by omega) hx)
    | true =>
      simp [h0, h1, h7, h8, q1, q2, hi, up1 hi hb, hpx, findI_some hi (p := fun y => decide (x = y)) (fun j hj => ht j hj (by omega)) hpx]
  · rintro ⟨e, X⟩ ⟨ht, rfl, h0, h1, h7, h8⟩
    simp only at h0 h1 h7 h8 ⊢
    unfold vf201b0
    simp [h0, h1, h7, h8, findI_none (p := fun y => decide (x = y)) (fun j hj => ht j hj hj)]
def hasI (xs : List Int) (x : Int) : Bool := xs.any fun y => decide (x = y)
theorem hasI_iff {xs : List Int} {x : Int} : hasI xs x = true ↔ x ∈ xs := by simp [hasI]
theorem containsInt {H : Hp} {v : CV} {xs : List Int} {x : Int} (hv : IsI H v xs) (hb : xs.length ≤ BIG) (k : IV × Hp → Prop) :
    CM 149 [.c v, .c (.i x)] H k = k (.c (.b (hasI xs x)), H) := by
  refine det (cw149 ?_) k
  unfold vf149c
  have e : decide (0 ≤ findI (fun y => decide (x = y)) xs) = hasI xs x := by
    unfold hasI
    cases h : xs.any (fun y => decide (x = y)) with
    | true => exact decide_eq_true (findI_nonneg.2 h)
    | false => exact decide_eq_false fun hc => by rw [findI_nonneg.1 hc] at h; cases h
  simp [indexInt hv hb, e]
theorem l3Has_call {H : Hp} {v : CV} {xs : List Int} {x : Int} (hv : IsI H v xs) (hb : xs.length ≤ BIG) (k : IV × Hp → Prop) :
    CM 157 [.c v, .c (.i x)] H k = k (.c (.b (hasI xs x)), H) := by
  refine det (cw157 ?_) k
  unfold vf157c
  simp
  refine wp_for CM_mono xs.length (fun i s => (∀ j (hj : j < i) (hx : j < xs.length), ¬ x = xs[j]) ∧ s.h = H ∧ Env.get s.e 0 = .c v ∧ Env.get s.e 1 = .c (.i x) ∧ Env.get s.e 5 = .c (.i i)) (by simp) ?_ ?_
  · rintro i ⟨e, X⟩ hi ⟨ht, rfl, h0, h1, h5⟩
    simp only at h0 h1 h5 hv ⊢
    obtain ⟨id, g, off, q1, q2⟩ := hv.at_ hi
    unfold vf157b0
    by_cases hpx : x = xs[i]
    · have : hasI xs x = true := hasI_iff.2 (by rw [hpx]; exact List.getElem_mem hi)
      simp [h0, h1, h5, q1, q2, hi, hv.lenOf, hpx.symm, this]
    · have hpx' : ¬ xs[i] = x := fun h => hpx h.symm
      simp [h0, h1, h5, q1, q2, hi, hv.lenOf, up1 hi hb, hpx']
      intro j hj hx
      by_cases e : j = i
      · subst e; exact hpx
      · exact ht j (by omega) hx
  · rintro ⟨e, X⟩ ⟨ht, rfl, h0, h1, h5⟩
    simp only at h0 h1 h5 hv ⊢
    unfold vf157b0
    have : hasI xs x = false := by
      cases hc : hasI xs x with
      | false => rfl
      | true =>
        obtain ⟨j, hj, he⟩ := List.getElem_of_mem (hasI_iff.1 hc)
        exact (ht j hj hj he.symm).elim
    simp [h0, h1, h5, hv.lenOf, this]
/-! ### A flat row handed back -/
def RowRes (H : Hp) (w : CV) (L : Hp) (xs : List Int) : Prop := (w = .ns ∧ L = [] ∧ xs = []) ∨ (w = .sl H.length 0 0 xs.length ∧ L = [⟨xs.map .i, 0, true, 1⟩])
theorem RowRes.isI {H : Hp} {w : CV} {L : Hp} {xs : List Int} (h : RowRes H w L xs) : IsI (H ++ L) w xs := by
  rcases h with ⟨rfl, rfl, rfl⟩ | ⟨rfl, rfl⟩
  · exact IsI.ns _
  · exact IsI.mk (o := ⟨xs.map .i, 0, true, 1⟩) (by simp) rfl (by simp) (by rw [List.drop_zero, List.take_of_length_le (by simp)])
theorem app_own {X : Hp} {o g n sz m : Nat} {cs xs : List CV} (h : rdOb X o g = some ⟨cs, g, true, sz⟩) (hn : n * sz = cs.length) (hx : 0 < xs.length) (hl : cs.length + xs.length ≤ LIM) :
    doApp X sz (.sl o g 0 n) m xs = some (.c (.sl o (g + 1) 0 (n + m)), X.set o ⟨cs ++ xs, g + 1, true, sz⟩) := by
  have h1 : ¬ (cs.length + xs.length ≤ cs.length) := by omega
  simp [doApp, h, hn, h1, hl]
/-! ### Who follows -/
def succsF (t : TrmR) : List Int := if t.kind = 1 ∨ (t.kind = 2 ∧ t.to = t.els) then [t.to] else if t.kind = 2 then [t.to, t.els] else []
theorem succsF_le (t : TrmR) : (succsF t).length ≤ 2 := by unfold succsF; (repeat' split) <;> simp
theorem implSuccs {H : Hp} {v : CV} {bs : List BlkR} {m : Int} (hv : Blocks H v bs) {b : Nat} (hb : b < bs.length) :
    ∃ w L, RowRes H w L (succsF bs[b].term) ∧ ∀ k : IV × Hp → Prop, CM 83 [.agg [v, .i m], .c (.i b)] H k = k (.c w, H ++ L) := by
  obtain ⟨id, g, off, w, u, q1, q2, q3, hw, hu, hb1, hb2, q4, q5⟩ := hv.get hb
  generalize bs[b].term = t at q2 q3 ⊢
  obtain ⟨kind, a, to, els⟩ := t
  have hg : ∀ (A : Hp) (cs : List CV), cs.all flatC = true → ∀ n, gcRet H (.c (.sl (H.length + A.length) 0 0 n)) (H ++ (A ++ [⟨cs, 0, true, 1⟩])) = (.c (.sl H.length 0 0 n), H ++ [⟨cs, 0, true, 1⟩]) :=
    fun A cs h n => gc_row H (A ++ [⟨cs, 0, true, 1⟩]) (k := A.length) (o := ⟨cs, 0, true, 1⟩) (by have := rdOb_r0 A [⟨cs, 0, true, 1⟩] 0; rw [this]; simp) rfl h
  have hg2 := fun (a b : Ob) (cs : List CV) (h : cs.all flatC = true) n => hg [a, b] cs h n
  simp only [List.length_cons, List.length_nil, Nat.zero_add, Nat.reduceAdd, List.cons_append, List.nil_append] at hg2
  by_cases h1 : kind = 1
  · subst h1
    refine ⟨.sl H.length 0 0 1, [⟨[.i to], 0, true, 1⟩], .inr (by simp [succsF]), fun k => det (cw83 ?_) k⟩
    unfold vf83c
    simp [q1, q3, putAt]
    exact hg2 _ _ _ (by simp [flatC]) _
  · by_cases h2 : kind = 2
    · subst h2
      by_cases h3 : to = els
      · subst h3
        refine ⟨.sl H.length 0 0 1, [⟨[.i to], 0, true, 1⟩], .inr (by simp [succsF]), fun k => det (cw83 ?_) k⟩
        unfold vf83c
        simp [q1, q3, putAt]
        exact hg2 _ _ _ (by simp [flatC]) _
      · refine ⟨.sl H.length 0 0 2, [⟨[.i to, .i els], 0, true, 1⟩], .inr (by simp [succsF, h3]), fun k => det (cw83 ?_) k⟩
        unfold vf83c
        simp [q1, q3, putAt, h3]
        exact hg2 _ _ _ (by simp [flatC]) _
    · refine ⟨.ns, [], .inl (by simp [succsF, h1, h2]), fun k => det (cw83 ?_) k⟩
      unfold vf83c
      simp [q1, q3, putAt, h1, h2]
theorem specSuccs {H : Hp} {v : CV} {bs : List BlkR} {m : Int} (hv : Blocks H v bs) {b : Nat} (hb : b < bs.length) :
    ∃ w L, RowRes H w L (succsF bs[b].term) ∧ ∀ k : IV × Hp → Prop, CM 126 [.agg [v, .i m], .c (.i b)] H k = k (.c w, H ++ L) := by
  obtain ⟨id, g, off, w, u, q1, q2, q3, hw, hu, hb1, hb2, q4, q5⟩ := hv.get hb
  generalize bs[b].term = t at q2 q3 ⊢
  obtain ⟨kind, a, to, els⟩ := t
  have hg : ∀ (A : Hp) (cs : List CV), cs.all flatC = true → ∀ n, gcRet H (.c (.sl (H.length + A.length) 0 0 n)) (H ++ (A ++ [⟨cs, 0, true, 1⟩])) = (.c (.sl H.length 0 0 n), H ++ [⟨cs, 0, true, 1⟩]) :=
    fun A cs h n => gc_row H (A ++ [⟨cs, 0, true, 1⟩]) (k := A.length) (o := ⟨cs, 0, true, 1⟩) (by have := rdOb_r0 A [⟨cs, 0, true, 1⟩] 0; rw [this]; simp) rfl h
  have hg2 := fun (a b : Ob) (cs : List CV) (h : cs.all flatC = true) n => hg [a, b] cs h n
  simp only [List.length_cons, List.length_nil, Nat.zero_add, Nat.reduceAdd, List.cons_append, List.nil_append] at hg2
  by_cases h1 : kind = 1
  · subst h1
    refine ⟨.sl H.length 0 0 1, [⟨[.i to], 0, true, 1⟩], .inr (by simp [succsF]), fun k => det (cw126 ?_) k⟩
    unfold vf126c
    simp [q1, q3, putAt]
    exact hg2 _ _ _ (by simp [flatC]) _
  · by_cases h2 : kind = 2
    · subst h2
      by_cases h3 : to = els
      · subst h3
        refine ⟨.sl H.length 0 0 1, [⟨[.i to], 0, true, 1⟩], .inr (by simp [succsF]), fun k => det (cw126 ?_) k⟩
        unfold vf126c
        simp [q1, q3, putAt]
        exact hg2 _ _ _ (by simp [flatC]) _
      · refine ⟨.sl H.length 0 0 2, [⟨[.i to, .i els], 0, true, 1⟩], .inr (by simp [succsF, h3]), fun k => det (cw126 ?_) k⟩
        unfold vf126c
        simp [q1, q3, putAt, h3]
        exact hg2 _ _ _ (by simp [flatC]) _
    · refine ⟨.sl H.length 0 0 0, [⟨[], 0, true, 1⟩], .inr (by simp [succsF, h1, h2]), fun k => det (cw126 ?_) k⟩
      unfold vf126c
      simp [q1, q3, putAt, h1, h2]
      exact hg2 _ _ [] (by simp) 0
def succsAt (bs : List BlkR) (j : Nat) : List Int := match bs[j]? with
  | some b => succsF b.term
  | none => []
theorem succsAt_eq {bs : List BlkR} {j : Nat} (hj : j < bs.length) : succsAt bs j = succsF bs[j].term := by unfold succsAt; rw [List.getElem?_eq_getElem hj]
def predsTo (bs : List BlkR) (b : Int) (n : Nat) : List Int := ((List.range n).filter fun j => hasI (succsAt bs j) b).map fun (j : Nat) => (j : Int)
def predsF (bs : List BlkR) (b : Int) : List Int := predsTo bs b bs.length
theorem predsTo_le (bs : List BlkR) (b : Int) (n : Nat) : (predsTo bs b n).length ≤ n := by
  unfold predsTo
  rw [List.length_map]
  exact Nat.le_trans (List.length_filter_le _ _) (by simp)
theorem predsTo_succ (bs : List BlkR) (b : Int) (n : Nat) : predsTo bs b (n + 1) = if hasI (succsAt bs n) b = true then predsTo bs b n ++ [(n : Int)] else predsTo bs b n := by
  unfold predsTo
  rw [List.range_succ, List.filter_append, List.map_append]
  by_cases h : hasI (succsAt bs n) b = true <;> simp [h]
theorem box_get {H X : Hp} {cs : List CV} {sz : Nat} (hp : Pre (H ++ [⟨cs, 0, true, sz⟩]) X) : rdOb X H.length 0 = some ⟨cs, 0, true, sz⟩ := by
  obtain ⟨L, rfl⟩ := hp
  simp
theorem implPreds {H : Hp} {v : CV} {bs : List BlkR} {m b : Int} (hv : Blocks H v bs) (hb : bs.length ≤ BIG) :
    ∃ w L, RowRes H w L (predsF bs b) ∧ ∀ k : IV × Hp → Prop, CM 84 [.agg [v, .i m], .c (.i b)] H k = k (.c w, H ++ L) := by
  refine ⟨.sl H.length 0 0 (predsF bs b).length, [⟨(predsF bs b).map .i, 0, true, 1⟩], .inr ⟨rfl, rfl⟩, fun k => det (cw84 ?_) k⟩
  unfold vf84c
  simp [hv.lenOf, (hv.app _).lenOf]
  obtain ⟨I, hI⟩ : ∃ I : Nat → St → Prop, ∀ i s, I i s ↔ (∃ g, Pre (H ++ [⟨[v, .i m], 0, true, 2⟩]) s.h ∧ rdOb s.h (H.length + 1) g = some ⟨(predsTo bs b i).map .i, g, true, 1⟩ ∧ Env.get s.e 1 = .c (.i b) ∧ Env.get s.e 2 = .c (.p H.length 0 0) ∧
    Env.get s.e 5 = .c (.sl (H.length + 1) g 0 (predsTo bs b i).length) ∧ Env.get s.e 10 = .c (.i bs.length) ∧ Env.get s.e 11 = .c (.i i)) := ⟨_, fun _ _ => Iff.rfl⟩
  refine wp_for CM_mono bs.length I ((hI _ _).2 ⟨0, ⟨[⟨[], 0, true, 1⟩], by simp⟩, by simp [predsTo]⟩) ?_ ?_
  · rintro i ⟨e, X⟩ hi hIs
    obtain ⟨g, hp, ho, h1, h2, h5, h10, h11⟩ := (hI _ _).1 hIs
    simp only at hp ho h1 h2 h5 h10 h11 ⊢
    have hbox := box_get hp
    have hvX : Blocks X v bs := hv.pre (Pre.trans ⟨_, rfl⟩ hp)
    obtain ⟨w, L, hw, hcall⟩ := implSuccs (m := m) hvX hi
    have hsm := succsF_le bs[i].term
    have hle := predsTo_le bs b i
    have hsu := predsTo_succ bs b i
    rw [succsAt_eq hi] at hsu
    unfold vf84b0
    cases hc : hasI (succsF bs[i].term) b with
    | false =>
      rw [hc] at hsu
      simp [h1, h2, h5, h10, h11, hi, rdN_ob hbox, rdC_ob hbox, hvX.lenOf, hcall, containsInt hw.isI (by simp only [BIG]; omega), hc, up1 hi hb]
      exact (hI _ _).2 ⟨g, hp.app _, by simpa [hsu] using rdOb_app L ho, by simp [hsu]⟩
    | true =>
      rw [hc] at hsu
      simp [h1, h2, h5, h10, h11, hi, rdN_ob hbox, rdC_ob hbox, hvX.lenOf, hcall, containsInt hw.isI (by simp only [BIG]; omega), hc, up1 hi hb, srcOf, putAt]
      rw [app_own (cs := (predsTo bs b i).map .i) (rdOb_app _ ho) (by simp) (by simp) (by simp; simp only [BIG] at hb; simp only [LIM]; omega)]
      simp [h1, h2, h5, h10, h11, hi, up1 hi hb]
      have hlt := rdOb_lt ho
      refine (hI _ _).2 ⟨g + 1, (hp.app _).set (by simp) _, ?_, by simp [hsu]⟩
      rw [rdOb_set_self (by simp; omega)]
      simp [hsu]
  · rintro ⟨e, X⟩ hIs
    obtain ⟨g, hp, ho, h1, h2, h5, h10, h11⟩ := (hI _ _).1 hIs
    simp only at hp ho h1 h2 h5 h10 h11 ⊢
    have hbox := box_get hp
    have hvX : Blocks X v bs := hv.pre (Pre.trans ⟨_, rfl⟩ hp)
    unfold vf84b0
    simp [h1, h2, h5, h10, h11, rdN_ob hbox, rdC_ob hbox, hvX.lenOf]
    rw [gcRet_row (Pre.trans ⟨_, rfl⟩ hp) (by omega) ho rfl (by simp [flatC])]
    simp [predsF]
theorem specPreds {H : Hp} {v : CV} {bs : List BlkR} {m b : Int} (hv : Blocks H v bs) (hb : bs.length ≤ BIG) :
    ∃ w L, RowRes H w L (predsF bs b) ∧ ∀ k : IV × Hp → Prop, CM 95 [.agg [v, .i m], .c (.i b)] H k = k (.c w, H ++ L) := by
  refine ⟨.sl H.length 0 0 (predsF bs b).length, [⟨(predsF bs b).map .i, 0, true, 1⟩], .inr ⟨rfl, rfl⟩, fun k => det (cw95 ?_) k⟩
  unfold vf95c
  simp [hv.lenOf, (hv.app _).lenOf]
  obtain ⟨I, hI⟩ : ∃ I : Nat → St → Prop, ∀ i s, I i s ↔ (∃ g, Pre (H ++ [⟨[v, .i m], 0, true, 2⟩]) s.h ∧ rdOb s.h (H.length + 1) g = some ⟨(predsTo bs b i).map .i, g, true, 1⟩ ∧ Env.get s.e 1 = .c (.i b) ∧ Env.get s.e 2 = .c (.p H.length 0 0) ∧
    Env.get s.e 5 = .c (.sl (H.length + 1) g 0 (predsTo bs b i).length) ∧ Env.get s.e 6 = .c (.i i)) := ⟨_, fun _ _ => Iff.rfl⟩
  refine wp_for CM_mono bs.length I ((hI _ _).2 ⟨0, ⟨[⟨[], 0, true, 1⟩], by simp⟩, by simp [predsTo]⟩) ?_ ?_
  · rintro i ⟨e, X⟩ hi hIs
    obtain ⟨g, hp, ho, h1, h2, h5, h6⟩ := (hI _ _).1 hIs
    simp only at hp ho h1 h2 h5 h6 ⊢
    have hbox := box_get hp
    have hvX : Blocks X v bs := hv.pre (Pre.trans ⟨_, rfl⟩ hp)
    obtain ⟨w, L, hw, hcall⟩ := specSuccs (m := m) hvX hi
    have hsm := succsF_le bs[i].term
    have hle := predsTo_le bs b i
    have hsu := predsTo_succ bs b i
    rw [succsAt_eq hi] at hsu
    unfold vf95b0
    cases hc : hasI (succsF bs[i].term) b with
    | false =>
      rw [hc] at hsu
      simp [h1, h2, h5, h6, hi, rdN_ob hbox, rdC_ob hbox, hvX.lenOf, hcall, l3Has_call hw.isI (by simp only [BIG]; omega), hc, up1 hi hb]
      exact (hI _ _).2 ⟨g, hp.app _, by simpa [hsu] using rdOb_app L ho, by simp [hsu]⟩
    | true =>
      rw [hc] at hsu
      simp [h1, h2, h5, h6, hi, rdN_ob hbox, rdC_ob hbox, hvX.lenOf, hcall, l3Has_call hw.isI (by simp only [BIG]; omega), hc, up1 hi hb, srcOf, putAt]
      rw [app_own (cs := (predsTo bs b i).map .i) (rdOb_app _ ho) (by simp) (by simp) (by simp; simp only [BIG] at hb; simp only [LIM]; omega)]
      simp [h1, h2, h5, h6, hi, up1 hi hb]
      have hlt := rdOb_lt ho
      refine (hI _ _).2 ⟨g + 1, (hp.app _).set (by simp) _, ?_, by simp [hsu]⟩
      rw [rdOb_set_self (by simp; omega)]
      simp [hsu]
  · rintro ⟨e, X⟩ hIs
    obtain ⟨g, hp, ho, h1, h2, h5, h6⟩ := (hI _ _).1 hIs
    simp only at hp ho h1 h2 h5 h6 ⊢
    have hbox := box_get hp
    have hvX : Blocks X v bs := hv.pre (Pre.trans ⟨_, rfl⟩ hp)
    unfold vf95b0
    simp [h1, h2, h5, h6, rdN_ob hbox, rdC_ob hbox, hvX.lenOf]
    rw [gcRet_row (Pre.trans ⟨_, rfl⟩ hp) (by omega) ho rfl (by simp [flatC])]
    simp [predsF]
end Go.Proofs.YtgdfgnppeekfjaaGreat.Vm
end
section
/- What a program costs, where a value is made. No conditions. -/
namespace Go.Proofs.YtgdfgnppeekfjaaGreat.Vm
open Go.RowKit (wrap64)
set_option linter.unusedSimpArgs false
set_option linter.unusedVariables false
/-! ### Cost -/
/-! ### No phis -/
/-! ### Where a value is made -/
def makesF (op : Int) : Bool := wordOk op || decide (op = 20) || decide (op = 21) || decide (op = 24) || decide (op = 25)
theorem hasD (op : Int) : hasF op 68 = makesF op := by
  unfold makesF
  rcases has_tab op with h | h | h | h | h | h | h
  · rw [h.1, h.2.1]; rfl
  · obtain ⟨rfl, h⟩ := h; rw [h.1]; decide
  · obtain ⟨rfl | rfl, h⟩ := h <;> (rw [h.1]; decide)
  · obtain ⟨rfl, h⟩ := h; rw [h.1]; decide
  · obtain ⟨rfl, h⟩ := h; rw [h.1]; decide
  · obtain ⟨rfl, h⟩ := h; rw [h.1]; decide
  · obtain ⟨h0, e1, e2, e3, e4, e5, e6, h1, _⟩ := h; simp [h0, e1, e2, e3, e6, h1]
def insDefF (x : InsR) : Int := if makesF x.op = true then x.d else -1
theorem l2Makes_call (H : Hp) (op : Int) (k : IV × Hp → Prop) : CM 181 [.c (.i op)] H k = k (.c (.b (makesF op)), H) := by
  refine det (cw181 ?_) k
  unfold vf181c makesF
  cases hw : wordOk op with
  | true => simp [specWordOk, hw]
  | false => simp [specWordOk, hw]; repeat' first | (refine cnd_of (fun hc => ?_) (fun hc => ?_) <;> simp [hc, hw]) | (refine grd_t (fun hc => ?_) (fun hc => ?_) <;> simp [hc, hw]) | (refine grd_f (fun hc => ?_) (fun hc => ?_) <;> simp [hc, hw])
theorem implInsDef (H : Hp) (x : InsR) (k : IV × Hp → Prop) : CM 33 [.agg [.i x.op, .i x.d, .i x.a, .i x.b, .i x.n]] H k = k (.c (.i (insDefF x)), H) := by
  refine det (cw33 ?_) k
  unfold vf33c insDefF
  cases h : makesF x.op <;> simp [has_call, hasD, h]
theorem specInsDef (H : Hp) (x : InsR) (k : IV × Hp → Prop) : CM 121 [.agg [.i x.op, .i x.d, .i x.a, .i x.b, .i x.n]] H k = k (.c (.i (insDefF x)), H) := by
  refine det (cw121 ?_) k
  unfold vf121c insDefF
  cases h : makesF x.op <;> simp [l2Makes_call, h]
def madeAt (v : Int) (x : InsR) : Bool := makesF x.op && decide (x.d = v)
def defBlk (b : BlkR) (v : Int) : Option Int := if b.phis.any (fun p => decide (p.d = v)) = true then some (-1) else if 0 ≤ findI (madeAt v) b.list then some (findI (madeAt v) b.list) else none
def defGo (v : Int) : List BlkR → Nat → Int × Int
  | [], _ => (-1, -2)
  | b :: r, j => match defBlk b v with
    | some p => (j, p)
    | none => defGo v r (j + 1)
def defAtF (f : FnR) (v : Int) : Int × Int := if shapeB f = true then defGo v f.blocks 0 else (-1, -2)
theorem def1 {H : Hp} {id g : Nat} {v : Int} (h : rdC H id g 0 = some (.i v)) (d : Int) (w : CV) (k : IV × Hp → Prop) : CM 100 [.agg [.i d, w], .c (.p id g 0)] H k = k (.c (.b (decide (d = v))), H) := by
  refine det (cw100 ?_) k
  unfold vf100c
  simp [rdC_app h]
theorem def2 {H : Hp} {id g : Nat} {v : Int} (h : rdC H id g 0 = some (.i v)) (x : InsR) (k : IV × Hp → Prop) : CM 102 [.agg [.i x.op, .i x.d, .i x.a, .i x.b, .i x.n], .c (.p id g 0)] H k = k (.c (.b (madeAt v x)), H) := by
  refine det (cw102 ?_) k
  unfold vf102c madeAt
  cases hm : makesF x.op <;> simp [rdC_app h, has_call, hasD, hm]
theorem gc_ints (H L : Hp) (a b : Int) : gcRet H (.tup [(false, [.i a]), (false, [.i b])]) (H ++ L) = (.tup [(false, [.i a]), (false, [.i b])], H) := gc_flat H L rfl
theorem implDefAt {H : Hp} {w : CV} {f : FnR} {v : Int} (hv : Blocks H w f.blocks) (hb : f.blocks.length ≤ BIG) (k : IV × Hp → Prop) :
    CM 31 [.agg [w, .i f.values], .c (.i v)] H k = k (.tup [(false, [.i (defAtF f v).1]), (false, [.i (defAtF f v).2])], H) := by
  refine det (cw31 ?_) k
  unfold vf31c defAtF
  cases hsh : shapeB f with
  | false => simp [implShape (hv.app _) hb, hsh, gc_ints]
  | true =>
    obtain ⟨bs, m⟩ := f
    simp only at hv hb ⊢
    simp [implShape (f := ⟨bs, m⟩) (hv.app _) hb, hsh, hv.lenOf]
    obtain ⟨I, hI⟩ : ∃ I : Nat → St → Prop, ∀ i s, I i s ↔ (Pre (H ++ [⟨[w, .i m], 0, true, 2⟩, ⟨[.i v], 0, true, 1⟩]) s.h ∧ defGo v bs 0 = defGo v (bs.drop i) i ∧ Env.get s.e 3 = .c (.p (H.length + 1) 0 0) ∧ Env.get s.e 13 = .c w ∧ Env.get s.e 14 = .c (.i bs.length) ∧ Env.get s.e 15 = .c (.i i)) := ⟨_, fun _ _ => Iff.rfl⟩
    refine wp_for CM_mono bs.length I ((hI _ _).2 ⟨Pre.refl _, by simp⟩) ?_ ?_
    · rintro i ⟨e, X⟩ hi hIs
      obtain ⟨⟨L, hX⟩, hd, h3, h13, h14, h15⟩ := (hI _ _).1 hIs
      simp only at hX h3 h13 h14 h15 ⊢
      simp only [List.append_assoc, List.cons_append, List.nil_append] at hX
      subst hX
      obtain ⟨id, g, off, z, u, q1, q2, q3, hw, hu, hb1, hb2, q4, q5⟩ := hv.get hi
      rw [List.drop_eq_getElem_cons hi] at hd
      simp only [defGo] at hd
      unfold vf31b0
      simp [h3, h13, h14, h15, hi, q1, q3, putAt]
      rw [containsPhi (hw.app _) hb1 (fun p => decide (p.d = v)) (fun i hi cs hP k => by
        obtain ⟨z, rfl, _, _⟩ := hP
        exact def1 (by simp) _ _ k)]
      cases hph : bs[i].phis.any (fun p => decide (p.d = v)) with
      | true =>
        have : defBlk bs[i] v = some (-1) := by unfold defBlk; rw [if_pos hph]
        rw [this] at hd
        simp [hd, gc_ints]
      | false =>
        simp [h3, h13, h14, h15]
        rw [indexIns (hu.app _) hb2 (madeAt v) (fun i hi cs hP k => by
          have hP : cs = insC _ := hP
          subst hP
          exact def2 (by simp) _ k)]
        by_cases hf : 0 ≤ findI (madeAt v) bs[i].list
        · have : defBlk bs[i] v = some (findI (madeAt v) bs[i].list) := by unfold defBlk; rw [hph, if_neg (by simp), if_pos hf]
          rw [this] at hd
          simp [hd, hf, gc_ints]
        · have : defBlk bs[i] v = none := by unfold defBlk; rw [hph, if_neg (by simp), if_neg hf]
          rw [this] at hd
          simp [h3, h13, h14, h15, hf, up1 hi hb]
          exact (hI _ _).2 ⟨⟨L ++ [⟨[z, u, .i bs[i].term.kind, .i bs[i].term.a, .i bs[i].term.to, .i bs[i].term.els], 0, true, 6⟩], by simp⟩, hd, by simp⟩
    · rintro ⟨e, X⟩ hIs
      obtain ⟨⟨L, hX⟩, hd, h3, h13, h14, h15⟩ := (hI _ _).1 hIs
      simp only at hX h3 h13 h14 h15 ⊢
      simp only [List.append_assoc, List.cons_append, List.nil_append] at hX
      subst hX
      rw [List.drop_length] at hd
      simp only [defGo] at hd
      unfold vf31b0
      simp [h3, h13, h14, h15, hd, gc_ints]
end Go.Proofs.YtgdfgnppeekfjaaGreat.Vm
end
section
/- Where a value is made, as the reference says it. No conditions. -/
namespace Go.Proofs.YtgdfgnppeekfjaaGreat.Vm
open Go.RowKit (wrap64)
set_option linter.unusedSimpArgs false
set_option linter.unusedVariables false
theorem shape_ins {f : FnR} (h : shapeB f = true) {b : BlkR} (hb : b ∈ f.blocks) {x : InsR} (hx : x ∈ b.list) : insB x f.values = true := by
  unfold shapeB at h
  simp only [Bool.and_eq_true, List.all_eq_true] at h
  have := h.2 b hb
  unfold blkB at this
  simp only [Bool.and_eq_true, List.all_eq_true] at this
  exact this.2 x hx
theorem shape_phi {f : FnR} (h : shapeB f = true) {b : BlkR} (hb : b ∈ f.blocks) {p : PhiR} (hp : p ∈ b.phis) : phiB f.blocks.length f.values p = true := by
  unfold shapeB at h
  simp only [Bool.and_eq_true, List.all_eq_true] at h
  have := h.2 b hb
  unfold blkB at this
  simp only [Bool.and_eq_true, List.all_eq_true] at this
  exact this.1.2 p hp
theorem shape_term {f : FnR} (h : shapeB f = true) {b : BlkR} (hb : b ∈ f.blocks) : termB b.term f.blocks.length f.values = true := by
  unfold shapeB at h
  simp only [Bool.and_eq_true, List.all_eq_true] at h
  have := h.2 b hb
  unfold blkB at this
  simp only [Bool.and_eq_true, List.all_eq_true] at this
  exact this.1.1.2
theorem shape_len {f : FnR} (h : shapeB f = true) : 1 ≤ f.blocks.length ∧ f.blocks.length ≤ 16 ∧ 0 ≤ f.values ∧ f.values ≤ 80 := by
  unfold shapeB inB at h
  simp only [Bool.and_eq_true, decide_eq_true_eq] at h
  omega
theorem shape_lens {f : FnR} (h : shapeB f = true) {b : BlkR} (hb : b ∈ f.blocks) : b.phis.length ≤ 24 ∧ b.list.length ≤ 24 := by
  unfold shapeB at h
  simp only [Bool.and_eq_true, List.all_eq_true] at h
  have := h.2 b hb
  unfold blkB at this
  simp only [Bool.and_eq_true, decide_eq_true_eq] at this
  exact ⟨this.1.1.1.1, this.1.1.1.2⟩
theorem insB_d {x : InsR} {m : Int} (h : insB x m = true) (hm : makesF x.op = true) : 0 ≤ x.d ∧ x.d < m := by
  unfold insB at h
  unfold makesF at hm
  have hv : ∀ {v : Int}, valB v m = true → 0 ≤ v ∧ v < m := fun h => of_decide_eq_true h
  split at h
  · simp only [Bool.and_eq_true] at h; exact hv h.1.1.1
  · split at h
    · simp only [Bool.and_eq_true] at h; exact hv h.1.1
    · split at h
      · simp only [Bool.and_eq_true] at h; exact hv h.1.1.1
      · split at h
        · rename_i h1 h2 h3 h4
          rw [h4] at hm h1
          simp at hm
          exact (h1 hm).elim
        · split at h
          · rename_i h1 h2 h3 h4 h5
            rw [h5] at hm h1
            simp at hm
            exact (h1 hm).elim
          · split at h
            · simp only [Bool.and_eq_true] at h; exact hv h.1.1.1
            · cases h
def specMade (v : Int) (x : InsR) : Bool := decide (0 ≤ v) && decide (insDefF x = v)
theorem specMade_eq {v : Int} {x : InsR} (h : makesF x.op = true → 0 ≤ x.d) : specMade v x = madeAt v x := by
  unfold specMade madeAt insDefF
  cases hm : makesF x.op with
  | true =>
    have := h hm
    by_cases hv : x.d = v
    · have : 0 ≤ v := by omega
      simp [hv, this]
    · simp [hv]
  | false =>
    simp
    omega
theorem specDefAt {H : Hp} {w : CV} {bs : List BlkR} {m v : Int} (hv : Blocks H w bs) (hb : bs.length ≤ BIG) (hd : ∀ b ∈ bs, ∀ x ∈ b.list, makesF x.op = true → 0 ≤ x.d) (k : IV × Hp → Prop) :
    CM 206 [.agg [w, .i m], .c (.i v)] H k = k (.tup [(false, [.i (defGo v bs 0).1]), (false, [.i (defGo v bs 0).2])], H) := by
  refine det (cw206 ?_) k
  unfold vf206c
  simp
  refine wp_for CM_mono bs.length (fun i s => s.h = H ++ [⟨[w, .i m], 0, true, 2⟩] ∧ defGo v bs 0 = defGo v (bs.drop i) i ∧ Env.get s.e 1 = .c (.i v) ∧ Env.get s.e 2 = .c (.p H.length 0 0) ∧ Env.get s.e 6 = .c (.i i)) (by simp) ?_ ?_
  · rintro i ⟨e, X⟩ hi ⟨rfl, hg, h1, h2, h6⟩
    simp only at h1 h2 h6 ⊢
    obtain ⟨id, g, off, z, u, q1, q2, q3, hw, hu, hb1, hb2, q4, q5⟩ := hv.get hi
    rw [List.drop_eq_getElem_cons hi] at hg
    simp only [defGo] at hg
    unfold vf206b2
    simp [h1, h2, h6, hv.lenOf, hi]
    refine wp_for CM_mono bs[i].phis.length (fun j s => s.h = H ++ [⟨[w, .i m], 0, true, 2⟩] ∧ (∀ l (hl : l < j) (hx : l < bs[i].phis.length), ¬ bs[i].phis[l].d = v) ∧ Env.get s.e 1 = .c (.i v) ∧ Env.get s.e 2 = .c (.p H.length 0 0) ∧ Env.get s.e 6 = .c (.i i) ∧ Env.get s.e 7 = .c (.i j)) (by simp) ?_ ?_
    · rintro j ⟨e', X'⟩ hj ⟨rfl, ht, h1, h2, h6, h7⟩
      simp only at h1 h2 h6 h7 ⊢
      obtain ⟨id', g', off', z', r1, r2, r3, hz, hbz, r4, r5⟩ := hw.get hj
      unfold vf206b0
      by_cases hp : bs[i].phis[j].d = v
      · have : defBlk bs[i] v = some (-1) := by
          unfold defBlk
          rw [if_pos (List.any_eq_true.2 ⟨_, List.getElem_mem hj, decide_eq_true hp⟩)]
        rw [this] at hg
        simp [h1, h2, h6, h7, q1, q3, hw.lenOf, hj, r1, r3, hp, hg, gc_ints]
      · simp [h1, h2, h6, h7, q1, q3, hw.lenOf, hj, r1, r3, hp, up1 hj hb1]
        intro l hl hx
        by_cases el : l = j
        · subst el; exact hp
        · exact ht l (by omega) hx
    · rintro ⟨e', X'⟩ ⟨rfl, ht, h1, h2, h6, h7⟩
      simp only at h1 h2 h6 h7 ⊢
      have hph : bs[i].phis.any (fun p => decide (p.d = v)) = false := by
        rw [List.any_eq_false]
        intro p hp
        obtain ⟨l, hl, rfl⟩ := List.getElem_of_mem hp
        simpa using ht l hl hl
      unfold vf206b0
      simp [h1, h2, h6, h7, q1, q3, hw.lenOf]
      refine wp_for CM_mono bs[i].list.length (fun j s => s.h = H ++ [⟨[w, .i m], 0, true, 2⟩] ∧ (∀ l (hl : l < j) (hx : l < bs[i].list.length), madeAt v bs[i].list[l] = false) ∧ Env.get s.e 1 = .c (.i v) ∧ Env.get s.e 2 = .c (.p H.length 0 0) ∧ Env.get s.e 6 = .c (.i i) ∧ Env.get s.e 8 = .c (.i j)) (by simp [h1, h2, h6]) ?_ ?_
      · rintro j ⟨e', X'⟩ hj ⟨rfl, ht2, h1, h2, h6, h8⟩
        simp only at h1 h2 h6 h8 ⊢
        obtain ⟨id', g', off', r1, r2, r3, r4, r5⟩ := hu.get hj
        have hm := specMade_eq (v := v) (hd _ (List.getElem_mem hi) _ (List.getElem_mem hj))
        unfold specMade at hm
        unfold vf206b1
        cases hmade : madeAt v bs[i].list[j] with
        | true =>
          rw [hmade] at hm
          simp only [Bool.and_eq_true, decide_eq_true_eq] at hm
          have hf := findI_some hj (p := madeAt v) (fun l hl => ht2 l hl (by omega)) hmade
          have : defBlk bs[i] v = some (j : Int) := by
            unfold defBlk
            rw [hph, if_neg (by simp), hf, if_pos (by omega)]
          rw [this] at hg
          simp [h1, h2, h6, h8, q1, q3, hu.lenOf, hj, r1, r3, hm.1, hm.2, specInsDef, hg, gc_ints]
        | false =>
          rw [hmade] at hm
          have step : ∀ l (hl : l < j + 1) (hx : l < bs[i].list.length), madeAt v bs[i].list[l] = false := by
            intro l hl hx
            by_cases el : l = j
            · subst el; exact hmade
            · exact ht2 l (by omega) hx
          by_cases hv0 : 0 ≤ v
          · have hne : ¬ insDefF bs[i].list[j] = v := by simpa [hv0] using hm
            simp [h1, h2, h6, h8, q1, q3, hu.lenOf, hj, r1, r3, hv0, hne, specInsDef, up1 hj hb2]
            exact step
          · simp [h1, h2, h6, h8, q1, q3, hu.lenOf, hj, r1, r3, hv0, specInsDef, up1 hj hb2]
            exact step
      · rintro ⟨e', X'⟩ ⟨rfl, ht2, h1, h2, h6, h8⟩
        simp only at h1 h2 h6 h8 ⊢
        have hf := findI_none (p := madeAt v) (fun l hl => ht2 l hl hl)
        have : defBlk bs[i] v = none := by
          unfold defBlk
          rw [hph, if_neg (by simp), hf, if_neg (by decide)]
        rw [this] at hg
        unfold vf206b1
        simp [h1, h2, h6, h8, q1, q3, hu.lenOf, up1 hi hb, hg]
  · rintro ⟨e, X⟩ ⟨rfl, hg, h1, h2, h6⟩
    simp only at h1 h2 h6 ⊢
    rw [List.drop_length] at hg
    simp only [defGo] at hg
    unfold vf206b2
    simp [h1, h2, h6, hv.lenOf, hg, gc_ints]
end Go.Proofs.YtgdfgnppeekfjaaGreat.Vm
end
section
/- What the laws ask of both sides: plain programs, where a value is made, who follows. No conditions. -/
namespace Go.Proofs.YtgdfgnppeekfjaaGreat.Vm
open Go.RowKit (wrap64)
set_option linter.unusedSimpArgs false
set_option linter.unusedVariables false
end Go.Proofs.YtgdfgnppeekfjaaGreat.Vm
end
section
/- Marks: each number of a copy is written over. Nothing else is touched. No conditions. -/
namespace Go.Proofs.YtgdfgnppeekfjaaGreat.Vm
open Go.RowKit (wrap64)
set_option linter.unusedSimpArgs false
set_option linter.unusedVariables false
def SimC (a b : CV) : Prop := a = b ∨ ((∃ x, a = .i x) ∧ ∃ y, b = .i y)
theorem SimC.refl (a : CV) : SimC a a := .inl rfl
theorem SimC.trans {a b c : CV} (h : SimC a b) (k : SimC b c) : SimC a c := by
  rcases h with rfl | ⟨h1, h2⟩
  · exact k
  · rcases k with rfl | ⟨_, k2⟩
    · exact .inr ⟨h1, h2⟩
    · exact .inr ⟨h1, k2⟩
theorem SimC.int {x : Int} {b : CV} (h : SimC (.i x) b) : ∃ y, b = .i y := by
  rcases h with rfl | ⟨_, h⟩
  · exact ⟨x, rfl⟩
  · exact h
theorem SimC.sl {id g o n : Nat} {b : CV} (h : SimC (.sl id g o n) b) : b = .sl id g o n := by
  rcases h with rfl | ⟨⟨x, h⟩, _⟩
  · rfl
  · cases h
def SimsC (us bs : List CV) : Prop := us.length = bs.length ∧ ∀ (j : Nat) (a b : CV), us[j]? = some a → bs[j]? = some b → SimC a b
theorem SimsC.refl (us : List CV) : SimsC us us := ⟨rfl, fun j a b h k => by rw [h] at k; cases k; exact SimC.refl _⟩
theorem SimsC.trans {us bs cs : List CV} (h : SimsC us bs) (k : SimsC bs cs) : SimsC us cs := by
  refine ⟨h.1.trans k.1, fun j a c ha hc => ?_⟩
  have hj : j < bs.length := by rw [k.1]; exact (List.getElem?_eq_some_iff.1 hc).1
  exact (h.2 j a _ ha (List.getElem?_eq_getElem hj)).trans (k.2 j _ c (List.getElem?_eq_getElem hj) hc)
theorem SimsC.part {us bs : List CV} (h : SimsC us bs) (o n : Nat) : SimsC ((us.drop o).take n) ((bs.drop o).take n) := by
  refine ⟨by simp [h.1], fun j a b ha hb => ?_⟩
  rw [List.getElem?_take] at ha hb
  by_cases hj : j < n
  · rw [if_pos hj, List.getElem?_drop] at ha hb
    exact h.2 _ _ _ ha hb
  · rw [if_neg hj] at ha; cases ha
theorem putAt_get {cs : List CV} {o : Nat} {x : CV} (h : o < cs.length) : putAt cs o [x] = cs.set o x := by
  simp [putAt, List.set_eq_take_append_cons_drop, h]
theorem SimsC.put {cs : List CV} {o : Nat} {y : Int} (h : cs[o]? = some (.i y)) (x : Int) : SimsC cs (putAt cs o [.i x]) := by
  have ho : o < cs.length := (List.getElem?_eq_some_iff.1 h).1
  rw [putAt_get ho]
  refine ⟨by simp, fun j a b ha hb => ?_⟩
  rw [List.getElem?_set] at hb
  split at hb
  · rename_i e
    subst e
    rw [h] at ha
    cases ha
    cases hb
    exact .inr ⟨⟨_, rfl⟩, _, rfl⟩
  · rw [ha] at hb; cases hb; exact SimC.refl _
/-- Only numbers have changed, and only within the bounds. -/
structure IntCh (lo hi : Nat) (Y Z : Hp) : Prop where
  len : Z.length = Y.length
  ob : ∀ id g o, rdOb Y id g = some o → ∃ cs, rdOb Z id g = some ⟨cs, o.g, o.rw, o.sz⟩ ∧ SimsC o.cells cs
  out : ∀ id g o, (id < lo ∨ hi ≤ id) → rdOb Y id g = some o → rdOb Z id g = some o
theorem IntCh.refl (lo hi : Nat) (Y : Hp) : IntCh lo hi Y Y := ⟨rfl, fun _ _ o h => ⟨o.cells, h, SimsC.refl _⟩, fun _ _ _ _ h => h⟩
theorem IntCh.trans {lo hi : Nat} {X Y Z : Hp} (h : IntCh lo hi X Y) (k : IntCh lo hi Y Z) : IntCh lo hi X Z := by
  refine ⟨k.len.trans h.len, fun id g o ho => ?_, fun id g o hl ho => k.out id g o hl (h.out id g o hl ho)⟩
  obtain ⟨cs, h1, h2⟩ := h.ob id g o ho
  obtain ⟨ds, h3, h4⟩ := k.ob id g _ h1
  exact ⟨ds, h3, h2.trans h4⟩
theorem IntCh.put {lo hi : Nat} {Y : Hp} {id g : Nat} {cs : List CV} {rw : Bool} {sz : Nat} {off : Nat} {y : Int} (h : rdOb Y id g = some ⟨cs, g, rw, sz⟩) (hc : cs[off]? = some (.i y)) (hl : lo ≤ id) (hh : id < hi) (x : Int) : IntCh lo hi Y (Y.set id ⟨putAt cs off [.i x], g, rw, sz⟩) := by
  have hlt := rdOb_lt h
  refine ⟨by simp, fun id' g' o ho => ?_, fun id' g' o hl' ho => ?_⟩
  · by_cases e : id' = id
    · subst e
      have e1 := (rdOb_some.1 h).1
      have e2 := (rdOb_some.1 ho).1
      rw [e1] at e2
      injection e2 with e2
      subst e2
      have e3 := (rdOb_some.1 ho).2
      simp only at e3
      subst e3
      exact ⟨putAt cs off [.i x], by rw [rdOb_set_self hlt]; simp, SimsC.put hc x⟩
    · exact ⟨o.cells, by rw [rdOb_set_ne e]; exact ho, SimsC.refl _⟩
  · rw [rdOb_set_ne (by omega)]; exact ho
def MRow (P : Hp → List CV → Prop) (sz lo hi : Nat) (Y : Hp) (v : CV) (n : Nat) : Prop :=
  ∃ (id : Nat) (cells : List CV), v = .sl id 0 0 n ∧ lo ≤ id ∧ id < hi ∧ rdOb Y id 0 = some ⟨cells, 0, true, sz⟩ ∧ cells.length = n * sz ∧ ∀ k, k < n → P Y ((cells.drop (k * sz)).take sz)
theorem MRow.ch {P : Hp → List CV → Prop} {sz lo hi : Nat} {Y Z : Hp} {v : CV} {n : Nat} (hP : ∀ us bs, SimsC us bs → P Y us → P Z bs) (hc : IntCh lo hi Y Z) (h : MRow P sz lo hi Y v n) : MRow P sz lo hi Z v n := by
  obtain ⟨id, cells, h1, h2, h3, h4, h5, h6⟩ := h
  obtain ⟨cs, k1, k2⟩ := hc.ob _ _ _ h4
  exact ⟨id, cs, h1, h2, h3, k1, by rw [← k2.1]; exact h5, fun k hk => hP _ _ (k2.part _ _) (h6 k hk)⟩
theorem MRow.lenOf {P : Hp → List CV → Prop} {sz lo hi : Nat} {Y : Hp} {v : CV} {n : Nat} (h : MRow P sz lo hi Y v n) : lenOf v = some n := by
  obtain ⟨id, _, rfl, _⟩ := h; rfl
theorem MRow.cell {P : Hp → List CV → Prop} {sz lo hi : Nat} {Y : Hp} {v : CV} {n : Nat} (h : MRow P sz lo hi Y v n) {k : Nat} (hk : k < n) (j : Nat) (hj : j < sz) (hP : ∀ cs, P Y cs → ∃ y, cs[j]? = some (.i y)) (x : Int) :
    ∃ (id : Nat) (cells : List CV) (Z : Hp), idxOf sz v (k : Int) = some (.p id 0 (k * sz)) ∧ rdOb Y id 0 = some ⟨cells, 0, true, sz⟩ ∧ k * sz + j + 1 ≤ cells.length ∧ Y.set id ⟨putAt cells (k * sz + j) [.i x], 0, true, sz⟩ = Z ∧ IntCh lo hi Y Z := by
  obtain ⟨id, cells, rfl, h2, h3, h4, h5, h6⟩ := h
  obtain ⟨y, hy⟩ := hP _ (h6 k hk)
  rw [List.getElem?_take, if_pos hj, List.getElem?_drop] at hy
  refine ⟨id, cells, _, by simp [idxOf, hk], h4, (List.getElem?_eq_some_iff.1 hy).1, rfl, IntCh.put h4 hy h2 h3 x⟩
theorem MRow.field {P : Hp → List CV → Prop} {sz lo hi : Nat} {Y : Hp} {v : CV} {n : Nat} (h : MRow P sz lo hi Y v n) {k : Nat} (hk : k < n) :
    ∃ (id : Nat) (cs : List CV), idxOf sz v (k : Int) = some (.p id 0 (k * sz)) ∧ P Y cs ∧ ∀ j c, j < sz → cs[j]? = some c → rdC Y id 0 (k * sz + j) = some c := by
  obtain ⟨id, cells, rfl, h2, h3, h4, h5, h6⟩ := h
  refine ⟨id, _, by simp [idxOf, hk], h6 k hk, fun j c hj hc => ?_⟩
  rw [List.getElem?_take, if_pos hj, List.getElem?_drop] at hc
  rw [rdC_ob h4]; exact hc
theorem gc_nolen {Y X : Hp} {r : IV} (hl : X.length = Y.length) (hf : flatV r = true) : gcRet Y r X = (r, X) := by
  unfold gcRet
  rw [List.take_of_length_le (by omega)]
  split
  · rename_i h; rw [h]
  · rfl
def armM (_ : Hp) (cs : List CV) : Prop := ∃ a b : Int, cs = [.i a, .i b]
def insM (_ : Hp) (cs : List CV) : Prop := ∃ a b c d e : Int, cs = [.i a, .i b, .i c, .i d, .i e]
def phiM (lo hi : Nat) (Y : Hp) (cs : List CV) : Prop := ∃ (a : Int) (z : CV) (n : Nat), cs = [.i a, z] ∧ MRow armM 2 lo hi Y z n ∧ n ≤ BIG
def blkM (lo hi : Nat) (Y : Hp) (cs : List CV) : Prop := ∃ (z u : CV) (n m : Nat) (a b c d : Int), cs = [z, u, .i a, .i b, .i c, .i d] ∧ MRow (phiM lo hi) 2 lo hi Y z n ∧ n ≤ BIG ∧ MRow insM 5 lo hi Y u m ∧ m ≤ BIG
theorem MRow.sim {P : Hp → List CV → Prop} {sz lo hi : Nat} {Y : Hp} {v w : CV} {n : Nat} (h : MRow P sz lo hi Y v n) (hs : SimC v w) : w = v := by
  obtain ⟨id, cells, rfl, _⟩ := h
  exact hs.sl
theorem armM.ch {Y Z : Hp} {us bs : List CV} (hs : SimsC us bs) (h : armM Y us) : armM Z bs := by
  obtain ⟨a, b, rfl⟩ := h
  obtain ⟨hl, hs⟩ := hs
  match bs, hl with
  | [x, y], _ =>
    obtain ⟨x', rfl⟩ := (hs 0 _ _ rfl rfl).int
    obtain ⟨y', rfl⟩ := (hs 1 _ _ rfl rfl).int
    exact ⟨_, _, rfl⟩
theorem insM.ch {Y Z : Hp} {us bs : List CV} (hs : SimsC us bs) (h : insM Y us) : insM Z bs := by
  obtain ⟨a, b, c, d, e, rfl⟩ := h
  obtain ⟨hl, hs⟩ := hs
  match bs, hl with
  | [x, y, z, u, w], _ =>
    obtain ⟨x', rfl⟩ := (hs 0 _ _ rfl rfl).int
    obtain ⟨y', rfl⟩ := (hs 1 _ _ rfl rfl).int
    obtain ⟨z', rfl⟩ := (hs 2 _ _ rfl rfl).int
    obtain ⟨u', rfl⟩ := (hs 3 _ _ rfl rfl).int
    obtain ⟨w', rfl⟩ := (hs 4 _ _ rfl rfl).int
    exact ⟨_, _, _, _, _, rfl⟩
theorem phiM.ch {lo hi : Nat} {Y Z : Hp} (hc : IntCh lo hi Y Z) {us bs : List CV} (hs : SimsC us bs) (h : phiM lo hi Y us) : phiM lo hi Z bs := by
  obtain ⟨a, z, n, rfl, h1, h2⟩ := h
  obtain ⟨hl, hs⟩ := hs
  match bs, hl with
  | [x, y], _ =>
    obtain ⟨x', rfl⟩ := (hs 0 _ _ rfl rfl).int
    obtain rfl := h1.sim (hs 1 _ _ rfl rfl)
    exact ⟨_, _, n, rfl, h1.ch (fun _ _ => armM.ch) hc, h2⟩
theorem blkM.ch {lo hi : Nat} {Y Z : Hp} (hc : IntCh lo hi Y Z) {us bs : List CV} (hs : SimsC us bs) (h : blkM lo hi Y us) : blkM lo hi Z bs := by
  obtain ⟨z, u, n, m, a, b, c, d, rfl, h1, h2, h3, h4⟩ := h
  obtain ⟨hl, hs⟩ := hs
  match bs, hl with
  | [z', u', x, y, p, q], _ =>
    obtain rfl := h1.sim (hs 0 _ _ rfl rfl)
    obtain rfl := h3.sim (hs 1 _ _ rfl rfl)
    obtain ⟨x', rfl⟩ := (hs 2 _ _ rfl rfl).int
    obtain ⟨y', rfl⟩ := (hs 3 _ _ rfl rfl).int
    obtain ⟨p', rfl⟩ := (hs 4 _ _ rfl rfl).int
    obtain ⟨q', rfl⟩ := (hs 5 _ _ rfl rfl).int
    exact ⟨_, _, n, m, _, _, _, _, rfl, h1.ch (fun _ _ => phiM.ch hc) hc, h2, h3.ch (fun _ _ => insM.ch) hc, h4⟩
def MRes (lo hi : Nat) (Y : Hp) (k : Int) (c : Nat) (r : IV × Hp) : Prop := ∃ m Z, r = (.c (.i m), Z) ∧ k ≤ m ∧ m ≤ k + c ∧ IntCh lo hi Y Z
theorem markArmS_weak {lo hi : Nat} {Y : Hp} {v : CV} {n : Nat} {k : Int} (hv : MRow (armM) 2 lo hi Y v n) (hn : n ≤ BIG) (hk : 0 ≤ k) (hk2 : k ≤ 4611686018427387904) : CM 217 [.c v, .c (.i k)] Y (MRes lo hi Y k (2 * n)) := by
  refine cw217 ?_
  unfold vf217c
  simp
  obtain ⟨I, hI⟩ : ∃ I : Nat → St → Prop, ∀ i s, I i s ↔ (∃ m : Int, k ≤ m ∧ m ≤ k + 2 * i ∧ IntCh lo hi Y s.h ∧ Env.get s.e 0 = .c v ∧ Env.get s.e 1 = .c (.i m) ∧ Env.get s.e 5 = .c (.i i)) := ⟨_, fun _ _ => Iff.rfl⟩
  refine wp_for CM_mono n I ((hI _ _).2 ⟨k, Int.le_refl _, by omega, IntCh.refl _ _ _, by simp⟩) ?_ ?_
  · rintro i ⟨e, X⟩ hi' hIs
    obtain ⟨m, hm1, hm2, hc, h0, h1, h5⟩ := (hI _ _).1 hIs
    simp only at hc h0 h1 h5 ⊢
    have hv0 := hv.ch (fun _ _ => armM.ch) hc
    have hni : 2 * i ≤ 2 * n := Nat.mul_le_mul_left _ (by omega)
    have hnb : 2 * n ≤ 2 * BIG := Nat.mul_le_mul_left _ hn
    simp only [BIG] at hni hnb hn
    unfold vf217b0
    obtain ⟨id0, cl0, Z0, hx0, ho0, hl0, hZ0, hc0⟩ := hv0.cell hi' 0 (by omega) (fun cs h => by obtain ⟨a, b, rfl⟩ := h; exact ⟨_, rfl⟩) (m)
    have hl0' := hl0
    try simp only [Nat.add_zero] at hl0' hZ0
    have hw0 : -9223372036854775808 ≤ (m : Int) + 1 ∧ (m : Int) + 1 ≤ 9223372036854775807 := by omega
    have hv1 := hv0.ch (fun _ _ => armM.ch) hc0
    simp [h0, h1, h5, hv0.lenOf, hi', hx0, ho0, hl0', hZ0, wrap64_id hw0]
    obtain ⟨id1, cl1, Z1, hx1, ho1, hl1, hZ1, hc1⟩ := hv1.cell hi' 1 (by omega) (fun cs h => by obtain ⟨a, b, rfl⟩ := h; exact ⟨_, rfl⟩) ((m + 1))
    have e1 : id1 = id0 := by have e := hx1.symm.trans hx0; injection e with e; injection e
    subst e1
    have hl1' := hl1
    try simp only [Nat.add_zero] at hl1' hZ1
    have hw1 : -9223372036854775808 ≤ ((m + 1) : Int) + 1 ∧ ((m + 1) : Int) + 1 ≤ 9223372036854775807 := by omega
    have hv2 := hv1.ch (fun _ _ => armM.ch) hc1
    simp [h0, h1, h5, hv0.lenOf, hi', hx1, ho1, hl1', hZ1, wrap64_id hw1]
    simp [h0, h1, h5, hv0.lenOf, hi', up1 hi' hn]
    exact (hI _ _).2 ⟨((m + 1) + 1), by omega, by omega, ((hc.trans hc0).trans hc1), by simp⟩
  · rintro ⟨e, X⟩ hIs
    obtain ⟨m, hm1, hm2, hc, h0, h1, h5⟩ := (hI _ _).1 hIs
    simp only at hc h0 h1 h5 ⊢
    unfold vf217b0
    simp [h0, h1, h5, hv.lenOf, gc_nolen hc.len (show flatV (.c (.i m)) = true from rfl)]
    exact ⟨m, X, rfl, hm1, hm2, hc⟩
theorem markInsS_weak {lo hi : Nat} {Y : Hp} {v : CV} {n : Nat} {k : Int} (hv : MRow (insM) 5 lo hi Y v n) (hn : n ≤ BIG) (hk : 0 ≤ k) (hk2 : k ≤ 4611686018427387904) : CM 170 [.c v, .c (.i k)] Y (MRes lo hi Y k (5 * n)) := by
  refine cw170 ?_
  unfold vf170c
  simp
  obtain ⟨I, hI⟩ : ∃ I : Nat → St → Prop, ∀ i s, I i s ↔ (∃ m : Int, k ≤ m ∧ m ≤ k + 5 * i ∧ IntCh lo hi Y s.h ∧ Env.get s.e 0 = .c v ∧ Env.get s.e 1 = .c (.i m) ∧ Env.get s.e 5 = .c (.i i)) := ⟨_, fun _ _ => Iff.rfl⟩
  refine wp_for CM_mono n I ((hI _ _).2 ⟨k, Int.le_refl _, by omega, IntCh.refl _ _ _, by simp⟩) ?_ ?_
  · rintro i ⟨e, X⟩ hi' hIs
    obtain ⟨m, hm1, hm2, hc, h0, h1, h5⟩ := (hI _ _).1 hIs
    simp only at hc h0 h1 h5 ⊢
    have hv0 := hv.ch (fun _ _ => insM.ch) hc
    have hni : 5 * i ≤ 5 * n := Nat.mul_le_mul_left _ (by omega)
    have hnb : 5 * n ≤ 5 * BIG := Nat.mul_le_mul_left _ hn
    simp only [BIG] at hni hnb hn
    unfold vf170b0
    obtain ⟨id0, cl0, Z0, hx0, ho0, hl0, hZ0, hc0⟩ := hv0.cell hi' 0 (by omega) (fun cs h => by obtain ⟨a, b, c, d, e, rfl⟩ := h; exact ⟨_, rfl⟩) (m)
    have hl0' := hl0
    try simp only [Nat.add_zero] at hl0' hZ0
    have hw0 : -9223372036854775808 ≤ (m : Int) + 1 ∧ (m : Int) + 1 ≤ 9223372036854775807 := by omega
    have hv1 := hv0.ch (fun _ _ => insM.ch) hc0
    simp [h0, h1, h5, hv0.lenOf, hi', hx0, ho0, hl0', hZ0, wrap64_id hw0]
    obtain ⟨id1, cl1, Z1, hx1, ho1, hl1, hZ1, hc1⟩ := hv1.cell hi' 1 (by omega) (fun cs h => by obtain ⟨a, b, c, d, e, rfl⟩ := h; exact ⟨_, rfl⟩) ((m + 1))
    have e1 : id1 = id0 := by have e := hx1.symm.trans hx0; injection e with e; injection e
    subst e1
    have hl1' := hl1
    try simp only [Nat.add_zero] at hl1' hZ1
    have hw1 : -9223372036854775808 ≤ ((m + 1) : Int) + 1 ∧ ((m + 1) : Int) + 1 ≤ 9223372036854775807 := by omega
    have hv2 := hv1.ch (fun _ _ => insM.ch) hc1
    simp [h0, h1, h5, hv0.lenOf, hi', hx1, ho1, hl1', hZ1, wrap64_id hw1]
    obtain ⟨id2, cl2, Z2, hx2, ho2, hl2, hZ2, hc2⟩ := hv2.cell hi' 2 (by omega) (fun cs h => by obtain ⟨a, b, c, d, e, rfl⟩ := h; exact ⟨_, rfl⟩) (((m + 1) + 1))
    have e2 : id2 = id1 := by have e := hx2.symm.trans hx1; injection e with e; injection e
    subst e2
    have hl2' := hl2
    try simp only [Nat.add_zero] at hl2' hZ2
    have hw2 : -9223372036854775808 ≤ (((m + 1) + 1) : Int) + 1 ∧ (((m + 1) + 1) : Int) + 1 ≤ 9223372036854775807 := by omega
    have hv3 := hv2.ch (fun _ _ => insM.ch) hc2
    simp [h0, h1, h5, hv0.lenOf, hi', hx2, ho2, hl2', hZ2, wrap64_id hw2]
    obtain ⟨id3, cl3, Z3, hx3, ho3, hl3, hZ3, hc3⟩ := hv3.cell hi' 3 (by omega) (fun cs h => by obtain ⟨a, b, c, d, e, rfl⟩ := h; exact ⟨_, rfl⟩) ((((m + 1) + 1) + 1))
    have e3 : id3 = id2 := by have e := hx3.symm.trans hx2; injection e with e; injection e
    subst e3
    have hl3' := hl3
    try simp only [Nat.add_zero] at hl3' hZ3
    have hw3 : -9223372036854775808 ≤ ((((m + 1) + 1) + 1) : Int) + 1 ∧ ((((m + 1) + 1) + 1) : Int) + 1 ≤ 9223372036854775807 := by omega
    have hv4 := hv3.ch (fun _ _ => insM.ch) hc3
    simp [h0, h1, h5, hv0.lenOf, hi', hx3, ho3, hl3', hZ3, wrap64_id hw3]
    obtain ⟨id4, cl4, Z4, hx4, ho4, hl4, hZ4, hc4⟩ := hv4.cell hi' 4 (by omega) (fun cs h => by obtain ⟨a, b, c, d, e, rfl⟩ := h; exact ⟨_, rfl⟩) (((((m + 1) + 1) + 1) + 1))
    have e4 : id4 = id3 := by have e := hx4.symm.trans hx3; injection e with e; injection e
    subst e4
    have hl4' := hl4
    try simp only [Nat.add_zero] at hl4' hZ4
    have hw4 : -9223372036854775808 ≤ (((((m + 1) + 1) + 1) + 1) : Int) + 1 ∧ (((((m + 1) + 1) + 1) + 1) : Int) + 1 ≤ 9223372036854775807 := by omega
    have hv5 := hv4.ch (fun _ _ => insM.ch) hc4
    simp [h0, h1, h5, hv0.lenOf, hi', hx4, ho4, hl4', hZ4, wrap64_id hw4]
    simp [h0, h1, h5, hv0.lenOf, hi', up1 hi' hn]
    exact (hI _ _).2 ⟨(((((m + 1) + 1) + 1) + 1) + 1), by omega, by omega, (((((hc.trans hc0).trans hc1).trans hc2).trans hc3).trans hc4), by simp⟩
  · rintro ⟨e, X⟩ hIs
    obtain ⟨m, hm1, hm2, hc, h0, h1, h5⟩ := (hI _ _).1 hIs
    simp only at hc h0 h1 h5 ⊢
    unfold vf170b0
    simp [h0, h1, h5, hv.lenOf, gc_nolen hc.len (show flatV (.c (.i m)) = true from rfl)]
    exact ⟨m, X, rfl, hm1, hm2, hc⟩
theorem markPhiS_weak {lo hi : Nat} {Y : Hp} {v : CV} {n : Nat} {k : Int} (hv : MRow (phiM lo hi) 2 lo hi Y v n) (hn : n ≤ BIG) (hk : 0 ≤ k) (hk2 : k ≤ 3000000000000000000) : CM 169 [.c v, .c (.i k)] Y (MRes lo hi Y k (2097153 * n)) := by
  refine cw169 ?_
  unfold vf169c
  simp
  obtain ⟨I, hI⟩ : ∃ I : Nat → St → Prop, ∀ i s, I i s ↔ (∃ m : Int, k ≤ m ∧ m ≤ k + 2097153 * i ∧ IntCh lo hi Y s.h ∧ Env.get s.e 0 = .c v ∧ Env.get s.e 1 = .c (.i m) ∧ Env.get s.e 5 = .c (.i i)) := ⟨_, fun _ _ => Iff.rfl⟩
  refine wp_for CM_mono n I ((hI _ _).2 ⟨k, Int.le_refl _, by omega, IntCh.refl _ _ _, by simp⟩) ?_ ?_
  · rintro i ⟨e, X⟩ hi' hIs
    obtain ⟨m, hm1, hm2, hc, h0, h1, h5⟩ := (hI _ _).1 hIs
    simp only at hc h0 h1 h5 ⊢
    have hv0 := hv.ch (fun _ _ => phiM.ch hc) hc
    have hni : 2097153 * i ≤ 2097153 * n := Nat.mul_le_mul_left _ (by omega)
    have hnb : 2097153 * n ≤ 2097153 * BIG := Nat.mul_le_mul_left _ hn
    simp only [BIG] at hni hnb hn
    unfold vf169b0
    obtain ⟨id0, cl0, Z0, hx0, ho0, hl0, hZ0, hc0⟩ := hv0.cell hi' 0 (by omega) (fun cs h => by obtain ⟨a, z, q, rfl, _⟩ := h; exact ⟨_, rfl⟩) (m)
    have hl0' := hl0
    try simp only [Nat.add_zero] at hl0' hZ0
    have hw0 : -9223372036854775808 ≤ (m : Int) + 1 ∧ (m : Int) + 1 ≤ 9223372036854775807 := by omega
    have hv1 := hv0.ch (fun _ _ => phiM.ch hc0) hc0
    simp [h0, h1, h5, hv0.lenOf, hi', hx0, ho0, hl0', hZ0, wrap64_id hw0]
    obtain ⟨id1, cs1, hx1, hP1, hf1⟩ := hv1.field hi'
    obtain ⟨a1, z1, q1, rfl, hz1, hq1⟩ := hP1
    have hr1 := hf1 1 _ (by omega) rfl
    try simp only [Nat.add_zero] at hr1
    have e1 : id1 = id0 := by have e := hx1.symm.trans hx0; injection e with e; injection e
    subst e1
    simp [h0, h1, h5, hv0.lenOf, hi', hx1, hr1]
    refine (markArmS_weak hz1 hq1 (by omega) (by omega)).mono ?_
    rintro _ ⟨m1, Z1, rfl, ha1, hb1, hc1⟩
    have hbd1 : 2 * q1 ≤ 2 * BIG := by first | exact Nat.mul_le_mul_left _ hq1 | omega
    simp only [BIG] at hbd1
    have hv2 := hv1.ch (fun _ _ => phiM.ch hc1) hc1
    simp [h0, h1, h5, hv0.lenOf, hi', up1 hi' hn]
    exact (hI _ _).2 ⟨m1, by omega, by omega, ((hc.trans hc0).trans hc1), by simp⟩
  · rintro ⟨e, X⟩ hIs
    obtain ⟨m, hm1, hm2, hc, h0, h1, h5⟩ := (hI _ _).1 hIs
    simp only at hc h0 h1 h5 ⊢
    unfold vf169b0
    simp [h0, h1, h5, hv.lenOf, gc_nolen hc.len (show flatV (.c (.i m)) = true from rfl)]
    exact ⟨m, X, rfl, hm1, hm2, hc⟩
theorem markBlockS_weak {lo hi : Nat} {Y : Hp} {v : CV} {n : Nat} {k : Int} (hv : MRow (blkM lo hi) 6 lo hi Y v n) (hn : n ≤ BIG) (hk : 0 ≤ k) (hk2 : k ≤ 4) : CM 109 [.c v, .c (.i k)] Y (MRes lo hi Y k (2199029547012 * n)) := by
  refine cw109 ?_
  unfold vf109c
  simp
  obtain ⟨I, hI⟩ : ∃ I : Nat → St → Prop, ∀ i s, I i s ↔ (∃ m : Int, k ≤ m ∧ m ≤ k + 2199029547012 * i ∧ IntCh lo hi Y s.h ∧ Env.get s.e 0 = .c v ∧ Env.get s.e 1 = .c (.i m) ∧ Env.get s.e 5 = .c (.i i)) := ⟨_, fun _ _ => Iff.rfl⟩
  refine wp_for CM_mono n I ((hI _ _).2 ⟨k, Int.le_refl _, by omega, IntCh.refl _ _ _, by simp⟩) ?_ ?_
  · rintro i ⟨e, X⟩ hi' hIs
    obtain ⟨m, hm1, hm2, hc, h0, h1, h5⟩ := (hI _ _).1 hIs
    simp only at hc h0 h1 h5 ⊢
    have hv0 := hv.ch (fun _ _ => blkM.ch hc) hc
    have hni : 2199029547012 * i ≤ 2199029547012 * n := Nat.mul_le_mul_left _ (by omega)
    have hnb : 2199029547012 * n ≤ 2199029547012 * BIG := Nat.mul_le_mul_left _ hn
    simp only [BIG] at hni hnb hn
    unfold vf109b0
    obtain ⟨id0, cs0, hx0, hP0, hf0⟩ := hv0.field hi'
    obtain ⟨z0, u0, q0, p0, a0, b0, c0, d0, rfl, hz0, hq0, hu0, hp0⟩ := hP0
    have hr0 := hf0 0 _ (by omega) rfl
    try simp only [Nat.add_zero] at hr0
    simp [h0, h1, h5, hv0.lenOf, hi', hx0, hr0]
    refine (markPhiS_weak hz0 hq0 (by omega) (by omega)).mono ?_
    rintro _ ⟨m0, Z0, rfl, ha0, hb0, hc0⟩
    have hbd0 : 2097153 * q0 ≤ 2097153 * BIG := by first | exact Nat.mul_le_mul_left _ hq0 | omega
    simp only [BIG] at hbd0
    have hv1 := hv0.ch (fun _ _ => blkM.ch hc0) hc0
    obtain ⟨id1, cs1, hx1, hP1, hf1⟩ := hv1.field hi'
    obtain ⟨z1, u1, q1, p1, a1, b1, c1, d1, rfl, hz1, hq1, hu1, hp1⟩ := hP1
    have hr1 := hf1 1 _ (by omega) rfl
    try simp only [Nat.add_zero] at hr1
    have e1 : id1 = id0 := by have e := hx1.symm.trans hx0; injection e with e; injection e
    subst e1
    simp [h0, h1, h5, hv0.lenOf, hi', hx1, hr1]
    refine (markInsS_weak hu1 hp1 (by omega) (by omega)).mono ?_
    rintro _ ⟨m1, Z1, rfl, ha1, hb1, hc1⟩
    have hbd1 : 5 * p1 ≤ 5 * BIG := by first | exact Nat.mul_le_mul_left _ hp1 | omega
    simp only [BIG] at hbd1
    have hv2 := hv1.ch (fun _ _ => blkM.ch hc1) hc1
    obtain ⟨id2, cl2, Z2, hx2, ho2, hl2, hZ2, hc2⟩ := hv2.cell hi' 2 (by omega) (fun cs h => by obtain ⟨z, u, q, p, a, b, c, d, rfl, _⟩ := h; exact ⟨_, rfl⟩) (m1)
    have e2 : id2 = id1 := by have e := hx2.symm.trans hx1; injection e with e; injection e
    subst e2
    have hl2' := hl2
    try simp only [Nat.add_zero] at hl2' hZ2
    have hw2 : -9223372036854775808 ≤ (m1 : Int) + 1 ∧ (m1 : Int) + 1 ≤ 9223372036854775807 := by omega
    have hv3 := hv2.ch (fun _ _ => blkM.ch hc2) hc2
    simp [h0, h1, h5, hv0.lenOf, hi', hx2, ho2, hl2', hZ2, wrap64_id hw2]
    obtain ⟨id3, cl3, Z3, hx3, ho3, hl3, hZ3, hc3⟩ := hv3.cell hi' 3 (by omega) (fun cs h => by obtain ⟨z, u, q, p, a, b, c, d, rfl, _⟩ := h; exact ⟨_, rfl⟩) ((m1 + 1))
    have e3 : id3 = id2 := by have e := hx3.symm.trans hx2; injection e with e; injection e
    subst e3
    have hl3' := hl3
    try simp only [Nat.add_zero] at hl3' hZ3
    have hw3 : -9223372036854775808 ≤ ((m1 + 1) : Int) + 1 ∧ ((m1 + 1) : Int) + 1 ≤ 9223372036854775807 := by omega
    have hv4 := hv3.ch (fun _ _ => blkM.ch hc3) hc3
    simp [h0, h1, h5, hv0.lenOf, hi', hx3, ho3, hl3', hZ3, wrap64_id hw3]
    obtain ⟨id4, cl4, Z4, hx4, ho4, hl4, hZ4, hc4⟩ := hv4.cell hi' 4 (by omega) (fun cs h => by obtain ⟨z, u, q, p, a, b, c, d, rfl, _⟩ := h; exact ⟨_, rfl⟩) (((m1 + 1) + 1))
    have e4 : id4 = id3 := by have e := hx4.symm.trans hx3; injection e with e; injection e
    subst e4
    have hl4' := hl4
    try simp only [Nat.add_zero] at hl4' hZ4
    have hw4 : -9223372036854775808 ≤ (((m1 + 1) + 1) : Int) + 1 ∧ (((m1 + 1) + 1) : Int) + 1 ≤ 9223372036854775807 := by omega
    have hv5 := hv4.ch (fun _ _ => blkM.ch hc4) hc4
    simp [h0, h1, h5, hv0.lenOf, hi', hx4, ho4, hl4', hZ4, wrap64_id hw4]
    obtain ⟨id5, cl5, Z5, hx5, ho5, hl5, hZ5, hc5⟩ := hv5.cell hi' 5 (by omega) (fun cs h => by obtain ⟨z, u, q, p, a, b, c, d, rfl, _⟩ := h; exact ⟨_, rfl⟩) ((((m1 + 1) + 1) + 1))
    have e5 : id5 = id4 := by have e := hx5.symm.trans hx4; injection e with e; injection e
    subst e5
    have hl5' := hl5
    try simp only [Nat.add_zero] at hl5' hZ5
    have hw5 : -9223372036854775808 ≤ ((((m1 + 1) + 1) + 1) : Int) + 1 ∧ ((((m1 + 1) + 1) + 1) : Int) + 1 ≤ 9223372036854775807 := by omega
    have hv6 := hv5.ch (fun _ _ => blkM.ch hc5) hc5
    simp [h0, h1, h5, hv0.lenOf, hi', hx5, ho5, hl5', hZ5, wrap64_id hw5]
    simp [h0, h1, h5, hv0.lenOf, hi', up1 hi' hn]
    exact (hI _ _).2 ⟨((((m1 + 1) + 1) + 1) + 1), by omega, by omega, ((((((hc.trans hc0).trans hc1).trans hc2).trans hc3).trans hc4).trans hc5), by simp⟩
  · rintro ⟨e, X⟩ hIs
    obtain ⟨m, hm1, hm2, hc, h0, h1, h5⟩ := (hI _ _).1 hIs
    simp only at hc h0 h1 h5 ⊢
    unfold vf109b0
    simp [h0, h1, h5, hv.lenOf, gc_nolen hc.len (show flatV (.c (.i m)) = true from rfl)]
    exact ⟨m, X, rfl, hm1, hm2, hc⟩
end Go.Proofs.YtgdfgnppeekfjaaGreat.Vm
end
section
/- Rows of numbers: compared, marked, held. A copy is marked. No conditions. -/
namespace Go.Proofs.YtgdfgnppeekfjaaGreat.Vm
open Go.RowKit (wrap64)
set_option linter.unusedSimpArgs false
set_option linter.unusedVariables false
/-! ### A copy, seen for its numbers -/
theorem chunk {css : List (List CV)} {sz : Nat} (h : ∀ cs ∈ css, cs.length = sz) {k : Nat} (hk : k < css.length) : (css.flatten.drop (k * sz)).take sz = css[k] := by
  induction css generalizing k with
  | nil => simp at hk
  | cons c r ih =>
    have hc := h c (by simp)
    cases k with
    | zero => rw [List.flatten_cons]; simp [← hc]
    | succ k =>
      rw [List.flatten_cons, Nat.succ_mul, List.drop_append, List.drop_eq_nil_of_le (by rw [hc]; omega), List.nil_append, hc, Nat.add_sub_cancel]
      simpa using ih (fun cs hcs => h cs (by simp [hcs])) (k := k) (by simpa using hk)
theorem ORow.m {α : Type} {P : Nat → Hp → List CV → α → Prop} {P' : Hp → List CV → Prop} {sz lo : Nat} {X : Hp} {w : CV} {xs : List α} (h : ORow P sz lo X w xs) (hP : ∀ cs x, x ∈ xs → P lo X cs x → P' X cs) : MRow P' sz lo X.length X w xs.length := by
  obtain ⟨id, css, rfl, h2, h3, h4, h5⟩ := h
  have hl : ∀ cs ∈ css, cs.length = sz := by
    intro cs hcs
    obtain ⟨j, hj, rfl⟩ := List.getElem_of_mem hcs
    exact (h5 j _ _ (List.getElem?_eq_getElem hj) (List.getElem?_eq_getElem (by omega))).1
  refine ⟨id, css.flatten, rfl, h2, rdOb_lt h3, h3, by rw [flat_len hl, h4], fun k hk => ?_⟩
  rw [chunk hl (by omega)]
  exact hP _ _ (List.getElem_mem hk) (h5 k _ _ (List.getElem?_eq_getElem (by omega)) (List.getElem?_eq_getElem hk)).2
theorem phiO.m {lo : Nat} {X : Hp} {cs : List CV} {p : PhiR} (hs : p.arms.length ≤ BIG) (h : phiO lo X cs p) : phiM lo X.length X cs := by
  obtain ⟨z, h1, h2⟩ := h
  exact ⟨p.d, z, p.arms.length, h1, h2.m fun cs x _ h => ⟨_, _, h⟩, hs⟩
theorem blkO.m {lo : Nat} {X : Hp} {cs : List CV} {b : BlkR} (hs : b.phis.length ≤ BIG ∧ b.list.length ≤ BIG ∧ ∀ p ∈ b.phis, p.arms.length ≤ BIG) (h : blkO lo X cs b) : blkM lo X.length X cs := by
  obtain ⟨z, u, h1, h2, h3⟩ := h
  exact ⟨z, u, _, _, _, _, _, _, h1, h2.m fun cs x hx h => phiO.m (hs.2.2 _ hx) h, hs.1, h3.m fun cs x _ h => ⟨_, _, _, _, _, h⟩, hs.2.1⟩
theorem MRow.app {P : Hp → List CV → Prop} {sz lo hi : Nat} {Y : Hp} (L : Hp) {v : CV} {n : Nat} (hP : ∀ cs, P Y cs → P (Y ++ L) cs) (h : MRow P sz lo hi Y v n) : MRow P sz lo hi (Y ++ L) v n := by
  obtain ⟨id, cells, h1, h2, h3, h4, h5, h6⟩ := h
  exact ⟨id, cells, h1, h2, h3, rdOb_app L h4, h5, fun k hk => hP _ (h6 k hk)⟩
theorem phiM.app {lo hi : Nat} {Y : Hp} (L : Hp) {cs : List CV} (h : phiM lo hi Y cs) : phiM lo hi (Y ++ L) cs := by
  obtain ⟨a, z, n, h1, h2, h3⟩ := h
  exact ⟨a, z, n, h1, h2.app L fun _ h => h, h3⟩
theorem blkM.app {lo hi : Nat} {Y : Hp} (L : Hp) {cs : List CV} (h : blkM lo hi Y cs) : blkM lo hi (Y ++ L) cs := by
  obtain ⟨z, u, n, m, a, b, c, d, h1, h2, h3, h4, h5⟩ := h
  exact ⟨z, u, n, m, a, b, c, d, h1, h2.app L fun _ h => phiM.app L h, h3, h4.app L fun _ h => h, h5⟩
def fnM (lo hi : Nat) (Y : Hp) (cs : List CV) : Prop := ∃ (z : CV) (m : Int) (n : Nat), cs = [z, .i m] ∧ MRow (blkM lo hi) 6 lo hi Y z n ∧ n ≤ BIG
theorem fnO.m {lo : Nat} {X : Hp} {cs : List CV} {f : FnR} (hs : Small f) (h : fnO lo X cs f) : fnM lo X.length X cs := by
  obtain ⟨z, h1, h2⟩ := h
  exact ⟨z, _, _, h1, h2.m fun cs x hx h => blkO.m (hs.2 _ hx) h, hs.1⟩
theorem fnM.app {lo hi : Nat} {Y : Hp} (L : Hp) {cs : List CV} (h : fnM lo hi Y cs) : fnM lo hi (Y ++ L) cs := by
  obtain ⟨z, m, n, h1, h2, h3⟩ := h
  exact ⟨z, m, n, h1, h2.app L fun _ h => blkM.app L h, h3⟩
theorem IntCh.cut {lo hi : Nat} {Y Z L : Hp} (hl : lo ≤ hi) (hh : hi ≤ Y.length) (h : IntCh lo hi (Y ++ L) Z) : ∃ Z', Z = Z' ++ L ∧ IntCh lo hi Y Z' := by
  refine ⟨Z.take Y.length, ?_, ?_⟩
  · have hlen := h.len
    rw [List.length_append] at hlen
    apply List.ext_getElem?
    intro i
    by_cases hi' : i < Y.length
    · rw [List.getElem?_append_left (by rw [List.length_take]; omega), List.getElem?_take, if_pos hi']
    · rw [List.getElem?_append_right (by rw [List.length_take]; omega), List.length_take, Nat.min_eq_left (by omega)]
      by_cases hz : i < Z.length
      · have e : (Y ++ L)[i]? = L[i - Y.length]? := List.getElem?_append_right (by omega)
        have h1 : i - Y.length < L.length := by omega
        rw [List.getElem?_eq_getElem h1] at e
        have := h.out i _ _ (.inr (by omega)) (rdOb_some.2 ⟨e, rfl⟩)
        rw [(rdOb_some.1 this).1, List.getElem?_eq_getElem h1]
      · rw [List.getElem?_eq_none (by omega), List.getElem?_eq_none (by omega)]
  · have hlen := h.len
    rw [List.length_append] at hlen
    have key : ∀ id g o, id < Y.length → (rdOb Z id g = some o ↔ rdOb (Z.take Y.length) id g = some o) := by
      intro id g o hid
      rw [rdOb_some, rdOb_some, List.getElem?_take, if_pos hid]
    refine ⟨by rw [List.length_take]; omega, fun id g o ho => ?_, fun id g o hl' ho => ?_⟩
    · obtain ⟨cs, h1, h2⟩ := h.ob id g o (rdOb_app L ho)
      exact ⟨cs, (key _ _ _ (rdOb_lt ho)).1 h1, h2⟩
    · exact (key _ _ _ (rdOb_lt ho)).1 (h.out id g o hl' (rdOb_app L ho))
def MarkRes (lo hi : Nat) (Y : Hp) (r : IV × Hp) : Prop := ∃ m Z L, r = (.c (.i m), Z ++ L) ∧ 0 ≤ m ∧ IntCh lo hi Y Z
theorem markFn_weak {lo hi : Nat} {Y : Hp} {cs : List CV} (h : fnM lo hi Y cs) (hh : hi ≤ Y.length) (hl : lo ≤ hi) :
    CM 41 [.agg cs, .c (.i 1)] Y (MarkRes lo hi Y) := by
  obtain ⟨z, m, n, rfl, hz, hn⟩ := h
  refine cw41 ?_
  unfold vf41c
  simp
  refine (markBlockS_weak (hz.app _ fun _ h => blkM.app _ h) hn (by omega) (by omega)).mono ?_
  rintro _ ⟨k, Z, rfl, h1, h2, h3⟩
  obtain ⟨Z', rfl, h4⟩ := h3.cut hl hh
  simp
  by_cases e : Z' = Y
  · subst e
    exact ⟨k, Z', [], by simp, by omega, h4⟩
  · have e2 : gcRet Y (.c (.i k)) (Z' ++ [⟨[z, .i m], 0, true, 2⟩]) = (.c (.i k), Z' ++ [⟨[z, .i m], 0, true, 2⟩]) := by
      unfold gcRet
      rw [if_neg]
      rw [List.take_append_of_le_length (by rw [h4.len]; exact Nat.le_refl _), List.take_of_length_le (by rw [h4.len]; exact Nat.le_refl _)]
      exact e
    rw [e2]
    exact ⟨k, Z', _, rfl, by omega, h4⟩
/-! ### Rows of numbers -/
def ups (k : Int) (n : Nat) : List Int := (List.range n).map fun (j : Nat) => k + (j : Int)
@[simp] theorem ups_len (k : Int) (n : Nat) : (ups k n).length = n := by simp [ups]
def Own (Y : Hp) (lo sz : Nat) (w : CV) (n : Nat) (cells : List CV) : Prop := (w = .ns ∧ n = 0 ∧ cells = []) ∨ ∃ id, w = .sl id 0 0 n ∧ lo ≤ id ∧ rdOb Y id 0 = some ⟨cells, 0, true, sz⟩ ∧ cells.length = n * sz
theorem Own.isI {Y : Hp} {lo : Nat} {w : CV} {n : Nat} {xs : List Int} (h : Own Y lo 1 w n (xs.map .i)) : IsI Y w xs := by
  rcases h with ⟨rfl, rfl, h⟩ | ⟨id, rfl, h1, h2, h3⟩
  · simp at h; subst h; exact IsI.ns _
  · simp at h3; subst h3
    exact IsI.mk h2 rfl (by simp) (by rw [List.drop_zero, List.take_of_length_le (by simp)])
theorem RowRes.own {H L : Hp} {w : CV} {xs : List Int} (h : RowRes H w L xs) : Own (H ++ L) H.length 1 w xs.length (xs.map .i) := by
  rcases h with ⟨rfl, rfl, rfl⟩ | ⟨rfl, rfl⟩
  · exact .inl ⟨rfl, rfl, rfl⟩
  · exact .inr ⟨_, rfl, Nat.le_refl _, by simp, by simp⟩
theorem Own.keep {Y Z : Hp} {lo sz : Nat} {w : CV} {n : Nat} {cells : List CV} (h : Own Y lo sz w n cells) (hk : ∀ id g o, lo ≤ id → rdOb Y id g = some o → rdOb Z id g = some o) : Own Z lo sz w n cells := by
  rcases h with h | ⟨id, rfl, h1, h2, h3⟩
  · exact .inl h
  · exact .inr ⟨id, rfl, h1, hk _ _ _ h1 h2, h3⟩
def Low (lo : Nat) (Y Z : Hp) : Prop := ∀ id g o, id < lo → rdOb Y id g = some o → rdOb Z id g = some o
theorem Low.trans {lo : Nat} {X Y Z : Hp} (h : Low lo X Y) (k : Low lo Y Z) : Low lo X Z := fun id g o hl ho => k id g o hl (h id g o hl ho)
theorem Low.app (lo : Nat) (Y L : Hp) : Low lo Y (Y ++ L) := fun _ _ _ _ h => rdOb_app L h
theorem Low.mono {lo lo' : Nat} {Y Z : Hp} (h : Low lo Y Z) (hl : lo' ≤ lo) : Low lo' Y Z := fun id g o h1 h2 => h id g o (by omega) h2
theorem Low.pre {H Y Z : Hp} {lo : Nat} (h : Low lo Y Z) (hp : Pre H Y) (hl : H.length ≤ lo) : Pre H Z := by
  obtain ⟨G, rfl⟩ := hp
  refine ⟨Z.drop H.length, ?_⟩
  have key : ∀ i (hi : i < H.length), Z[i]? = some H[i] := by
    intro i hi
    have := h i H[i].g H[i] (by omega) (rdOb_some.2 ⟨by rw [List.getElem?_append_left hi, List.getElem?_eq_getElem hi], rfl⟩)
    exact (rdOb_some.1 this).1
  apply List.ext_getElem?
  intro i
  by_cases hi : i < H.length
  · rw [List.getElem?_append_left hi, List.getElem?_eq_getElem hi, key i hi]
  · rw [List.getElem?_append_right (by omega), List.getElem?_drop]
    congr 1; omega
theorem IntCh.low {lo hi : Nat} {Y Z : Hp} (h : IntCh lo hi Y Z) : Low lo Y Z := fun id g o hl ho => h.out id g o (.inl hl) ho
/-! ### Who follows, who comes ahead -/
end Go.Proofs.YtgdfgnppeekfjaaGreat.Vm
end
section
/- Arguments that are programs, copies. No conditions. -/
namespace Go.Proofs.YtgdfgnppeekfjaaGreat.Vm
set_option linter.unusedSimpArgs false
set_option linter.unusedVariables false
@[simp] theorem gcRet_fst (H : Hp) (x : Bool) (X : Hp) : (gcRet H (.c (.b x)) X).1 = .c (.b x) := by
  unfold gcRet
  split
  · rw [if_pos (show flatV (.c (.b x)) = true from rfl)]
  · rfl
theorem choose_list {α : Type} {Q : List CV → α → Prop} : ∀ {css : List (List CV)}, (∀ cs ∈ css, ∃ x, Q cs x) → ∃ xs : List α, xs.length = css.length ∧ ∀ (k : Nat) cs x, css[k]? = some cs → xs[k]? = some x → Q cs x := by
  intro css
  induction css with
  | nil => intro _; exact ⟨[], rfl, fun k cs x h => by simp at h⟩
  | cons c r ih =>
    intro h
    obtain ⟨x, hx⟩ := h c (by simp)
    obtain ⟨xs, h1, h2⟩ := ih fun cs hc => h cs (by simp [hc])
    refine ⟨x :: xs, by simp [h1], fun k cs y a b => ?_⟩
    cases k with
    | zero => simp at a b; subst a; subst b; exact hx
    | succ k => exact h2 k cs y (by simpa using a) (by simpa using b)
section
variable {P : Program} {H : Hp}
theorem leaf_row {α : Type} {R : Hp → List CV → α → Prop} {t e : TypeId} {c : CV} {ls : List TypeId} {sz m : Nat} (hu : P.underlying t = some (.slice e)) (hls : leafTs P m e = some ls) (hsz : P.cellsOf e = sz)
    (hR : ∀ cs : List CV, cs.length = ls.length → (∀ (j : Nat) (t' : TypeId) (c : CV), ls[j]? = some t' → cs[j]? = some c → Leaf P H t' c) → ∃ x, R H cs x) (h : Leaf P H t c) : ∃ xs : List α, Row R sz H c xs ∧ xs.length ≤ maxLen := by
  obtain ⟨n, css, hn, hm, hS, hcs⟩ := Leaf.row hu hls h
  obtain ⟨xs, h1, h2⟩ := choose_list (Q := fun cs x => cs.length = sz ∧ R H cs x) (css := css) fun cs hc => by
    obtain ⟨a, b, d⟩ := hcs cs hc
    obtain ⟨x, hx⟩ := hR cs a d
    exact ⟨x, by omega, hx⟩
  subst hn
  exact ⟨xs, ⟨css, by rw [h1, ← hsz]; exact hS, h1.symm, h2⟩, by omega⟩
theorem leaf_int {i : TypeId} (hi : P.underlying i = some (.int .i64)) {c : CV} (h : Leaf P H i c) : ∃ n : Int, c = .i n := by
  obtain ⟨n, rfl, _⟩ := Leaf.int hi h; exact ⟨n, rfl⟩
/-- The types of a program's parts: those of a slice of arms, of phis, of places, of blocks; of a number. -/
structure FnTys (P : Program) (i ta ea tp ep tl el tb eb : TypeId) : Prop where
  hi : P.underlying i = some (.int .i64)
  hta : P.underlying ta = some (.slice ea)
  hea : leafTs P 8 ea = some [i, i]
  hsa : P.cellsOf ea = 2
  htp : P.underlying tp = some (.slice ep)
  hep : leafTs P 8 ep = some [i, ta]
  hsp : P.cellsOf ep = 2
  htl : P.underlying tl = some (.slice el)
  hel : leafTs P 8 el = some [i, i, i, i, i]
  hsl : P.cellsOf el = 5
  htb : P.underlying tb = some (.slice eb)
  heb : leafTs P 8 eb = some [tp, tl, i, i, i, i]
  hsb : P.cellsOf eb = 6
theorem leaf_arms {i ta ea tp ep tl el tb eb : TypeId} (T : FnTys P i ta ea tp ep tl el tb eb) {c : CV} (h : Leaf P H ta c) : ∃ xs : List ArmR, Row armP 2 H c xs ∧ xs.length ≤ maxLen := by
  refine leaf_row T.hta T.hea T.hsa (fun cs hl hc => ?_) h
  match cs, hl with
  | [a, b], _ =>
    obtain ⟨a, rfl⟩ := leaf_int T.hi (hc 0 i a rfl rfl)
    obtain ⟨b, rfl⟩ := leaf_int T.hi (hc 1 i b rfl rfl)
    exact ⟨⟨a, b⟩, rfl⟩
theorem leaf_list {i ta ea tp ep tl el tb eb : TypeId} (T : FnTys P i ta ea tp ep tl el tb eb) {c : CV} (h : Leaf P H tl c) : ∃ xs : List InsR, Row insP 5 H c xs ∧ xs.length ≤ maxLen := by
  refine leaf_row T.htl T.hel T.hsl (fun cs hl hc => ?_) h
  match cs, hl with
  | [a, b, d, e, f], _ =>
    obtain ⟨a, rfl⟩ := leaf_int T.hi (hc 0 i a rfl rfl)
    obtain ⟨b, rfl⟩ := leaf_int T.hi (hc 1 i b rfl rfl)
    obtain ⟨d, rfl⟩ := leaf_int T.hi (hc 2 i d rfl rfl)
    obtain ⟨e, rfl⟩ := leaf_int T.hi (hc 3 i e rfl rfl)
    obtain ⟨f, rfl⟩ := leaf_int T.hi (hc 4 i f rfl rfl)
    exact ⟨⟨a, b, d, e, f⟩, rfl⟩
theorem leaf_phis {i ta ea tp ep tl el tb eb : TypeId} (T : FnTys P i ta ea tp ep tl el tb eb) {c : CV} (h : Leaf P H tp c) : ∃ xs : List PhiR, Row (phiP maxLen) 2 H c xs ∧ xs.length ≤ maxLen := by
  refine leaf_row T.htp T.hep T.hsp (fun cs hl hc => ?_) h
  match cs, hl with
  | [a, b], _ =>
    obtain ⟨a, rfl⟩ := leaf_int T.hi (hc 0 i a rfl rfl)
    obtain ⟨xs, h1, h2⟩ := leaf_arms T (hc 1 ta b rfl rfl)
    exact ⟨⟨a, xs⟩, b, rfl, h1, h2⟩
theorem leaf_blocks {i ta ea tp ep tl el tb eb : TypeId} (T : FnTys P i ta ea tp ep tl el tb eb) {c : CV} (h : Leaf P H tb c) : ∃ xs : List BlkR, Row (blkP maxLen) 6 H c xs ∧ xs.length ≤ maxLen := by
  refine leaf_row T.htb T.heb T.hsb (fun cs hl hc => ?_) h
  match cs, hl with
  | [z, u, a, b, d, e], _ =>
    obtain ⟨ps, p1, p2⟩ := leaf_phis T (hc 0 tp z rfl rfl)
    obtain ⟨ls, l1, l2⟩ := leaf_list T (hc 1 tl u rfl rfl)
    obtain ⟨a, rfl⟩ := leaf_int T.hi (hc 2 i a rfl rfl)
    obtain ⟨b, rfl⟩ := leaf_int T.hi (hc 3 i b rfl rfl)
    obtain ⟨d, rfl⟩ := leaf_int T.hi (hc 4 i d rfl rfl)
    obtain ⟨e, rfl⟩ := leaf_int T.hi (hc 5 i e rfl rfl)
    exact ⟨⟨ps, ls, ⟨a, b, d, e⟩⟩, z, u, rfl, p1, l1, p2, l2⟩
theorem arg_fn {i ta ea tp ep tl el tb eb : TypeId} (T : FnTys P i ta ea tp ep tl el tb eb) {t : TypeId} {n : Nat} {iv : IV} (hp : plainT P n t = true) (ha : aggOf P t = some true) (hl : leafTs P n t = some [tb, i]) (h : ArgTy P H n t iv) :
    ∃ cs f, iv = .agg cs ∧ fnP maxLen H cs f := by
  obtain ⟨cvs, rfl, hlen, hc⟩ := h.agg hp ha hl
  match cvs, hlen with
  | [a, b], _ =>
    obtain ⟨bs, b1, b2⟩ := leaf_blocks T (hc 0 tb a rfl rfl)
    obtain ⟨m, rfl⟩ := leaf_int T.hi (hc 1 i b rfl rfl)
    exact ⟨_, ⟨bs, m⟩, rfl, a, rfl, b1, b2⟩
end
theorem phiP.small {B B' : Nat} {H : Hp} {cs : List CV} {p : PhiR} (h : phiP B H cs p) (hs : p.arms.length ≤ B') : phiP B' H cs p := by
  obtain ⟨w, h1, h2, _⟩ := h; exact ⟨w, h1, h2, hs⟩
theorem Row.imp {α : Type} {P P' : Hp → List CV → α → Prop} {sz : Nat} {H : Hp} {v : CV} {xs : List α} (h : Row P sz H v xs) (hP : ∀ cs x, x ∈ xs → P H cs x → P' H cs x) : Row P' sz H v xs := by
  obtain ⟨css, h1, h2, h3⟩ := h
  exact ⟨css, h1, h2, fun k cs x a b => ⟨(h3 k cs x a b).1, hP _ _ (List.mem_of_getElem? b) (h3 k cs x a b).2⟩⟩
theorem blkP.small {B B' : Nat} {H : Hp} {cs : List CV} {b : BlkR} (h : blkP B H cs b) (hs : b.phis.length ≤ B' ∧ b.list.length ≤ B' ∧ ∀ p ∈ b.phis, p.arms.length ≤ B') : blkP B' H cs b := by
  obtain ⟨w, u, h1, h2, h3, _⟩ := h
  exact ⟨w, u, h1, h2.imp fun cs p hp h => phiP.small h (hs.2.2 p hp), h3, hs.1, hs.2.1⟩
theorem fnP.small {B : Nat} {H : Hp} {cs : List CV} {f : FnR} (h : fnP B H cs f) (hs : Small f) : fnP BIG H cs f := by
  obtain ⟨v, h1, h2, _⟩ := h
  exact ⟨v, h1, h2.imp fun cs b hb h => blkP.small h (hs.2 b hb), hs.1⟩
theorem sz_small {f : FnR} (h : 0 ≤ szFnF f 1048576) : Small f := by
  obtain ⟨_, _, h3⟩ := szFnF_le (f := f) (l := 1048576) (by omega)
  obtain ⟨a, b⟩ := h3 h
  exact ⟨a, b⟩
end Go.Proofs.YtgdfgnppeekfjaaGreat.Vm
end
section
/- Moves. No conditions. -/
namespace Go.Proofs.YtgdfgnppeekfjaaGreat.Vm
open Go.RowKit (wrap64)
set_option linter.unusedSimpArgs false
set_option linter.unusedVariables false
theorem indexMove {H : Hp} {v : CV} {xs : List ArmR} (hv : Arms H v xs) (hb : xs.length ≤ BIG) {fid : Nat} {caps : List CV} (p : ArmR → Bool)
    (hp : ∀ i (hi : i < xs.length) cs, armP H cs xs[i] → ∀ k : IV × Hp → Prop, CM fid (.agg cs :: caps.map .c) H k = k (.c (.b (p xs[i])), H)) (k : IV × Hp → Prop) :
    CM 222 [.c v, .f fid caps] H k = k (.c (.i (findI p xs)), H) := by
  refine det (cw222 ?_) k
  unfold vf222c
  simp [hv.lenOf]
  refine wp_for CM_mono xs.length (fun i s => (∀ j (hj : j < i) (hx : j < xs.length), p xs[j] = false) ∧ s.h = H ∧ Env.get s.e 0 = .c v ∧ Env.get s.e 1 = .f fid caps ∧ Env.get s.e 7 = .c (.i xs.length) ∧ Env.get s.e 8 = .c (.i i)) (by simp) ?_ ?_
  · rintro i ⟨e, X⟩ hi ⟨ht, rfl, h0, h1, h7, h8⟩
    simp only at h0 h1 h7 h8 hv hp ⊢
    obtain ⟨id, g, off, cs, q1, hA, hl, hP⟩ := Row.get hv hi
    have hq : rdN X id g off 2 = some cs := by have := hA.n 0 2 (by omega); rw [Nat.add_zero, List.drop_zero, List.take_of_length_le (by omega)] at this; exact this
    have hwr := up1 hi hb
    unfold vf222b0
    cases hpx : p xs[i] with
    | false =>
      simp [h0, h1, h7, h8, q1, hq, hi, hwr, hp i hi _ hP, hpx]
      intro j hj hx
      by_cases e : j = i
      · subst e; exact hpx
      · exact ht j (by omega) hx
    | true =>
      simp [h0, h1, h7, h8, q1, hq, hi, hwr, hp i hi _ hP, hpx, findI_some hi (fun j hj => ht j hj (by omega)) hpx]
  · rintro ⟨e, X⟩ ⟨ht, rfl, h0, h1, h7, h8⟩
    simp only at h0 h1 h7 h8 ⊢
    unfold vf222b0
    simp [h0, h1, h7, h8, findI_none (fun j hj => ht j hj hj)]
theorem containsMove {H : Hp} {v : CV} {xs : List ArmR} (hv : Arms H v xs) (hb : xs.length ≤ BIG) {fid : Nat} {caps : List CV} (p : ArmR → Bool)
    (hp : ∀ i (hi : i < xs.length) cs, armP H cs xs[i] → ∀ k : IV × Hp → Prop, CM fid (.agg cs :: caps.map .c) H k = k (.c (.b (p xs[i])), H)) (k : IV × Hp → Prop) :
    CM 220 [.c v, .f fid caps] H k = k (.c (.b (xs.any p)), H) := by
  refine det (cw220 ?_) k
  unfold vf220c
  have e : decide (0 ≤ findI p xs) = xs.any p := by
    cases h : xs.any p with
    | true => exact decide_eq_true (findI_nonneg.2 h)
    | false => exact decide_eq_false fun hc => by rw [findI_nonneg.1 hc] at h; cases h
  simp [indexMove hv hb p hp, e]
def mvB (n : Int) (xs : List ArmR) (i : Nat) : Bool := match xs[i]? with
  | some a => decide (0 ≤ a.fr) && decide (a.fr < n) && decide (0 ≤ a.v) && decide (a.v < n) && !(xs.take i).any fun x => decide (x.fr = a.fr)
  | none => true
def mvsB (n : Int) (xs : List ArmR) : Bool := (List.range xs.length).all (mvB n xs)
def movesB (n : Int) (xs : List ArmR) : Bool := mvsB n xs && decide (xs.length ≤ 24)
theorem mvB_at {n : Int} {xs : List ArmR} {i : Nat} (hi : i < xs.length) : mvB n xs i = (decide (0 ≤ xs[i].fr) && decide (xs[i].fr < n) && decide (0 ≤ xs[i].v) && decide (xs[i].v < n) && !(xs.take i).any fun x => decide (x.fr = xs[i].fr)) := by
  unfold mvB; rw [List.getElem?_eq_getElem hi]
theorem mvsB_true {n : Int} {xs : List ArmR} (h : ∀ j, j < xs.length → mvB n xs j = true) : mvsB n xs = true := by
  unfold mvsB; rw [List.all_eq_true]; intro j hj; exact h j (List.mem_range.1 hj)
theorem mvsB_false {n : Int} {xs : List ArmR} {i : Nat} (hi : i < xs.length) (h : mvB n xs i = false) : mvsB n xs = false := by
  unfold mvsB
  rw [List.all_eq_false]
  exact ⟨i, List.mem_range.2 hi, by simp [h]⟩
theorem natLe24 {m : Nat} : ((m : Int) ≤ 24) = (m ≤ 24) := by simp only [eq_iff_iff]; omega
theorem moveTest {H : Hp} {id g : Nat} {fr : Int} (h : rdC H id g 0 = some (.i fr)) (a : ArmR) (k : IV × Hp → Prop) :
    CM 221 [.agg (armC a), .c (.p id g 0)] H k = k (.c (.b (decide (a.fr = fr))), H) := by
  refine det (cw221 ?_) k
  unfold vf221c
  have hk : ∀ L, rdC (H ++ L) id g 0 = some (.i fr) := by
    intro L
    unfold rdC at h ⊢
    cases ho : rdOb H id g with
    | none => rw [ho] at h; cases h
    | some o => rw [ho] at h; rw [rdOb_app L ho]; exact h
  simp [armC, hk]
theorem implMoves {H : Hp} {w : CV} {xs : List ArmR} {n : Int} (hw : Arms H w xs) (hb : xs.length ≤ BIG) (k : IV × Hp → Prop) : CM 183 [.c w, .c (.i n)] H k = k (.c (.b (movesB n xs)), H) := by
  refine det (cw183 ?_) k
  unfold vf183c movesB
  simp [hw.lenOf]
  refine wp_for CM_mono xs.length (fun i s => (∀ j, j < i → mvB n xs j = true) ∧ Pre H s.h ∧ Env.get s.e 0 = .c w ∧ Env.get s.e 1 = .c (.i n) ∧ Env.get s.e 7 = .c w ∧ Env.get s.e 8 = .c (.i xs.length) ∧ Env.get s.e 9 = .c (.i i)) ⟨by simp, Pre.refl _, by simp⟩ ?_ ?_
  · rintro i ⟨e, X⟩ hi ⟨ht, ⟨L, hX⟩, h0, h1, h7, h8, h9⟩
    simp only at h0 h1 h7 h8 h9 hX ⊢
    subst hX
    obtain ⟨id, g, off, q1, q2, q3, q4, q5⟩ := hw.get hi
    have hA := mvB_at (n := n) hi
    unfold vf183b0
    by_cases f1 : xs[i].fr < 0
    · simp [h0, h1, h7, h8, h9, hi, q1, q3, f1, putAt, mvsB_false hi (by rw [hA, decide_eq_false (by omega : ¬ 0 ≤ xs[i].fr)]; rfl)]
    · by_cases f2 : n ≤ xs[i].fr
      · simp [h0, h1, h7, h8, h9, hi, q1, q3, f1, f2, putAt, mvsB_false hi (by rw [hA, decide_eq_false (by omega : ¬ xs[i].fr < n)]; simp)]
      · by_cases f3 : xs[i].v < 0
        · simp [h0, h1, h7, h8, h9, hi, q1, q3, f1, f2, f3, putAt, mvsB_false hi (by rw [hA, decide_eq_false (by omega : ¬ 0 ≤ xs[i].v)]; simp)]
        · by_cases f4 : n ≤ xs[i].v
          · simp [h0, h1, h7, h8, h9, hi, q1, q3, f1, f2, f3, f4, putAt, mvsB_false hi (by rw [hA, decide_eq_false (by omega : ¬ xs[i].v < n)]; simp)]
          · obtain ⟨w', s1, s2, s3, _⟩ := Row.slice (Arms.app hw (L ++ [⟨[.i xs[i].fr, .i xs[i].v], 0, true, 2⟩])) (l := 0) (m := i) (by omega) (by omega)
            have s3 := s3 rfl
            rw [List.drop_zero, Nat.sub_zero] at s2
            simp [h0, h1, h7, h8, h9, hi, q1, q3, f1, f2, f3, f4, putAt, s3]
            rw [containsMove s2 (by simp; omega) (fun a => decide (a.fr = xs[i].fr)) (fun l hl cs hcs k => by
              have hcs : cs = armC _ := hcs
              subst hcs
              exact moveTest (by simp) _ k)]
            cases f5 : (xs.take i).any fun a => decide (a.fr = xs[i].fr) with
            | true => simp [h0, h1, h7, h8, h9, mvsB_false hi (by rw [hA, f5]; simp)]
            | false =>
              have hAt : mvB n xs i = true := by rw [hA, f5]; simp; omega
              simp [h0, h1, h7, h8, h9, up1 hi hb]
              refine ⟨fun l hl => ?_, ?_⟩
              · by_cases el : l = i
                · subst el; exact hAt
                · exact ht l (by omega)
              · exact ⟨L ++ [⟨[.i xs[i].fr, .i xs[i].v], 0, true, 2⟩], by simp⟩
  · rintro ⟨e, X⟩ ⟨ht, ⟨L, hX⟩, h0, h1, h7, h8, h9⟩
    simp only at h0 h1 h7 h8 h9 hX ⊢
    subst hX
    unfold vf183b0
    simp [h0, h1, h7, h8, h9, hw.lenOf, (hw.app L).lenOf, mvsB_true ht, natLe24]
end Go.Proofs.YtgdfgnppeekfjaaGreat.Vm
end
section
/- Rows of numbers: copied one by one. No conditions. -/
namespace Go.Proofs.YtgdfgnppeekfjaaGreat.Vm
open Go.RowKit (wrap64)
set_option linter.unusedSimpArgs false
set_option linter.unusedVariables false
end Go.Proofs.YtgdfgnppeekfjaaGreat.Vm
end
section
/- Copies one behind the other: what they do. No conditions. -/
namespace Go.Proofs.YtgdfgnppeekfjaaGreat.Vm
end Go.Proofs.YtgdfgnppeekfjaaGreat.Vm
end
