/- The ideal machine: a deterministic reading of the translated code over a heap of objects. Definitions alone. No conditions. -/
import Derived.Orders
import Derived.RowKit
namespace Go.Proofs.YtgdfgnppeekfjaaGreat.Vm
open Go.RowKit (wrap64)
/-- What one cell may hold. `non`: not known. `und`: nothing was put there. `p id g off`: a place of an object; `sl id g off len`: a slice of it; `g`: the object's generation. -/
inductive CV where
  | non | und | i (n : Int) | y (n : Int) | b (x : Bool) | s (x : ByteArray)
  | np | p (id g off : Nat) | ns | sl (id g off len : Nat)
  deriving DecidableEq
/-- An object: its cells, its generation, whether it may be written, an element's size. -/
structure Ob where
  cells : List CV
  g : Nat
  rw : Bool
  sz : Nat
  deriving DecidableEq
abbrev Hp := List Ob
/-- What one temporary may hold. -/
inductive IV where
  | c (x : CV) | agg (cs : List CV) | f (fid : Nat) (caps : List CV) | tup (xs : List (Bool × List CV))
  deriving DecidableEq
/-- An operand. -/
inductive Od where
  | t (n : Nat) | k (v : IV)
  deriving DecidableEq
inductive Bo where
  | add | sub | mul | quo | rem | and | or | xor | shl | shr | eq | ne | lt | le | gt | ge
  deriving DecidableEq
inductive VOp where
  | mv (x : Od)
  | pick (c a b : Od)
  | alloc (zs : List CV)
  | box (x : Od)
  | build (zs : List CV) (parts : List (Nat × Nat × Od))
  | bsl (sz : Nat) (zs : List CV) (n : Nat) (parts : List (Nat × Nat × Od))
  | ld (n : Option Nat) (a : Od)
  | st (n : Nat) (a x : Od)
  | nilc (x : Od)
  | bin (o : Bo) (x y : Od)
  | shk (left : Bool) (n : Nat) (x : Od)
  | bck (x lo hi mx : Od)
  | eqa (n : Nat) (neg : Bool) (x y : Od)
  | eqb (neg : Bool) (x y : Od)
  | eqn (neg : Bool) (x : Od)
  | not (x : Od)
  | b2i (x : Od)
  | s2b (x : Od)
  | mks (sz : Nat) (zs : List CV) (x : Od)
  | slc (sz : Nat) (x : Od) (lo hi : Option Od)
  | fad (off : Nat) (x : Od)
  | idx (sz : Nat) (x i : Od)
  | ext (k : Nat) (x : Od)
  | mkf (fid : Nat) (caps : List Od)
  | call (fid : Nat) (args : List Od)
  | clv (x : Od) (args : List Od)
  | app (sz : Nat) (x y : Od)
  | len (x : Od)
  | lens (x : Od)
  | mn (x y : Od)
  | mx (x y : Od)
  | clr (sz : Nat) (zs : List CV) (x : Od)
  deriving DecidableEq
/-- One operation of a region: where its value goes, what it does, under which guard, behind which others; behind which others it comes in the text without an order between them, of which one looks into memory and one changes it; whether one of them comes behind it. -/
structure VO where
  d : Option Nat
  o : VOp
  gd : Option (Nat × Bool) := none
  dp : List Nat := []
  ck : List Nat := []
  rc : Bool := false
  deriving DecidableEq
abbrev V (d : Nat) (o : VOp) : VO := ⟨some d, o, none, [], [], false⟩
abbrev Vn (o : VOp) : VO := ⟨none, o, none, [], [], false⟩
abbrev Vg (d s : Nat) (w : Bool) (o : VOp) : VO := ⟨some d, o, some (s, w), [], [], false⟩
abbrev Vd (dp : List Nat) (x : VO) : VO := ⟨x.d, x.o, x.gd, dp, [], false⟩
abbrev Vc (dp ck : List Nat) (rc : Bool) (x : VO) : VO := ⟨x.d, x.o, x.gd, dp, ck, rc⟩
/-- Ways to go through a region whose order is drawn: one order, or two kinds of orders: `a` ahead of `b`, `b` ahead of `a`; or all orders at once. -/
inductive VT where
  | leaf (l : List (Nat × VO))
  | split (a b : Nat) (x y : VT)
  | all (ops : List VO)
inductive VC where
  | skip
  | rg (ops : List VO)
  | rd (ops : List VO)
  | rx (ops : List VO) (t : VT)
  | seq (a b : VC)
  | cond (x : Od) (a b : VC)
  | block (k : Nat) (c : VC)
  | loop (c : VC)
  | exit (k : Nat)
  | ret
/-- A function: its code, the places that live from region to region, its results. -/
structure VF where
  body : VC
  vars : List Nat
  res : List (Nat × Option (Option Nat))
abbrev Env := List (Nat × IV)
def Env.get : Env → Nat → IV
  | [], _ => .c .non
  | (k, v) :: r, n => if k = n then v else Env.get r n
structure St where
  e : Env
  h : Hp
def Od.get (e : Env) : Od → IV
  | .t n => Env.get e n
  | .k v => v
def cellsOf : IV → Option (List CV)
  | .c .non => none
  | .c .und => none
  | .c x => some [x]
  | .agg cs => some cs
  | _ => none
def tcOf : IV → Option (Bool × List CV)
  | .c x => some (false, [x])
  | .agg cs => some (true, cs)
  | _ => none
def ivOf : Bool × List CV → Option IV
  | (true, cs) => some (.agg cs)
  | (false, [x]) => some (.c x)
  | _ => none
def rdOb (H : Hp) (id g : Nat) : Option Ob :=
  match H[id]? with
  | some o => if o.g = g then some o else none
  | none => none
def putAt (cs : List CV) (off : Nat) (xs : List CV) : List CV := cs.take off ++ xs ++ cs.drop (off + xs.length)
def evalBin : Bo → CV → CV → Option CV
  | .add, .i a, .i b => some (.i (wrap64 (a + b)))
  | .sub, .i a, .i b => some (.i (wrap64 (a - b)))
  | .mul, .i a, .i b => some (.i (wrap64 (a * b)))
  | .quo, .i a, .i b => if b = 0 then none else some (.i (wrap64 (a.tdiv b)))
  | .rem, .i a, .i b => if b = 0 then none else some (.i (a.tmod b))
  | .and, .i a, .i b => some (.i (bits .and .i64 a b))
  | .or, .i a, .i b => some (.i (bits .or .i64 a b))
  | .xor, .i a, .i b => some (.i (bits .xor .i64 a b))
  | .shl, .i a, .i b => if 0 ≤ b ∧ b ≤ 64 then some (.i (wrap64 (a * 2 ^ b.toNat))) else none
  | .shr, .i a, .i b => if 0 ≤ b ∧ b ≤ 64 then some (.i (a / 2 ^ b.toNat)) else none
  | .eq, .i a, .i b => some (.b (a == b))
  | .ne, .i a, .i b => some (.b (a != b))
  | .lt, .i a, .i b => some (.b (decide (a < b)))
  | .le, .i a, .i b => some (.b (decide (a ≤ b)))
  | .gt, .i a, .i b => some (.b (decide (a > b)))
  | .ge, .i a, .i b => some (.b (decide (a ≥ b)))
  | .eq, .y a, .y b => some (.b (a == b))
  | .ne, .y a, .y b => some (.b (a != b))
  | .eq, .s a, .s b => some (.b (a == b))
  | .ne, .s a, .s b => some (.b (!(a == b)))
  | _, _, _ => none
def allInt : List CV → Bool
  | [] => true
  | .i _ :: r => allInt r
  | _ :: _ => false
def lay : List CV → List (Nat × List CV) → Option (List CV)
  | cs, [] => some cs
  | cs, (off, xs) :: r => if off + xs.length ≤ cs.length then lay (putAt cs off xs) r else none
def partsOf (e : Env) : List (Nat × Nat × Od) → Option (List (Nat × List CV))
  | [] => some []
  | (off, n, x) :: r => (cellsOf (x.get e)).bind fun cs => if cs.length = n then (partsOf e r).bind fun ps => some ((off, cs) :: ps) else none
def capsOf (e : Env) : List Od → Option (List CV)
  | [] => some []
  | x :: r => match x.get e with
    | .c v => (capsOf e r).bind fun vs => some (v :: vs)
    | _ => none
def LIM : Nat := 1099511627776
def fresh (H : Hp) (cs : List CV) (rw : Bool) (sz : Nat) : Hp := H ++ [⟨cs, 0, rw, sz⟩]
abbrev Orc := Nat → List IV → Hp → Option (IV × Hp)
def doSlice (H : Hp) (sz : Nat) (x : CV) (lo hi : Option IV) : Option IV :=
  match x with
  | .sl id g off len =>
    (match lo with | none => some 0 | some (.c (.i l)) => some l | _ => none).bind fun l =>
    (match hi with | none => some (len : Int) | some (.c (.i h)) => some h | _ => none).bind fun h =>
    if 0 ≤ l ∧ l ≤ h ∧ h ≤ len then
      (rdOb H id g).bind fun o => if o.sz = sz then some (.c (.sl id g (off + l.toNat * sz) (h.toNat - l.toNat))) else none
    else if 0 ≤ l ∧ l ≤ h then
      (rdOb H id g).bind fun o => if o.sz = sz ∧ 0 < sz ∧ off + h.toNat * sz ≤ o.cells.length then some (.c (.sl id g (off + l.toNat * sz) (h.toNat - l.toNat))) else none
    else none
  | .ns =>
    (match lo with | none => some 0 | some (.c (.i l)) => some l | _ => none).bind fun l =>
    (match hi with | none => some 0 | some (.c (.i h)) => some h | _ => none).bind fun h =>
    if l = 0 ∧ h = 0 then some (.c .ns) else none
  | _ => none
def srcOf (H : Hp) (sz : Nat) : CV → Option (Nat × List CV)
  | .ns => some (0, [])
  | .sl id g off len => (rdOb H id g).bind fun o => if off + len * sz ≤ o.cells.length then some (len, (o.cells.drop off).take (len * sz)) else none
  | _ => none
def doApp (H : Hp) (sz : Nat) (x : CV) (m : Nat) (xs : List CV) : Option (IV × Hp) :=
  match x with
  | .ns => if m = 0 then some (.c .ns, H) else if xs.length ≤ LIM then some (.c (.sl H.length 0 0 m), fresh H xs true sz) else none
  | .sl id g off len =>
    (rdOb H id g).bind fun o =>
      if o.rw = true ∧ o.sz = sz ∧ off = 0 then
        if len * sz + xs.length ≤ o.cells.length then
          some (.c (.sl id g 0 (len + m)), H.set id { o with cells := putAt o.cells (len * sz) xs })
        else if len * sz = o.cells.length ∧ o.cells.length + xs.length ≤ LIM then
          some (.c (.sl id (g + 1) 0 (len + m)), H.set id { o with cells := o.cells ++ xs, g := g + 1 })
        else none
      else none
  | _ => none
def stepV (K : Orc) (e : Env) (H : Hp) : VOp → Option (IV × Hp)
  | .mv x => some (x.get e, H)
  | .pick c a b => match c.get e with
    | .c (.b true) => some (a.get e, H)
    | .c (.b false) => some (b.get e, H)
    | _ => none
  | .alloc zs => some (.c (.p H.length 0 0), fresh H zs true zs.length)
  | .box x => (cellsOf (x.get e)).bind fun cs => some (.c (.p H.length 0 0), fresh H cs true cs.length)
  | .build zs parts => (partsOf e parts).bind fun ps => (lay zs ps).bind fun cs => some (.agg cs, H)
  | .bsl sz zs n parts => (partsOf e parts).bind fun ps => (lay (List.replicate n zs).flatten ps).bind fun cs =>
      some (.c (.sl H.length 0 0 n), fresh H cs true sz)
  | .ld none a => match a.get e with
    | .c (.p id g off) => (rdOb H id g).bind fun o => (o.cells[off]?).bind fun v => some (.c v, H)
    | _ => none
  | .ld (some n) a => match a.get e with
    | .c (.p id g off) => (rdOb H id g).bind fun o => if off + n ≤ o.cells.length then some (.agg ((o.cells.drop off).take n), H) else none
    | _ => none
  | .st n a x => match a.get e with
    | .c (.p id g off) => (rdOb H id g).bind fun o => (cellsOf (x.get e)).bind fun cs =>
        if o.rw = true ∧ cs.length = n ∧ off + n ≤ o.cells.length then some (.c .non, H.set id { o with cells := putAt o.cells off cs }) else none
    | _ => none
  | .nilc x => match x.get e with
    | .c (.p id g off) => some (.c (.p id g off), H)
    | _ => none
  | .bin o x y => match x.get e, y.get e with
    | .c a, .c b => (evalBin o a b).bind fun v => some (.c v, H)
    | _, _ => none
  | .shk left n x => match x.get e with
    | .c (.i a) => if n ≤ 64 then some (.c (.i (if left = true then wrap64 (a * 2 ^ n) else a / 2 ^ n)), H) else none
    | _ => none
  | .bck x lo hi mx => match x.get e, lo.get e, hi.get e, mx.get e with
    | .c (.sl _ _ _ len), .c (.i l), .c (.i h), .c (.i m) => if 0 ≤ l ∧ l ≤ h ∧ h ≤ m ∧ m ≤ len then some (.c .non, H) else none
    | _, _, _, _ => none
  | .eqa n neg x y => match x.get e, y.get e with
    | .agg xs, .agg ys => if xs.length = n ∧ ys.length = n ∧ allInt xs = true ∧ allInt ys = true then some (.c (.b (decide (xs = ys) != neg)), H) else none
    | _, _ => none
  | .eqb neg x y => match x.get e, y.get e with
    | .c (.b a), .c (.b b) => some (.c (.b ((a == b) != neg)), H)
    | _, _ => none
  | .eqn neg x => match x.get e with
    | .c .ns => some (.c (.b (!neg)), H)
    | .c (.sl ..) => some (.c (.b neg), H)
    | _ => none
  | .not x => match x.get e with
    | .c (.b v) => some (.c (.b (!v)), H)
    | _ => none
  | .b2i x => match x.get e with
    | .c (.y n) => some (.c (.i (wrap64 n)), H)
    | _ => none
  | .s2b x => match x.get e with
    | .c (.s v) => if v.size ≤ LIM then some (.c (.sl H.length 0 0 v.size), fresh H (v.data.toList.map fun b => .y b.toNat) false 1) else none
    | _ => none
  | .mks sz zs x => match x.get e with
    | .c (.i n) => if 0 ≤ n ∧ n.toNat * sz ≤ LIM then some (.c (.sl H.length 0 0 n.toNat), fresh H (List.replicate n.toNat zs).flatten true sz) else none
    | _ => none
  | .slc sz x lo hi => match x.get e with
    | .c v => (doSlice H sz v (lo.map (Od.get e)) (hi.map (Od.get e))).bind fun r => some (r, H)
    | _ => none
  | .fad off x => match x.get e with
    | .c (.p id g o) => some (.c (.p id g (o + off)), H)
    | _ => none
  | .idx sz x i => match x.get e, i.get e with
    | .c (.sl id g off len), .c (.i k) => if 0 ≤ k ∧ k < len then some (.c (.p id g (off + k.toNat * sz)), H) else none
    | _, _ => none
  | .ext k x => match x.get e with
    | .tup xs => (xs[k]?).bind fun t => (ivOf t).bind fun v => some (v, H)
    | _ => none
  | .mkf fid caps => (capsOf e caps).bind fun vs => some (.f fid vs, H)
  | .call fid args => K fid (args.map (Od.get e)) H
  | .clv x args => match x.get e with
    | .f fid caps => K fid (args.map (Od.get e) ++ caps.map .c) H
    | _ => none
  | .app sz x y => match x.get e, y.get e with
    | .c a, .c b => (srcOf H sz b).bind fun ms => doApp H sz a ms.1 ms.2
    | _, _ => none
  | .len x => match x.get e with
    | .c (.sl _ _ _ n) => some (.c (.i n), H)
    | .c .ns => some (.c (.i 0), H)
    | _ => none
  | .lens x => match x.get e with
    | .c (.s v) => some (.c (.i v.size), H)
    | _ => none
  | .mn x y => match x.get e, y.get e with
    | .c (.i a), .c (.i b) => some (.c (.i (if b < a then b else a)), H)
    | _, _ => none
  | .mx x y => match x.get e, y.get e with
    | .c (.i a), .c (.i b) => some (.c (.i (if a < b then b else a)), H)
    | _, _ => none
  | .clr sz zs x => match x.get e with
    | .c .ns => some (.tup [], H)
    | .c (.sl id g off len) => (rdOb H id g).bind fun o =>
        if o.rw = true ∧ off + len * sz ≤ o.cells.length then some (.tup [], H.set id { o with cells := putAt o.cells off (List.replicate len zs).flatten }) else none
    | _ => none
def setD (e : Env) (d : Option Nat) (v : IV) : Env :=
  match d with
  | some n => (n, v) :: e
  | none => e
def prune (vars : List Nat) (st : St) : St := ⟨vars.map fun k => (k, Env.get st.e k), st.h⟩
def readyV (ops : List VO) (listed : List Bool) : List Nat :=
  (List.range ops.length).filter fun i => !(listed.getD i true) && ((ops[i]?).map (·.dp.all fun j => listed.getD j false)).getD false
inductive X where
  | norm | exit (k : Nat) | ret
  deriving DecidableEq
def resOf (st : St) : Nat × Option (Option Nat) → Option IV
  | (s, none) => some (Env.get st.e s)
  | (s, some n) => (stepV (fun _ _ _ => none) st.e st.h (.ld n (.t s))).bind fun r => some r.1
def ressOf (st : St) : List (Nat × Option (Option Nat)) → Option (List (Bool × List CV))
  | [] => some []
  | x :: r => (resOf st x).bind fun v => (tcOf v).bind fun t => (ressOf st r).bind fun ts => some (t :: ts)
def resultOf (st : St) : List (Nat × Option (Option Nat)) → Option IV
  | [x] => resOf st x
  | l => (ressOf st l).bind fun ts => some (.tup ts)
def flatC : CV → Bool
  | .p .. => false
  | .sl .. => false
  | _ => true
def flatV : IV → Bool
  | .c x => flatC x
  | .agg cs => cs.all flatC
  | .tup ts => ts.all fun t => t.2.all flatC
  | .f .. => false
def gcRet (H : Hp) (r : IV) (H' : Hp) : IV × Hp :=
  if H'.take H.length = H then
    if flatV r = true then (r, H)
    else match r with
      | .c (.sl id g 0 len) =>
        if H.length ≤ id then
          match H'[id]? with
          | some o => if o.g = g ∧ o.rw = true ∧ o.cells.all flatC = true then (.c (.sl H.length 0 0 len), H ++ [{ o with g := 0 }]) else (r, H')
          | none => (r, H')
        else (r, H')
      | _ => (r, H')
  else (r, H')
abbrev Code := Nat → Option VF
def enter (vars : List Nat) (args : List IV) : Env := vars.map fun k => (k, args.getD k (.c .non))
/-! ### Runs, told by what holds behind them, whatever the order of what has none -/
def WP {α : Type} (o : Option α) (Q : α → Prop) : Prop := ∃ r, o = some r ∧ Q r
abbrev OrD := Nat → List IV → Hp → (IV × Hp → Prop) → Prop
def noK : Orc := fun _ _ _ => none
def stepD (K : OrD) (e : Env) (H : Hp) (o : VOp) (Q : IV × Hp → Prop) : Prop :=
  match o with
  | .call fid args => K fid (args.map (Od.get e)) H Q
  | .clv x args => match x.get e with
    | .f fid caps => K fid (args.map (Od.get e) ++ caps.map .c) H Q
    | _ => False
  | o => WP (stepV noK e H o) Q
def runOpD (K : OrD) (vo : VO) (st : St) (k : St → Prop) : Prop :=
  match vo.gd with
  | none => stepD K st.e st.h vo.o fun r => k ⟨setD st.e vo.d r.1, r.2⟩
  | some (s, want) => match Env.get st.e s with
    | .c (.b x) => if x = want then stepD K st.e st.h vo.o fun r => k ⟨setD st.e vo.d r.1, r.2⟩ else k ⟨setD st.e vo.d (.c .und), st.h⟩
    | .c .und => k ⟨setD st.e vo.d (.c .und), st.h⟩
    | _ => False
def runOpsD (K : OrD) : List VO → St → (St → Prop) → Prop
  | [], st, k => k st
  | o :: r, st, k => runOpD K o st fun s => runOpsD K r s k
def RunAllD (K : OrD) (ops : List VO) (Q : St → Prop) : Nat → List Bool → St → Prop
  | 0, listed, st => readyV ops listed = [] ∧ Q st
  | n + 1, listed, st =>
    (readyV ops listed = [] → Q st) ∧
    ∀ i ∈ readyV ops listed, ∃ o, ops[i]? = some o ∧ runOpD K o st fun s => RunAllD K ops Q n (listed.set i true) s
def thenD (f : St → Prop) (Q : X × St → Prop) (r : X × St) : Prop :=
  match r.1 with
  | .norm => f r.2
  | x => Q (x, r.2)
def blockD (k : Nat) (Q : X × St → Prop) (r : X × St) : Prop :=
  match r.1 with
  | .exit k' => if k' = k then Q (.norm, r.2) else Q (.exit k', r.2)
  | x => Q (x, r.2)
def loopD (f : St → (X × St → Prop) → Prop) (st : St) (Q : X × St → Prop) : Prop :=
  ∀ I : St → Prop, (∀ s, f s (thenD I Q) → I s) → I st
def exD (K : OrD) (vars : List Nat) : VC → St → (X × St → Prop) → Prop
  | .skip, st, Q => Q (.norm, st)
  | .rg ops, st, Q => runOpsD K ops st fun s => Q (.norm, prune vars s)
  | .rd ops, st, Q => RunAllD K ops (fun s => Q (.norm, prune vars s)) ops.length (List.replicate ops.length false) st
  | .rx ops _, st, Q => RunAllD K ops (fun s => Q (.norm, prune vars s)) ops.length (List.replicate ops.length false) st
  | .seq a b, st, Q => exD K vars a st (thenD (fun s => exD K vars b s Q) Q)
  | .cond x a b, st, Q => match x.get st.e with
    | .c (.b true) => exD K vars a st Q
    | .c (.b false) => exD K vars b st Q
    | _ => False
  | .block k c, st, Q => exD K vars c st (blockD k Q)
  | .loop c, st, Q => loopD (exD K vars c) st Q
  | .exit k, st, Q => Q (.exit k, st)
  | .ret, st, Q => Q (.ret, st)
def finD (H : Hp) (res : List (Nat × Option (Option Nat))) (Q : IV × Hp → Prop) (r : X × St) : Prop :=
  match r.1 with
  | .exit _ => False
  | _ => WP (resultOf r.2 res) fun v => Q (gcRet H v r.2.h)
def bodyD (M : Code) (X0 K : OrD) : OrD := fun f as H Q =>
  match M f with
  | none => X0 f as H Q
  | some vf => exD K vf.vars vf.body ⟨enter vf.vars as, H⟩ (finD H vf.res Q)
def MonoK (K : OrD) : Prop := ∀ f as H Q Q', (∀ r, Q r → Q' r) → K f as H Q → K f as H Q'
def callD (M : Code) (X0 : OrD) : OrD := fun f as H Q =>
  ∀ K : OrD, MonoK K → (∀ f as H Q, bodyD M X0 K f as H Q → K f as H Q) → K f as H Q
end Go.Proofs.YtgdfgnppeekfjaaGreat.Vm
