/- Which of the ideal machine's operations stands for which of the translated code's: a check by reckoning. Definitions alone. No conditions. -/
import Derived.Test.YtgdfgnppeekfjaaGreatVmB
namespace Go.Proofs.YtgdfgnppeekfjaaGreat.Vm
open Go.RowKit (wrap64 Below)
def chkCV : CV → Value → Bool
  | .i n, .int .i64 m => decide (n = m)
  | .y n, .int .u8 m => decide (n = m)
  | .b x, .bool y => x == y
  | .s x, .string y => decide (x = y)
  | .np, .pointer none => true
  | .ns, .slice none 0 0 => true
  | _, _ => false
def chkCVs : List CV → List Value → Bool
  | [], [] => true
  | c :: cs, v :: vs => chkCV c v && chkCVs cs vs
  | _, _ => false
def chkOd : Od → Operand → Bool
  | .t n, .tmp m => n == m
  | .k (.c c), .const v => chkCV c v
  | .k (.f fid []), .func f => fid == f
  | _, _ => false
def chkOds : List Od → List Operand → Bool
  | [], [] => true
  | c :: cs, v :: vs => chkOd c v && chkOds cs vs
  | _, _ => false
def szOf (P : Program) (t : TypeId) : Option Nat := (P.info? t).map (·.size)
def zeroOf (P : Program) (t : TypeId) : Option (List Value) := (P.info? t).bind fun i => i.zero.map (·.cells.toList)
def elOf (P : Program) (t : TypeId) : Option TypeId :=
  match P.underlying t with
  | some (.slice e) => some e
  | _ => none
def aggOf (P : Program) (t : TypeId) : Option Bool :=
  match P.underlying t with
  | some (.struct _) => some true
  | some (.array _ _) => some true
  | some _ => some false
  | none => none
def zeroIs (P : Program) (t : TypeId) (zs : List CV) : Bool :=
  match zeroOf P t with
  | some vs => chkCVs zs vs
  | none => false
def fieldOf (P : Program) (t : TypeId) (k : Nat) : Option (Nat × Nat) :=
  match P.underlying t with
  | some (.struct fs) => (fs[k]?).bind fun f => (szOf P f.type).map fun n => (f.offset, n)
  | _ => none
def boOf : BinOp → Bo → Bool
  | .add, .add | .sub, .sub | .mul, .mul | .quo, .quo | .rem, .rem | .and, .and | .or, .or | .xor, .xor | .shl, .shl | .shr, .shr => true
  | .eql, .eq | .neq, .ne | .lss, .lt | .leq, .le | .gtr, .gt | .geq, .ge => true
  | _, _ => false
def negOf : BinOp → Bool → Bool
  | .eql, false => true
  | .neq, true => true
  | _, _ => false
def intFields (P : Program) : List Field → Nat → Bool
  | [], _ => true
  | f :: r, k => f.name != "_" && f.offset == k && (match P.underlying f.type with | some (.int _) => true | _ => false) && intFields P r (k + 1)
def intStruct (P : Program) (t : TypeId) (n : Nat) : Bool :=
  match P.underlying t with
  | some (.struct fs) => fs.size == n && intFields P fs.toList 0 && !P.stoodInHeld t && !P.eqGuardType P.depth t
  | _ => false
def chkFill (P : Program) (t : TypeId) : List (Nat × Operand) → List (Nat × Nat × Od) → Bool
  | [], [] => true
  | (i, x) :: r, (off, n, y) :: r' => chkOd y x && decide (fieldOf P t i = some (off, n)) && chkFill P t r r'
  | _, _ => false
def chkFillS (sz : Nat) : List (Nat × Operand) → List (Nat × Nat × Od) → Bool
  | [], [] => true
  | (i, x) :: r, (off, n, y) :: r' => chkOd y x && off == i * sz && n == sz && chkFillS sz r r'
  | _, _ => false
def allSized (P : Program) (fs : List Field) : Bool := fs.all fun f => (szOf P f.type).isSome
def chkOpt : Option Od → Option Operand → Bool
  | none, none => true
  | some y, some x => chkOd y x
  | _, _ => false
def chkOp (P : Program) (op : Op) (v : VOp) : Bool :=
  match op, v with
  | .move x, .mv y | .assign x, .mv y => chkOd y x
  | .pick c a b, .pick c' a' b' => chkOd c' c && chkOd a' a && chkOd b' b
  | .alloc t, .alloc zs => zeroIs P t zs
  | .box _ x, .box y => chkOd y x
  | .build t ps, .build zs ps' => zeroIs P t zs && chkFill P t ps.toList ps' && (match P.underlying t with | some (.struct fs) => allSized P fs.toList | _ => false)
  | .buildSlice t n ps, .bsl sz zs n' ps' => n == n' && (match elOf P t with
    | some e => decide (szOf P e = some sz) && zeroIs P e zs && zs.length == sz && decide (0 < sz) && decide (n * sz ≤ 16777216) && chkFillS sz ps.toList ps'
    | none => false)
  | .load t x, .ld n y => chkOd y x && (match aggOf P t, n with
    | some true, some k => decide (szOf P t = some k)
    | some false, none => true
    | _, _ => false)
  | .store t a x, .st n a' x' => chkOd a' a && chkOd x' x && decide (szOf P t = some n)
  | .nilCheck x, .nilc y => chkOd y x
  | .binOp op _ x y _, .bin b x' y' => boOf op b && chkOd x' x && chkOd y' y
  | .binOp .shl _ x (.const (.int _ m)) _, .shk true n x' => chkOd x' x && decide (m = (n : Int))
  | .binOp .shr _ x (.const (.int _ m)) _, .shk false n x' => chkOd x' x && decide (m = (n : Int))
  | .slice t x (some lo) (some hi) (some mx), .bck y lo' hi' mx' => chkOd y x && chkOd lo' lo && chkOd hi' hi && chkOd mx' mx && (match elOf P t with | some e => (szOf P e).isSome | none => false)
  | .binOp op t x y _, .eqa n neg x' y' => negOf op neg && chkOd x' x && chkOd y' y && intStruct P t n
  | .binOp op t x y _, .eqb neg x' y' => negOf op neg && chkOd x' x && chkOd y' y && (match P.underlying t with | some .bool => true | _ => false)
  | .binOp op t x y _, .eqn neg x' => negOf op neg && chkOd x' x && (match y with | .const (.slice none 0 0) => true | _ => false) && (elOf P t).isSome
  | .unOp .not _ x, .not y => chkOd y x
  | .convert src dst x, .b2i y => chkOd y x && (P.underlying src).isSome && (match P.underlying dst with | some (.int .i64) => true | _ => false)
  | .convert src dst x, .s2b y => chkOd y x && (P.underlying src).isSome && (match elOf P dst with | some e => (match P.underlying e with | some (.int .u8) => true | _ => false) | none => false)
  | .makeSlice t l c, .mks sz zs y => chkOd y l && chkOd y c && (match elOf P t with
    | some e => decide (szOf P e = some sz) && zeroIs P e zs && zs.length == sz && decide (0 < sz) && (match P.info? e with | some i => decide (i.bytes ≤ 64 * sz) | none => false)
    | none => false)
  | .slice t x lo hi none, .slc sz y lo' hi' => chkOd y x && chkOpt lo' lo && chkOpt hi' hi && (match elOf P t with | some e => decide (szOf P e = some sz) | none => false)
  | .fieldAddr t x k, .fad off y => chkOd y x && (match fieldOf P t k with | some (o, n) => o == off && decide (0 < n) | none => false)
  | .indexAddr t x i, .idx sz y j => chkOd y x && chkOd j i && (match elOf P t with | some e => decide (szOf P e = some sz) | none => false)
  | .extract x k, .ext k' y => chkOd y x && k == k'
  | .makeFunc (.func f) first caps, .mkf f' caps' => first.isEmpty && f == f' && chkOds caps' caps.toList
  | .call { callee := .value (.func f), args, .. }, .call f' args' => f == f' && chkOds args' args.toList
  | .call { callee := .value x, args, .. }, .clv y args' => chkOd y x && chkOds args' args.toList
  | .call { callee := .builtin .append, args := args, argTypes := ts }, .app sz x' y' => (match args.toList, ts.toList with
    | [x, y], [t, t'] => chkOd x' x && chkOd y' y && t == t' && (match elOf P t with
      | some e => decide (szOf P e = some sz) && decide (0 < sz) && (match P.info? e with | some i => decide (i.bytes ≤ 64 * sz) && (match i.zero with | some z => z.cells.size == sz | none => false) | none => false)
      | none => false)
    | _, _ => false)
  | .call { callee := .builtin .len, args := args, argTypes := ts }, .len x' => (match args.toList, ts.toList with
    | [x], [t] => chkOd x' x && (elOf P t).isSome
    | _, _ => false)
  | .call { callee := .builtin .len, args := args, argTypes := ts }, .lens x' => (match args.toList, ts.toList with
    | [x], [t] => chkOd x' x && (match P.underlying t with | some .string => true | _ => false)
    | _, _ => false)
  | .call { callee := .builtin .min, args := args, .. }, .mn x' y' => (match args.toList with | [x, y] => chkOd x' x && chkOd y' y | _ => false)
  | .call { callee := .builtin .max, args := args, .. }, .mx x' y' => (match args.toList with | [x, y] => chkOd x' x && chkOd y' y | _ => false)
  | .call { callee := .builtin .clear, args := args, argTypes := ts }, .clr sz zs x' => (match args.toList, ts.toList with
    | [x], [t] => chkOd x' x && (match elOf P t with
      | some e => zeroIs P e zs && zs.length == sz && decide (0 < sz)
      | none => false)
    | _, _ => false)
  | _, _ => false
def chkGuard (ops : List Oper) : Option (Nat × Bool) → Option (Nat × Bool) → Bool
  | none, none => true
  | some (j, w), some (s, w') => w == w' && decide ((ops[j]?).bind (·.dst) = some s)
  | _, _ => false
def chkDst (N : Nat) : Option Nat → Bool
  | none => true
  | some d => decide (d < N)
def chkVO (P : Program) (N : Nat) (ops : List Oper) (o : Oper) (v : VO) : Bool :=
  chkOp P o.op v.o && decide (o.dst = v.d) && chkDst N v.d && chkGuard ops o.guard v.gd
def chkOps (P : Program) (N : Nat) (all : List Oper) : List Oper → List VO → Bool
  | [], [] => true
  | o :: os, v :: vs => chkVO P N all o v && chkOps P N all os vs
  | _, _ => false
def chkDeps : Nat → List Oper → List VO → Bool
  | _, [], [] => true
  | k, o :: os, v :: vs =>
    (v.dp.all fun j => o.after.toList.any fun e => Region.binds .any e && e.on == j) &&
    (o.after.toList.all fun e => !Region.binds .any e || decide (e.on < k)) && chkDeps (k + 1) os vs
  | _, _, _ => false
def chkC (P : Program) (N : Nat) : Go.Code → VC → Bool
  | .skip, .skip => true
  | .region _ ops false, .rg vs => chkOps P N ops.toList ops.toList vs
  | .region _ ops true, .rx vs _ => chkOps P N ops.toList ops.toList vs && chkDeps 0 ops.toList vs
  | .region _ ops true, .rd vs => chkOps P N ops.toList ops.toList vs && chkDeps 0 ops.toList vs
  | .seq a b, .seq a' b' => chkC P N a a' && chkC P N b b'
  | .cond x a b, .cond x' a' b' => chkOd x' x && chkC P N a a' && chkC P N b b'
  | .block k c, .block k' c' => k == k' && chkC P N c c'
  | .loop c, .loop c' => chkC P N c c'
  | .exit k, .exit k' => k == k'
  | .ret, .ret => true
  | _, _ => false
def chkRes (P : Program) : List ResultVar → List (Nat × Option (Option Nat)) → Bool
  | [], [] => true
  | .tmp t :: r, (s, none) :: r' => t == s && chkRes P r r'
  | .cell a t :: r, (s, some n) :: r' => a == s && (match aggOf P t, n with
    | some true, some k => decide (szOf P t = some k)
    | some false, none => true
    | _, _ => false) && chkRes P r r'
  | _, _ => false
def chkF (P : Program) (fn : Func) (v : VF) : Bool :=
  (match fn.body with | some c => chkC P fn.ntmps c v.body | none => false) && chkRes P fn.results.toList v.res && !(fn.name == "runtime.NumGoroutine")
end Go.Proofs.YtgdfgnppeekfjaaGreat.Vm
