/- The ideal machine's code for some of the program's functions, each checked against the translated one. No conditions. -/
import Derived.Test.YtlhhmlldcpafiaaChecked
import Derived.Test.YtlhhmlldcpafiaaVmP
import Derived.Test.YtlhhmlldcpafiaaVmC
namespace Go.Proofs.Ytlhhmlldcpafiaa.Vm
set_option linter.unusedVariables false
set_option maxRecDepth 100000
/-- slices.DeleteFuncloop.example/g00192/impl.Moveloop.example/g00192/impl.Move -/
def vf60v : List Nat := [0,1,4,5,6,7,12,19,29]
def vf60b0 : VC := .seq (.seq (.rg [V 16 (.mv (.t 6)),
V 17 (.mv (.t 0)),
V 18 (.len (.t 17)),
V 19 (.bin .lt (.t 16) (.t 18))]) (.cond (.t 19) (.skip) (.exit 0))) (.seq (.block 1 (.seq (.rg [V 22 (.mv (.t 0)),
V 23 (.mv (.t 6)),
V 24 (.idx 2 (.t 22) (.t 23)),
V 25 (.ld (some 2) (.t 24)),
V 7 (.alloc [.i 0,.i 0]),
Vn (.st 2 (.t 7) (.t 25))]) (.seq (.rg [V 26 (.mv (.t 1)),
V 27 (.ld (some 2) (.t 7)),
V 28 (.clv (.t 26) [(.t 27)]),
V 29 (.not (.t 28))]) (.cond (.t 29) (.seq (.rg [V 30 (.mv (.t 0)),
V 31 (.mv (.t 5)),
V 32 (.ld (some 2) (.t 7)),
V 33 (.idx 2 (.t 30) (.t 31)),
Vn (.st 2 (.t 33) (.t 32))]) (.rg [V 34 (.mv (.t 5)),
V 35 (.bin .add (.t 34) (.k (.c (.i 1)))),
V 5 (.mv (.t 35))])) (.skip))))) (.rg [V 20 (.mv (.t 6)),
V 21 (.bin .add (.t 20) (.k (.c (.i 1)))),
V 6 (.mv (.t 21))]))
def vf60 : VF := ⟨.seq (.rg [V 4 (.mv (.k (.c .ns)))]) (.seq (.rg [V 8 (.mv (.t 0)),
V 9 (.mv (.t 1)),
V 10 (.call 79 [(.t 8),(.t 9)]),
V 5 (.mv (.t 10))]) (.seq (.seq (.rg [V 11 (.mv (.t 5)),
V 12 (.bin .eq (.t 11) (.k (.c (.i (-1)))))]) (.cond (.t 12) (.seq (.rg [V 13 (.mv (.t 0)),
V 4 (.mv (.t 13))]) (.ret)) (.skip))) (.seq (.seq (.rg [V 14 (.mv (.t 5)),
V 15 (.bin .add (.t 14) (.k (.c (.i 1)))),
V 6 (.mv (.t 15))]) (.block 0 (.loop vf60b0))) (.seq (.rg [V 36 (.mv (.t 0)),
V 37 (.mv (.t 5)),
V 38 (.slc 2 (.t 36) (some (.t 37)) none),
Vn (.clr 2 [.i 0,.i 0] (.t 38))]) (.seq (.rg [V 39 (.mv (.t 0)),
V 40 (.mv (.t 5)),
V 41 (.slc 2 (.t 39) none (some (.t 40))),
V 4 (.mv (.t 41))]) (.ret)))))),
vf60v,[(4,none)]⟩
theorem ok60 : chkF Try.prog Try.f60 vf60 = true := by kernel_rfl
theorem dr60 : drawsB vf60.body = true := by kernel_rfl
/-- slices.Cloneloop.example/g00192/impl.Moveloop.example/g00192/impl.Move -/
def vf61v : List Nat := [0,2,4]
def vf61 : VF := ⟨.seq (.rg [V 2 (.mv (.k (.c .ns)))]) (.seq (.seq (.rg [V 3 (.mv (.t 0)),
V 4 (.eqn false (.t 3))]) (.cond (.t 4) (.seq (.rg [V 2 (.mv (.k (.c .ns)))]) (.ret)) (.skip))) (.seq (.rg [V 5 (.bsl 2 [.i 0,.i 0] 0 []),
V 6 (.mv (.t 0)),
V 7 (.app 2 (.t 5) (.t 6)),
V 2 (.mv (.t 7))]) (.ret))),
vf61v,[(2,none)]⟩
theorem ok61 : chkF Try.prog Try.f61 vf61 = true := by kernel_rfl
theorem dr61 : drawsB vf61.body = true := by kernel_rfl
/-- loop.example/g00192/impl.freeMove -/
def vf63v : List Nat := [0,1,2]
def vf63 : VF := ⟨.seq (.rg [V 1 (.box (.t 0)),
V 2 (.mv (.k (.c (.i 0))))]) (.seq (.rg [V 3 (.ld none (.t 1)),
V 4 (.mkf 80 [(.t 1)]),
V 5 (.call 79 [(.t 3),(.t 4)]),
V 2 (.mv (.t 5))]) (.ret)),
vf63v,[(2,none)]⟩
theorem ok63 : chkF Try.prog Try.f63 vf63 = true := by kernel_rfl
theorem dr63 : drawsB vf63.body = true := by kernel_rfl
/-- slices.Deleteloop.example/g00192/impl.Moveloop.example/g00192/impl.Move -/
def vf64v : List Nat := [0,1,2,6,7,16]
def vf64 : VF := ⟨.seq (.rg [V 6 (.mv (.k (.c .ns)))]) (.seq (.rg [V 8 (.mv (.t 0)),
V 9 (.mv (.t 1)),
V 10 (.mv (.t 2)),
V 11 (.mv (.t 0)),
V 12 (.len (.t 11)),
V 13 (.bck (.t 8) (.t 9) (.t 10) (.t 12))]) (.seq (.seq (.rg [V 14 (.mv (.t 1)),
V 15 (.mv (.t 2)),
V 16 (.bin .eq (.t 14) (.t 15))]) (.cond (.t 16) (.seq (.rg [V 17 (.mv (.t 0)),
V 6 (.mv (.t 17))]) (.ret)) (.skip))) (.seq (.rg [V 18 (.mv (.t 0)),
V 19 (.len (.t 18)),
V 7 (.mv (.t 19))]) (.seq (.rd [V 20 (.mv (.t 0)),
V 21 (.mv (.t 1)),
Vd [0,1] (V 22 (.slc 2 (.t 20) none (some (.t 21)))),
V 23 (.mv (.t 0)),
V 24 (.mv (.t 2)),
Vd [3,4] (V 25 (.slc 2 (.t 23) (some (.t 24)) none)),
Vb [2,5] (V 26 (.app 2 (.t 22) (.t 25))),
Vd [6] (V 0 (.mv (.t 26)))]) (.seq (.rg [V 27 (.mv (.t 0)),
V 28 (.mv (.t 0)),
V 29 (.len (.t 28)),
V 30 (.mv (.t 7)),
V 31 (.slc 2 (.t 27) (some (.t 29)) (some (.t 30))),
Vn (.clr 2 [.i 0,.i 0] (.t 31))]) (.seq (.rg [V 32 (.mv (.t 0)),
V 6 (.mv (.t 32))]) (.ret))))))),
vf64v,[(6,none)]⟩
theorem ok64 : chkF Try.prog Try.f64 vf64 = true := by kernel_rfl
theorem dr64 : drawsB vf64.body = true := by kernel_rfl
/-- loop.example/g00192/spec.l9Sequence -/
def vf65v : List Nat := [0,1,4,5,6,7,8,9,10,15,28,39,43,57,66]
def vf65b0 : VC := .seq (.seq (.rg [V 12 (.mv (.t 6)),
V 13 (.mv (.t 0)),
V 14 (.len (.t 13)),
V 15 (.bin .lt (.t 12) (.t 14))]) (.cond (.t 15) (.skip) (.exit 0))) (.seq (.block 1 (.seq (.rd [V 18 (.mv (.t 0)),
V 19 (.mv (.t 6)),
Vd [0,1] (V 20 (.idx 2 (.t 18) (.t 19))),
Vd [2] (V 21 (.fad 0 (.t 20))),
Vd [3] (V 22 (.ld none (.t 21))),
V 23 (.mv (.t 0)),
V 24 (.mv (.t 6)),
Vd [5,6] (V 25 (.idx 2 (.t 23) (.t 24))),
Vd [7] (V 26 (.fad 1 (.t 25))),
Vd [8] (V 27 (.ld none (.t 26))),
Vd [4,9] (V 28 (.bin .ne (.t 22) (.t 27)))]) (.cond (.t 28) (.rg [V 29 (.mv (.t 5)),
V 30 (.mv (.t 0)),
V 31 (.mv (.t 6)),
V 32 (.idx 2 (.t 30) (.t 31)),
V 33 (.ld (some 2) (.t 32)),
V 34 (.bsl 2 [.i 0,.i 0] 1 [(0,2,(.t 33))]),
V 35 (.app 2 (.t 29) (.t 34)),
V 5 (.mv (.t 35))]) (.skip)))) (.rg [V 16 (.mv (.t 6)),
V 17 (.bin .add (.t 16) (.k (.c (.i 1)))),
V 6 (.mv (.t 17))]))
def vf65b1 : VC := .seq (.seq (.rg [V 54 (.mv (.t 10)),
V 55 (.mv (.t 5)),
V 56 (.len (.t 55)),
V 57 (.bin .lt (.t 54) (.t 56))]) (.cond (.t 57) (.skip) (.exit 4))) (.seq (.block 5 (.seq (.rg [V 60 (.mv (.t 5)),
V 61 (.mv (.t 10)),
V 62 (.idx 2 (.t 60) (.t 61)),
V 63 (.fad 1 (.t 62)),
V 64 (.ld none (.t 63)),
V 65 (.mv (.t 9)),
V 66 (.bin .eq (.t 64) (.t 65))]) (.cond (.t 66) (.rg [V 67 (.mv (.t 5)),
V 68 (.mv (.t 10)),
V 69 (.mv (.t 1)),
V 70 (.idx 2 (.t 67) (.t 68)),
V 71 (.fad 1 (.t 70)),
Vn (.st 1 (.t 71) (.t 69))]) (.skip)))) (.rg [V 58 (.mv (.t 10)),
V 59 (.bin .add (.t 58) (.k (.c (.i 1)))),
V 10 (.mv (.t 59))]))
def vf65b2 : VC := .seq (.seq (.rg [V 37 (.mv (.t 5)),
V 38 (.len (.t 37)),
V 39 (.bin .gt (.t 38) (.k (.c (.i 0))))]) (.cond (.t 39) (.skip) (.exit 2))) (.block 3 (.seq (.rg [V 40 (.mv (.t 5)),
V 41 (.call 82 [(.t 40)]),
V 8 (.mv (.t 41))]) (.seq (.seq (.rg [V 42 (.mv (.t 8)),
V 43 (.bin .lt (.t 42) (.k (.c (.i 0))))]) (.cond (.t 43) (.seq (.rg [V 44 (.mv (.t 5)),
V 45 (.idx 2 (.t 44) (.k (.c (.i 0)))),
V 46 (.fad 0 (.t 45)),
V 47 (.ld none (.t 46)),
V 9 (.mv (.t 47))]) (.seq (.rg [V 48 (.mv (.t 7)),
V 49 (.mv (.t 1)),
V 50 (.mv (.t 9)),
V 51 (.build [.i 0,.i 0] [(0,1,(.t 49)),(1,1,(.t 50))]),
V 52 (.bsl 2 [.i 0,.i 0] 1 [(0,2,(.t 51))]),
V 53 (.app 2 (.t 48) (.t 52)),
V 7 (.mv (.t 53))]) (.seq (.seq (.rg [V 10 (.mv (.k (.c (.i 0))))]) (.block 4 (.loop vf65b1))) (.exit 3)))) (.skip))) (.seq (.rg [V 72 (.mv (.t 7)),
V 73 (.mv (.t 5)),
V 74 (.mv (.t 8)),
V 75 (.idx 2 (.t 73) (.t 74)),
V 76 (.ld (some 2) (.t 75)),
V 77 (.bsl 2 [.i 0,.i 0] 1 [(0,2,(.t 76))]),
V 78 (.app 2 (.t 72) (.t 77)),
V 7 (.mv (.t 78))]) (.rd [V 79 (.bsl 2 [.i 0,.i 0] 0 []),
V 80 (.mv (.t 5)),
V 81 (.mv (.t 8)),
Vd [1,2] (V 82 (.slc 2 (.t 80) none (some (.t 81)))),
Vd [0,3] (V 83 (.app 2 (.t 79) (.t 82))),
V 84 (.mv (.t 5)),
V 85 (.mv (.t 8)),
Vd [6] (V 86 (.bin .add (.t 85) (.k (.c (.i 1))))),
Vd [5,7] (V 87 (.slc 2 (.t 84) (some (.t 86)) none)),
Vb [4,8] (V 88 (.app 2 (.t 83) (.t 87))),
Vd [9] (V 5 (.mv (.t 88)))])))))
def vf65 : VF := ⟨.seq (.rg [V 4 (.mv (.k (.c .ns)))]) (.seq (.rg [V 11 (.bsl 2 [.i 0,.i 0] 0 []),
V 5 (.mv (.t 11))]) (.seq (.seq (.rg [V 6 (.mv (.k (.c (.i 0))))]) (.block 0 (.loop vf65b0))) (.seq (.rg [V 36 (.bsl 2 [.i 0,.i 0] 0 []),
V 7 (.mv (.t 36))]) (.seq (.block 2 (.loop vf65b2)) (.seq (.rg [V 89 (.mv (.t 7)),
V 4 (.mv (.t 89))]) (.ret)))))),
vf65v,[(4,none)]⟩
theorem ok65 : chkF Try.prog Try.f65 vf65 = true := by kernel_rfl
theorem dr65 : drawsB vf65.body = true := by kernel_rfl
/-- slices.Cloneintint -/
def vf66v : List Nat := [0,2,4]
def vf66 : VF := ⟨.seq (.rg [V 2 (.mv (.k (.c .ns)))]) (.seq (.seq (.rg [V 3 (.mv (.t 0)),
V 4 (.eqn false (.t 3))]) (.cond (.t 4) (.seq (.rg [V 2 (.mv (.k (.c .ns)))]) (.ret)) (.skip))) (.seq (.rg [V 5 (.bsl 1 [.i 0] 0 []),
V 6 (.mv (.t 0)),
V 7 (.app 1 (.t 5) (.t 6)),
V 2 (.mv (.t 7))]) (.ret))),
vf66v,[(2,none)]⟩
theorem ok66 : chkF Try.prog Try.f66 vf66 = true := by kernel_rfl
theorem dr66 : drawsB vf66.body = true := by kernel_rfl
/-- loop.example/g00192/spec.l1Bit -/
def vf67v : List Nat := [0,2,3]
def vf67 : VF := ⟨.seq (.rg [V 2 (.mv (.k (.c (.i 0))))]) (.seq (.seq (.rg [V 3 (.mv (.t 0))]) (.cond (.t 3) (.seq (.rg [V 2 (.mv (.k (.c (.i 1))))]) (.ret)) (.skip))) (.seq (.rg [V 2 (.mv (.k (.c (.i 0))))]) (.ret))),
vf67v,[(2,none)]⟩
theorem ok67 : chkF Try.prog Try.f67 vf67 = true := by kernel_rfl
theorem dr67 : drawsB vf67.body = true := by kernel_rfl
/-- loop.example/g00192/impl.bit -/
def vf68v : List Nat := [0,2,3]
def vf68 : VF := ⟨.seq (.rg [V 2 (.mv (.k (.c (.i 0))))]) (.seq (.seq (.rg [V 3 (.mv (.t 0))]) (.cond (.t 3) (.seq (.rg [V 2 (.mv (.k (.c (.i 1))))]) (.ret)) (.skip))) (.seq (.rg [V 2 (.mv (.k (.c (.i 0))))]) (.ret))),
vf68v,[(2,none)]⟩
theorem ok68 : chkF Try.prog Try.f68 vf68 = true := by kernel_rfl
theorem dr68 : drawsB vf68.body = true := by kernel_rfl
/-- loop.example/g00192/laws.toMove -/
def vf69v : List Nat := [0,1,2,3]
def vf69 : VF := ⟨.seq (.rg [V 1 (.box (.t 0)),
V 2 (.alloc [.i 0,.i 0])]) (.seq (.rg [V 3 (.alloc [.i 0,.i 0])]) (.seq (.rg [V 4 (.fad 0 (.t 1)),
V 5 (.ld none (.t 4)),
V 6 (.fad 0 (.t 3)),
Vn (.st 1 (.t 6) (.t 5))]) (.seq (.rg [V 7 (.fad 1 (.t 1)),
V 8 (.ld none (.t 7)),
V 9 (.fad 1 (.t 3)),
Vn (.st 1 (.t 9) (.t 8))]) (.seq (.rg [V 10 (.ld (some 2) (.t 3)),
Vn (.st 2 (.t 2) (.t 10))]) (.ret))))),
vf69v,[(2,(some (some 2)))]⟩
theorem ok69 : chkF Try.prog Try.f69 vf69 = true := by kernel_rfl
theorem dr69 : drawsB vf69.body = true := by kernel_rfl
/-- loop.example/g00192/laws.eqMove -/
def vf70v : List Nat := [0,1,2,3,4,9,14]
def vf70 : VF := ⟨.seq (.rg [V 2 (.box (.t 0)),
V 3 (.box (.t 1)),
V 4 (.mv (.k (.c (.b false))))]) (.seq (.seq (.rg [V 5 (.fad 0 (.t 2)),
V 6 (.ld none (.t 5)),
V 7 (.fad 0 (.t 3)),
V 8 (.ld none (.t 7)),
V 9 (.bin .ne (.t 6) (.t 8))]) (.cond (.t 9) (.seq (.rg [V 4 (.mv (.k (.c (.b false))))]) (.ret)) (.skip))) (.seq (.seq (.rg [V 10 (.fad 1 (.t 2)),
V 11 (.ld none (.t 10)),
V 12 (.fad 1 (.t 3)),
V 13 (.ld none (.t 12)),
V 14 (.bin .ne (.t 11) (.t 13))]) (.cond (.t 14) (.seq (.rg [V 4 (.mv (.k (.c (.b false))))]) (.ret)) (.skip))) (.seq (.rg [V 4 (.mv (.k (.c (.b true))))]) (.ret)))),
vf70v,[(4,none)]⟩
theorem ok70 : chkF Try.prog Try.f70 vf70 = true := by kernel_rfl
theorem dr70 : drawsB vf70.body = true := by kernel_rfl
/-- loop.example/g00192/spec.l1Below -/
def vf71v : List Nat := [0,1,4,5,6,7,8,10,12]
def vf71 : VF := ⟨.seq (.rg [V 4 (.mv (.k (.c (.i 0))))]) (.seq (.seq (.rg [V 9 (.mv (.t 1)),
V 10 (.bin .le (.t 9) (.k (.c (.i 0))))]) (.cond (.t 10) (.seq (.rg [V 4 (.mv (.k (.c (.i 0))))]) (.ret)) (.skip))) (.seq (.seq (.rg [V 11 (.mv (.t 1)),
V 12 (.bin .le (.t 11) (.k (.c (.i 256))))]) (.cond (.t 12) (.seq (.rg [V 13 (.mv (.t 0)),
V 14 (.call 83 [(.t 13)]),
V 15 (.mv (.t 1)),
V 16 (.bin .rem (.t 14) (.t 15)),
V 4 (.mv (.t 16))]) (.ret)) (.skip))) (.seq (.rg [V 17 (.mv (.t 0)),
V 18 (.call 83 [(.t 17)]),
V 5 (.mv (.t 18))]) (.seq (.rg [V 19 (.mv (.t 0)),
V 20 (.call 83 [(.t 19)]),
V 6 (.mv (.t 20))]) (.seq (.rg [V 21 (.mv (.t 0)),
V 22 (.call 83 [(.t 21)]),
V 7 (.mv (.t 22))]) (.seq (.rg [V 23 (.mv (.t 0)),
V 24 (.call 83 [(.t 23)]),
V 8 (.mv (.t 24))]) (.seq (.rg [V 25 (.mv (.t 5)),
V 26 (.bin .mul (.t 25) (.k (.c (.i 16777216)))),
V 27 (.mv (.t 6)),
V 28 (.bin .mul (.t 27) (.k (.c (.i 65536)))),
V 29 (.bin .add (.t 26) (.t 28)),
V 30 (.mv (.t 7)),
V 31 (.bin .mul (.t 30) (.k (.c (.i 256)))),
V 32 (.bin .add (.t 29) (.t 31)),
V 33 (.mv (.t 8)),
V 34 (.bin .add (.t 32) (.t 33)),
V 35 (.mv (.t 1)),
V 36 (.bin .rem (.t 34) (.t 35)),
V 4 (.mv (.t 36))]) (.ret)))))))),
vf71v,[(4,none)]⟩
theorem ok71 : chkF Try.prog Try.f71 vf71 = true := by kernel_rfl
theorem dr71 : drawsB vf71.body = true := by kernel_rfl
/-- loop.example/g00192/spec.l1New -/
def vf72v : List Nat := [0,2,3,4,15]
def vf72b0 : VC := .seq (.seq (.rg [V 8 (.mv (.t 4)),
V 9 (.mv (.t 0)),
V 10 (.len (.t 9)),
V 11 (.bin .lt (.t 8) (.t 10)),
V 12 (.mv (.t 11)),
Vg 13 12 true (.mv (.t 4)),
Vg 14 12 true (.bin .lt (.t 13) (.k (.c (.i 4000)))),
V 15 (.pick (.t 12) (.t 14) (.k (.c (.b false))))]) (.cond (.t 15) (.skip) (.exit 0))) (.seq (.block 1 (.rg [V 18 (.mv (.t 3)),
V 19 (.bin .mul (.t 18) (.k (.c (.i 131)))),
V 20 (.mv (.t 0)),
V 21 (.mv (.t 4)),
V 22 (.idx 1 (.t 20) (.t 21)),
V 23 (.ld none (.t 22)),
V 24 (.b2i (.t 23)),
V 25 (.bin .add (.t 19) (.t 24)),
V 26 (.bin .add (.t 25) (.k (.c (.i 7)))),
V 27 (.bin .and (.t 26) (.k (.c (.i 1073741823)))),
V 3 (.mv (.t 27))])) (.rg [V 16 (.mv (.t 4)),
V 17 (.bin .add (.t 16) (.k (.c (.i 1)))),
V 4 (.mv (.t 17))]))
def vf72 : VF := ⟨.seq (.rg [V 2 (.mv (.k (.c .np)))]) (.seq (.rg [V 5 (.mv (.t 0)),
V 6 (.len (.t 5)),
V 7 (.bin .add (.k (.c (.i 17111))) (.t 6)),
V 3 (.mv (.t 7))]) (.seq (.seq (.rg [V 4 (.mv (.k (.c (.i 0))))]) (.block 0 (.loop vf72b0))) (.seq (.rg [V 28 (.mv (.t 0)),
V 29 (.mv (.t 3)),
V 30 (.build [.ns,.i 0,.i 0] [(0,1,(.t 28)),(2,1,(.t 29))]),
V 31 (.box (.t 30)),
V 2 (.mv (.t 31))]) (.ret)))),
vf72v,[(2,none)]⟩
theorem ok72 : chkF Try.prog Try.f72 vf72 = true := by kernel_rfl
theorem dr72 : drawsB vf72.body = true := by kernel_rfl
/-- loop.example/g00192/spec.l1Once -/
def vf73v : List Nat := [0,1,4]
def vf73 : VF := ⟨.seq (.rg [V 4 (.mv (.k (.c (.b false))))]) (.seq (.rg [V 5 (.mv (.t 0)),
V 6 (.mv (.t 1)),
V 7 (.call 71 [(.t 5),(.t 6)]),
V 8 (.bin .eq (.t 7) (.k (.c (.i 0)))),
V 4 (.mv (.t 8))]) (.ret)),
vf73v,[(4,none)]⟩
theorem ok73 : chkF Try.prog Try.f73 vf73 = true := by kernel_rfl
theorem dr73 : drawsB vf73.body = true := by kernel_rfl
/-- loop.example/g00192/spec.l1Pick -/
def vf74v : List Nat := [0,1,4]
def vf74 : VF := ⟨.seq (.rg [V 4 (.mv (.k (.c (.s ⟨#[]⟩))))]) (.seq (.rg [V 5 (.mv (.t 1)),
V 6 (.mv (.t 0)),
V 7 (.mv (.t 1)),
V 8 (.len (.t 7)),
V 9 (.call 71 [(.t 6),(.t 8)]),
V 10 (.idx 1 (.t 5) (.t 9)),
V 11 (.ld none (.t 10)),
V 4 (.mv (.t 11))]) (.ret)),
vf74v,[(4,none)]⟩
theorem ok74 : chkF Try.prog Try.f74 vf74 = true := by kernel_rfl
theorem dr74 : drawsB vf74.body = true := by kernel_rfl
/-- loop.example/g00192/spec.l1DrawNum -/
def vf75v : List Nat := [0,2,4]
def vf75 : VF := ⟨.seq (.rg [V 2 (.mv (.k (.c (.i 0))))]) (.seq (.seq (.rg [V 3 (.mv (.t 0)),
V 4 (.call 73 [(.t 3),(.k (.c (.i 8)))])]) (.cond (.t 4) (.seq (.rg [V 5 (.mv (.t 0)),
V 6 (.bsl 1 [.i 0] 7 [(0,1,(.k (.c (.i 9223372036854775807)))),(1,1,(.k (.c (.i (-9223372036854775808))))),(2,1,(.k (.c (.i 4294967296)))),(3,1,(.k (.c (.i (-1))))),(4,1,(.k (.c (.i 63)))),(5,1,(.k (.c (.i 64)))),(6,1,(.k (.c (.i 1000000007))))]),
V 7 (.call 84 [(.t 5),(.t 6)]),
V 2 (.mv (.t 7))]) (.ret)) (.skip))) (.seq (.rg [V 8 (.mv (.t 0)),
V 9 (.call 71 [(.t 8),(.k (.c (.i 20)))]),
V 10 (.bin .sub (.t 9) (.k (.c (.i 6)))),
V 2 (.mv (.t 10))]) (.ret))),
vf75v,[(2,none)]⟩
theorem ok75 : chkF Try.prog Try.f75 vf75 = true := by kernel_rfl
theorem dr75 : drawsB vf75.body = true := by kernel_rfl
/-- loop.example/g00192/impl.formOf -/
def vf76v : List Nat := [0,2,3,4,5,7,10,12,14]
def vf76 : VF := ⟨.seq (.rg [V 2 (.mv (.k (.c (.s ⟨#[]⟩)))),
V 3 (.mv (.k (.c (.b false))))]) (.seq (.seq (.rg [V 4 (.mv (.t 0))]) (.block 0 (.seq (.rg [V 6 (.bin .eq (.t 4) (.k (.c (.i 20)))),
V 5 (.mv (.t 6))]) (.cond (.t 5) (.seq (.rg [V 2 (.mv (.k (.c (.s ⟨#[68,78]⟩)))),
V 3 (.mv (.k (.c (.b true))))]) (.ret)) (.seq (.seq (.rg [V 8 (.bin .eq (.t 4) (.k (.c (.i 21)))),
V 7 (.mv (.t 8))]) (.cond (.t 7) (.skip) (.rg [V 9 (.bin .eq (.t 4) (.k (.c (.i 25)))),
V 7 (.mv (.t 9))]))) (.cond (.t 7) (.seq (.rg [V 2 (.mv (.k (.c (.s ⟨#[68,65]⟩)))),
V 3 (.mv (.k (.c (.b true))))]) (.ret)) (.seq (.rg [V 11 (.bin .eq (.t 4) (.k (.c (.i 22)))),
V 10 (.mv (.t 11))]) (.cond (.t 10) (.seq (.rg [V 2 (.mv (.k (.c (.s ⟨#[65,66]⟩)))),
V 3 (.mv (.k (.c (.b true))))]) (.ret)) (.seq (.rg [V 13 (.bin .eq (.t 4) (.k (.c (.i 23)))),
V 12 (.mv (.t 13))]) (.cond (.t 12) (.seq (.rg [V 2 (.mv (.k (.c (.s ⟨#[65]⟩)))),
V 3 (.mv (.k (.c (.b true))))]) (.ret)) (.seq (.rg [V 15 (.bin .eq (.t 4) (.k (.c (.i 24)))),
V 14 (.mv (.t 15))]) (.cond (.t 14) (.seq (.rg [V 2 (.mv (.k (.c (.s ⟨#[68]⟩)))),
V 3 (.mv (.k (.c (.b true))))]) (.ret)) (.skip))))))))))))) (.seq (.rg [V 16 (.mv (.t 0)),
V 17 (.call 16 [(.t 16)]),
V 2 (.mv (.k (.c (.s ⟨#[68,65,66]⟩)))),
V 3 (.mv (.t 17))]) (.ret))),
vf76v,[(2,none),(3,none)]⟩
theorem ok76 : chkF Try.prog Try.f76 vf76 = true := by kernel_rfl
theorem dr76 : drawsB vf76.body = true := by kernel_rfl
/-- slices.Containsbytebyte -/
def vf77v : List Nat := [0,1,4]
def vf77 : VF := ⟨.seq (.rg [V 4 (.mv (.k (.c (.b false))))]) (.seq (.rg [V 5 (.mv (.t 0)),
V 6 (.mv (.t 1)),
V 7 (.call 85 [(.t 5),(.t 6)]),
V 8 (.bin .ge (.t 7) (.k (.c (.i 0)))),
V 4 (.mv (.t 8))]) (.ret)),
vf77v,[(4,none)]⟩
theorem ok77 : chkF Try.prog Try.f77 vf77 = true := by kernel_rfl
theorem dr77 : drawsB vf77.body = true := by kernel_rfl
/-- loop.example/g00192/spec.l9Draw -/
def vf78v : List Nat := [0,2,3,4,5,6,7,8,9,10,11,18,23,38,42,61,84,85,101,107]
def vf78b0 : VC := .seq (.seq (.rg [V 16 (.mv (.t 6)),
V 17 (.mv (.t 4)),
V 18 (.bin .lt (.t 16) (.t 17))]) (.cond (.t 18) (.skip) (.exit 0))) (.seq (.block 1 (.seq (.rg [V 21 (.mv (.t 0)),
V 22 (.call 73 [(.t 21),(.k (.c (.i 3)))]),
V 23 (.not (.t 22))]) (.cond (.t 23) (.rg [V 24 (.mv (.t 5)),
V 25 (.mv (.t 6)),
V 26 (.mv (.t 0)),
V 27 (.mv (.t 4)),
V 28 (.call 71 [(.t 26),(.t 27)]),
V 29 (.build [.i 0,.i 0] [(0,1,(.t 25)),(1,1,(.t 28))]),
V 30 (.bsl 2 [.i 0,.i 0] 1 [(0,2,(.t 29))]),
V 31 (.app 2 (.t 24) (.t 30)),
V 5 (.mv (.t 31))]) (.skip)))) (.rg [V 19 (.mv (.t 6)),
V 20 (.bin .add (.t 19) (.k (.c (.i 1)))),
V 6 (.mv (.t 20))]))
def vf78b1 : VC := .seq (.seq (.rg [V 39 (.mv (.t 7)),
V 40 (.mv (.t 5)),
V 41 (.len (.t 40)),
V 42 (.bin .lt (.t 39) (.t 41))]) (.cond (.t 42) (.skip) (.exit 2))) (.seq (.block 3 (.rg [V 45 (.mv (.t 5)),
V 46 (.mv (.t 7)),
V 47 (.mv (.t 5)),
V 48 (.mv (.t 7)),
V 49 (.bin .add (.t 48) (.k (.c (.i 1)))),
V 50 (.mv (.t 5)),
V 51 (.len (.t 50)),
V 52 (.bin .rem (.t 49) (.t 51)),
V 53 (.idx 2 (.t 47) (.t 52)),
V 54 (.fad 0 (.t 53)),
V 55 (.ld none (.t 54)),
V 56 (.idx 2 (.t 45) (.t 46)),
V 57 (.fad 1 (.t 56)),
Vn (.st 1 (.t 57) (.t 55))])) (.rg [V 43 (.mv (.t 7)),
V 44 (.bin .add (.t 43) (.k (.c (.i 1)))),
V 7 (.mv (.t 44))]))
def vf78b2 : VC := .seq (.seq (.rg [V 58 (.mv (.t 8)),
V 59 (.mv (.t 5)),
V 60 (.len (.t 59)),
V 61 (.bin .lt (.t 58) (.t 60))]) (.cond (.t 61) (.skip) (.exit 4))) (.seq (.block 5 (.seq (.rg [V 64 (.mv (.t 0)),
V 65 (.mv (.t 5)),
V 66 (.len (.t 65)),
V 67 (.call 71 [(.t 64),(.t 66)]),
V 9 (.mv (.t 67))]) (.seq (.rg [V 68 (.mv (.t 5)),
V 69 (.mv (.t 8)),
V 70 (.idx 2 (.t 68) (.t 69)),
V 71 (.ld (some 2) (.t 70)),
V 10 (.alloc [.i 0,.i 0]),
Vn (.st 2 (.t 10) (.t 71))]) (.seq (.rg [V 72 (.mv (.t 5)),
V 73 (.mv (.t 8)),
V 74 (.mv (.t 5)),
V 75 (.mv (.t 9)),
V 76 (.idx 2 (.t 74) (.t 75)),
V 77 (.ld (some 2) (.t 76)),
V 78 (.idx 2 (.t 72) (.t 73)),
Vn (.st 2 (.t 78) (.t 77))]) (.rg [V 79 (.mv (.t 5)),
V 80 (.mv (.t 9)),
V 81 (.ld (some 2) (.t 10)),
V 82 (.idx 2 (.t 79) (.t 80)),
Vn (.st 2 (.t 82) (.t 81))]))))) (.rg [V 62 (.mv (.t 8)),
V 63 (.bin .add (.t 62) (.k (.c (.i 1)))),
V 8 (.mv (.t 63))]))
def vf78b3 : VC := .seq (.seq (.rg [V 103 (.mv (.t 11)),
V 104 (.mv (.t 0)),
V 105 (.call 71 [(.t 104),(.k (.c (.i 2)))]),
V 106 (.bin .add (.k (.c (.i 24))) (.t 105)),
V 107 (.bin .lt (.t 103) (.t 106))]) (.cond (.t 107) (.skip) (.exit 7))) (.seq (.block 8 (.rg [V 110 (.mv (.t 5)),
V 111 (.mv (.t 11)),
V 112 (.mv (.t 11)),
V 113 (.bin .add (.t 112) (.k (.c (.i 1)))),
V 114 (.build [.i 0,.i 0] [(0,1,(.t 111)),(1,1,(.t 113))]),
V 115 (.bsl 2 [.i 0,.i 0] 1 [(0,2,(.t 114))]),
V 116 (.app 2 (.t 110) (.t 115)),
V 5 (.mv (.t 116))])) (.rg [V 108 (.mv (.t 11)),
V 109 (.bin .add (.t 108) (.k (.c (.i 1)))),
V 11 (.mv (.t 109))]))
def vf78 : VF := ⟨.seq (.rg [V 2 (.mv (.k (.c .ns))),
V 3 (.mv (.k (.c (.i 0))))]) (.seq (.rg [V 12 (.mv (.t 0)),
V 13 (.call 71 [(.t 12),(.k (.c (.i 7)))]),
V 14 (.bin .add (.k (.c (.i 1))) (.t 13)),
V 4 (.mv (.t 14))]) (.seq (.rg [V 15 (.bsl 2 [.i 0,.i 0] 0 []),
V 5 (.mv (.t 15))]) (.seq (.seq (.rg [V 6 (.mv (.k (.c (.i 0))))]) (.block 0 (.loop vf78b0))) (.seq (.seq (.rg [V 32 (.mv (.t 5)),
V 33 (.len (.t 32)),
V 34 (.bin .gt (.t 33) (.k (.c (.i 1)))),
V 35 (.mv (.t 34)),
Vg 36 35 true (.mv (.t 0)),
Vg 37 35 true (.call 73 [(.t 36),(.k (.c (.i 3)))]),
V 38 (.pick (.t 35) (.t 37) (.k (.c (.b false))))]) (.cond (.t 38) (.seq (.rg [V 7 (.mv (.k (.c (.i 0))))]) (.block 2 (.loop vf78b1))) (.skip))) (.seq (.seq (.rg [V 8 (.mv (.k (.c (.i 0))))]) (.block 4 (.loop vf78b2))) (.seq (.seq (.rg [V 83 (.mv (.t 0)),
V 84 (.call 71 [(.t 83),(.k (.c (.i 20)))])]) (.block 6 (.seq (.rg [V 86 (.bin .eq (.t 84) (.k (.c (.i 0)))),
V 85 (.mv (.t 86))]) (.cond (.t 85) (.rg [V 87 (.mv (.t 5)),
V 88 (.mv (.t 0)),
V 89 (.mv (.t 4)),
V 90 (.bin .add (.t 89) (.k (.c (.i 2)))),
V 91 (.call 71 [(.t 88),(.t 90)]),
V 92 (.bin .sub (.t 91) (.k (.c (.i 1)))),
V 93 (.mv (.t 0)),
V 94 (.mv (.t 4)),
V 95 (.bin .add (.t 94) (.k (.c (.i 2)))),
V 96 (.call 71 [(.t 93),(.t 95)]),
V 97 (.bin .sub (.t 96) (.k (.c (.i 1)))),
V 98 (.build [.i 0,.i 0] [(0,1,(.t 92)),(1,1,(.t 97))]),
V 99 (.bsl 2 [.i 0,.i 0] 1 [(0,2,(.t 98))]),
V 100 (.app 2 (.t 87) (.t 99)),
V 5 (.mv (.t 100))]) (.seq (.rg [V 102 (.bin .eq (.t 84) (.k (.c (.i 1)))),
V 101 (.mv (.t 102))]) (.cond (.t 101) (.seq (.rg [V 4 (.mv (.k (.c (.i 26))))]) (.seq (.rg [V 5 (.mv (.k (.c .ns)))]) (.seq (.rg [V 11 (.mv (.k (.c (.i 0))))]) (.block 7 (.loop vf78b3))))) (.skip))))))) (.seq (.rg [V 117 (.mv (.t 5)),
V 118 (.mv (.t 4)),
V 2 (.mv (.t 117)),
V 3 (.mv (.t 118))]) (.ret)))))))),
vf78v,[(2,none),(3,none)]⟩
theorem ok78 : chkF Try.prog Try.f78 vf78 = true := by kernel_rfl
theorem dr78 : drawsB vf78.body = true := by kernel_rfl
/-- slices.IndexFuncloop.example/g00192/impl.Moveloop.example/g00192/impl.Move -/
def vf79v : List Nat := [0,1,4,5,7,8,9,16]
def vf79b0 : VC := .seq (.rg [V 9 (.bin .lt (.t 8) (.t 7))]) (.seq (.cond (.t 9) (.skip) (.exit 0)) (.seq (.block 1 (.seq (.rg [V 10 (.mv (.t 8)),
V 5 (.mv (.t 10))]) (.seq (.rg [V 11 (.mv (.t 1)),
V 12 (.mv (.t 0)),
V 13 (.mv (.t 5)),
V 14 (.idx 2 (.t 12) (.t 13)),
V 15 (.ld (some 2) (.t 14)),
V 16 (.clv (.t 11) [(.t 15)])]) (.cond (.t 16) (.seq (.rg [V 17 (.mv (.t 5)),
V 4 (.mv (.t 17))]) (.ret)) (.skip))))) (.rg [V 18 (.bin .add (.t 8) (.k (.c (.i 1)))),
V 8 (.mv (.t 18))])))
def vf79 : VF := ⟨.seq (.rg [V 4 (.mv (.k (.c (.i 0))))]) (.seq (.seq (.rg [V 6 (.mv (.t 0)),
V 7 (.len (.t 6)),
V 8 (.mv (.k (.c (.i 0))))]) (.block 0 (.loop vf79b0))) (.seq (.rg [V 4 (.mv (.k (.c (.i (-1)))))]) (.ret))),
vf79v,[(4,none)]⟩
theorem ok79 : chkF Try.prog Try.f79 vf79 = true := by kernel_rfl
theorem dr79 : drawsB vf79.body = true := by kernel_rfl
/-- loop.example/g00192/spec.l9Free -/
def vf82v : List Nat := [0,2,3,4,5,9,15,38]
def vf82b0 : VC := .seq (.seq (.rg [V 12 (.mv (.t 5)),
V 13 (.mv (.t 0)),
V 14 (.len (.t 13)),
V 15 (.bin .lt (.t 12) (.t 14))]) (.cond (.t 15) (.skip) (.exit 2))) (.seq (.block 3 (.rd [V 18 (.mv (.t 4)),
Vd [0] (V 19 (.mv (.t 18))),
Vd [1] (Vg 20 19 false (.mv (.t 5))),
Vd [1] (Vg 21 19 false (.mv (.t 3))),
Vd [2,3] (Vg 22 19 false (.bin .ne (.t 20) (.t 21))),
Vd [4] (Vg 23 19 false (.mv (.t 22))),
Vd [5] (Vg 24 23 true (.mv (.t 0))),
Vd [5] (Vg 25 23 true (.mv (.t 5))),
Vd [6,7] (Vg 26 23 true (.idx 2 (.t 24) (.t 25))),
Vd [8] (Vg 27 23 true (.fad 1 (.t 26))),
Vd [9] (Vg 28 23 true (.ld none (.t 27))),
Vd [5] (Vg 29 23 true (.mv (.t 0))),
Vd [5] (Vg 30 23 true (.mv (.t 3))),
Vd [11,12] (Vg 31 23 true (.idx 2 (.t 29) (.t 30))),
Vd [13] (Vg 32 23 true (.fad 0 (.t 31))),
Vd [14] (Vg 33 23 true (.ld none (.t 32))),
Vd [10,15] (Vg 34 23 true (.bin .eq (.t 28) (.t 33))),
Vd [16] (Vg 35 19 false (.pick (.t 23) (.t 34) (.k (.c (.b false))))),
Vd [17] (V 36 (.pick (.t 19) (.k (.c (.b true))) (.t 35))),
Vd [18] (V 4 (.mv (.t 36)))])) (.rg [V 16 (.mv (.t 5)),
V 17 (.bin .add (.t 16) (.k (.c (.i 1)))),
V 5 (.mv (.t 17))]))
def vf82b1 : VC := .seq (.seq (.rg [V 6 (.mv (.t 3)),
V 7 (.mv (.t 0)),
V 8 (.len (.t 7)),
V 9 (.bin .lt (.t 6) (.t 8))]) (.cond (.t 9) (.skip) (.exit 0))) (.seq (.block 1 (.seq (.rg [V 4 (.mv (.k (.c (.b false))))]) (.seq (.seq (.rg [V 5 (.mv (.k (.c (.i 0))))]) (.block 2 (.loop vf82b0))) (.seq (.rg [V 37 (.mv (.t 4)),
V 38 (.not (.t 37))]) (.cond (.t 38) (.seq (.rg [V 39 (.mv (.t 3)),
V 2 (.mv (.t 39))]) (.ret)) (.skip)))))) (.rg [V 10 (.mv (.t 3)),
V 11 (.bin .add (.t 10) (.k (.c (.i 1)))),
V 3 (.mv (.t 11))]))
def vf82 : VF := ⟨.seq (.rg [V 2 (.mv (.k (.c (.i 0))))]) (.seq (.seq (.rg [V 3 (.mv (.k (.c (.i 0))))]) (.block 0 (.loop vf82b1))) (.seq (.rg [V 2 (.mv (.k (.c (.i (-1)))))]) (.ret))),
vf82v,[(2,none)]⟩
theorem ok82 : chkF Try.prog Try.f82 vf82 = true := by kernel_rfl
theorem dr82 : drawsB vf82.body = true := by kernel_rfl
/-- loop.example/g00192/spec.l1Byte -/
def vf83v : List Nat := [0,2,3,34]
def vf83 : VF := ⟨.seq (.rg [V 2 (.mv (.k (.c (.i 0))))]) (.seq (.rg [V 4 (.mv (.t 0)),
V 5 (.mv (.t 0)),
V 6 (.nilc (.t 5)),
V 7 (.fad 2 (.t 6)),
V 8 (.ld none (.t 7)),
V 9 (.bin .mul (.t 8) (.k (.c (.i 6364136223846793005)))),
V 10 (.bin .add (.t 9) (.k (.c (.i 1442695040888963407)))),
V 11 (.nilc (.t 4)),
V 12 (.fad 2 (.t 11)),
Vn (.st 1 (.t 12) (.t 10))]) (.seq (.rd [V 13 (.mv (.t 0)),
Vd [0] (V 14 (.nilc (.t 13))),
Vd [1] (V 15 (.fad 2 (.t 14))),
Vd [2] (V 16 (.ld none (.t 15))),
Vd [3] (V 17 (.shk false 33 (.t 16))),
V 18 (.mv (.t 0)),
Vd [5] (V 19 (.nilc (.t 18))),
Vd [6] (V 20 (.fad 2 (.t 19))),
Vd [7] (V 21 (.ld none (.t 20))),
Vd [8] (V 22 (.shk false 45 (.t 21))),
Vd [4,9] (V 23 (.bin .xor (.t 17) (.t 22))),
Vd [10] (V 24 (.bin .and (.t 23) (.k (.c (.i 255))))),
Vd [11] (V 3 (.mv (.t 24)))]) (.seq (.seq (.rd [V 25 (.mv (.t 0)),
Vd [0] (V 26 (.nilc (.t 25))),
Vd [1] (V 27 (.fad 1 (.t 26))),
Vd [2] (V 28 (.ld none (.t 27))),
V 29 (.mv (.t 0)),
Vd [4] (V 30 (.nilc (.t 29))),
Vd [5] (V 31 (.fad 0 (.t 30))),
Vd [6] (V 32 (.ld none (.t 31))),
Vd [7] (V 33 (.len (.t 32))),
Vd [3,8] (V 34 (.bin .lt (.t 28) (.t 33)))]) (.cond (.t 34) (.seq (.rd [V 35 (.mv (.t 3)),
V 36 (.mv (.t 0)),
Vd [1] (V 37 (.nilc (.t 36))),
Vd [2] (V 38 (.fad 0 (.t 37))),
Vd [3] (V 39 (.ld none (.t 38))),
V 40 (.mv (.t 0)),
Vd [5] (V 41 (.nilc (.t 40))),
Vd [6] (V 42 (.fad 1 (.t 41))),
Vd [7] (V 43 (.ld none (.t 42))),
Vd [4,8] (V 44 (.idx 1 (.t 39) (.t 43))),
Vd [9] (V 45 (.ld none (.t 44))),
Vd [10] (V 46 (.b2i (.t 45))),
Vd [0,11] (V 47 (.bin .add (.t 35) (.t 46))),
Vd [12] (V 48 (.bin .and (.t 47) (.k (.c (.i 255))))),
Vd [13] (V 3 (.mv (.t 48)))]) (.rg [V 49 (.mv (.t 0)),
V 50 (.mv (.t 0)),
V 51 (.nilc (.t 50)),
V 52 (.fad 1 (.t 51)),
V 53 (.ld none (.t 52)),
V 54 (.bin .add (.t 53) (.k (.c (.i 1)))),
V 55 (.nilc (.t 49)),
V 56 (.fad 1 (.t 55)),
Vn (.st 1 (.t 56) (.t 54))])) (.skip))) (.seq (.rg [V 57 (.mv (.t 3)),
V 2 (.mv (.t 57))]) (.ret))))),
vf83v,[(2,none)]⟩
theorem ok83 : chkF Try.prog Try.f83 vf83 = true := by kernel_rfl
theorem dr83 : drawsB vf83.body = true := by kernel_rfl
/-- loop.example/g00192/spec.l1PickInt -/
def vf84v : List Nat := [0,1,4]
def vf84 : VF := ⟨.seq (.rg [V 4 (.mv (.k (.c (.i 0))))]) (.seq (.rg [V 5 (.mv (.t 1)),
V 6 (.mv (.t 0)),
V 7 (.mv (.t 1)),
V 8 (.len (.t 7)),
V 9 (.call 71 [(.t 6),(.t 8)]),
V 10 (.idx 1 (.t 5) (.t 9)),
V 11 (.ld none (.t 10)),
V 4 (.mv (.t 11))]) (.ret)),
vf84v,[(4,none)]⟩
theorem ok84 : chkF Try.prog Try.f84 vf84 = true := by kernel_rfl
theorem dr84 : drawsB vf84.body = true := by kernel_rfl
/-- slices.Indexbytebyte -/
def vf85v : List Nat := [0,1,4,5,7,8,9,16]
def vf85b0 : VC := .seq (.rg [V 9 (.bin .lt (.t 8) (.t 7))]) (.seq (.cond (.t 9) (.skip) (.exit 0)) (.seq (.block 1 (.seq (.rg [V 10 (.mv (.t 8)),
V 5 (.mv (.t 10))]) (.seq (.rg [V 11 (.mv (.t 1)),
V 12 (.mv (.t 0)),
V 13 (.mv (.t 5)),
V 14 (.idx 1 (.t 12) (.t 13)),
V 15 (.ld none (.t 14)),
V 16 (.bin .eq (.t 11) (.t 15))]) (.cond (.t 16) (.seq (.rg [V 17 (.mv (.t 5)),
V 4 (.mv (.t 17))]) (.ret)) (.skip))))) (.rg [V 18 (.bin .add (.t 8) (.k (.c (.i 1)))),
V 8 (.mv (.t 18))])))
def vf85 : VF := ⟨.seq (.rg [V 4 (.mv (.k (.c (.i 0))))]) (.seq (.seq (.rg [V 6 (.mv (.t 0)),
V 7 (.len (.t 6)),
V 8 (.mv (.k (.c (.i 0))))]) (.block 0 (.loop vf85b0))) (.seq (.rg [V 4 (.mv (.k (.c (.i (-1)))))]) (.ret))),
vf85v,[(4,none)]⟩
theorem ok85 : chkF Try.prog Try.f85 vf85 = true := by kernel_rfl
theorem dr85 : drawsB vf85.body = true := by kernel_rfl
end Go.Proofs.Ytlhhmlldcpafiaa.Vm
