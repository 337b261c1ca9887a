/- The ideal machine's code for some of the program's functions, each checked against the translated one. No conditions. -/
import Derived.Test.YtgdfgnppeekfjaaGreatChecked
import Derived.Test.YtgdfgnppeekfjaaGreatVmQ
import Derived.Test.YtgdfgnppeekfjaaGreatVmC
namespace Go.Proofs.YtgdfgnppeekfjaaGreat.Vm
set_option linter.unusedVariables false
set_option maxRecDepth 100000
/-- loop.example/g00192/impl.Doms -/
def vf23v : List Nat := [0,1,2,4,5,6,7,8,9,12,24,25,26,31,32,33,34,51]
def vf23b0 : VC := .seq (.rg [V 34 (.bin .lt (.t 33) (.t 32))]) (.seq (.cond (.t 34) (.skip) (.exit 2)) (.seq (.block 3 (.seq (.rg [V 35 (.mv (.t 33)),
V 36 (.idx 1 (.t 31) (.t 33)),
V 37 (.ld none (.t 36)),
V 8 (.mv (.t 35)),
V 9 (.mv (.t 37))]) (.seq (.rg [V 38 (.mv (.t 9)),
V 39 (.mv (.t 38)),
Vg 40 39 true (.mv (.t 7)),
Vg 41 39 true (.mv (.t 8)),
Vg 42 39 true (.idx 1 (.t 40) (.t 41)),
Vg 43 39 true (.ld none (.t 42)),
Vg 44 39 true (.not (.t 43)),
V 45 (.pick (.t 39) (.t 44) (.k (.c (.b false)))),
V 46 (.mv (.t 45)),
Vg 47 46 true (.mv (.t 4)),
Vg 48 46 true (.mv (.t 6)),
Vg 49 46 true (.idx 1 (.t 47) (.t 48)),
Vg 50 46 true (.ld none (.t 49)),
V 51 (.pick (.t 46) (.t 50) (.k (.c (.b false))))]) (.cond (.t 51) (.rg [V 52 (.mv (.t 5)),
V 53 (.mv (.t 8)),
V 54 (.mv (.t 5)),
V 55 (.mv (.t 8)),
V 56 (.idx 1 (.t 54) (.t 55)),
V 57 (.ld none (.t 56)),
V 58 (.mv (.t 6)),
V 59 (.bsl 1 [.i 0] 1 [(0,1,(.t 58))]),
V 60 (.app 1 (.t 57) (.t 59)),
V 61 (.idx 1 (.t 52) (.t 53)),
Vn (.st 1 (.t 61) (.t 60))]) (.skip))))) (.rg [V 62 (.bin .add (.t 33) (.k (.c (.i 1)))),
V 33 (.mv (.t 62))])))
def vf23b1 : VC := .seq (.rg [V 26 (.bin .lt (.t 25) (.t 24))]) (.seq (.cond (.t 26) (.skip) (.exit 0)) (.seq (.block 1 (.seq (.rg [V 27 (.mv (.t 25)),
V 6 (.mv (.t 27))]) (.seq (.rg [V 28 (.ld (some 2) (.t 1)),
V 29 (.mv (.t 6)),
V 30 (.call 82 [(.t 28),(.t 29)]),
V 7 (.mv (.t 30))]) (.seq (.rg [V 31 (.mv (.t 4)),
V 32 (.len (.t 31)),
V 33 (.mv (.k (.c (.i 0))))]) (.block 2 (.loop vf23b0)))))) (.rg [V 63 (.bin .add (.t 25) (.k (.c (.i 1)))),
V 25 (.mv (.t 63))])))
def vf23c : VC := .seq (.rg [V 1 (.box (.t 0)),
V 2 (.mv (.k (.c .ns)))]) (.seq (.seq (.rg [V 10 (.ld (some 2) (.t 1)),
V 11 (.call 19 [(.t 10)]),
V 12 (.not (.t 11))]) (.cond (.t 12) (.seq (.rg [V 2 (.mv (.k (.c .ns)))]) (.ret)) (.skip))) (.seq (.rg [V 14 (.ld (some 2) (.t 1)),
V 15 (.call 81 [(.t 14)]),
V 13 (.mv (.t 15)),
V 16 (.ext 0 (.t 13)),
V 17 (.ext 1 (.t 13)),
V 3 (.mv (.t 16)),
V 4 (.mv (.t 17))]) (.seq (.rg [V 18 (.fad 0 (.t 1)),
V 19 (.ld none (.t 18)),
V 20 (.len (.t 19)),
V 21 (.mks 1 [.ns] (.t 20)),
V 5 (.mv (.t 21))]) (.seq (.seq (.rg [V 22 (.fad 0 (.t 1)),
V 23 (.ld none (.t 22)),
V 24 (.len (.t 23)),
V 25 (.mv (.k (.c (.i 0))))]) (.block 0 (.loop vf23b1))) (.seq (.rg [V 64 (.mv (.t 5)),
V 2 (.mv (.t 64))]) (.ret))))))
def vf23 : VF := ⟨vf23c,vf23v,[(2,none)]⟩
theorem ok23 : chkF Tryz.prog Tryz.f23 vf23 = true := by kernel_rfl
theorem dr23 : drawsB vf23.body = true := by kernel_rfl
/-- loop.example/g00192/impl.Critical -/
def vf24v : List Nat := [0,1,2,3,4,5,7,10,14,15,16,23,24,25,26,27,44]
def vf24b0 : VC := .seq (.rg [V 27 (.bin .lt (.t 26) (.t 25))]) (.seq (.cond (.t 27) (.skip) (.exit 2)) (.seq (.block 3 (.seq (.rg [V 28 (.idx 1 (.t 24) (.t 26)),
V 29 (.ld none (.t 28)),
V 7 (.mv (.t 29))]) (.seq (.rg [V 30 (.ld (some 2) (.t 1)),
V 31 (.mv (.t 7)),
V 32 (.call 84 [(.t 30),(.t 31)]),
V 33 (.len (.t 32)),
V 34 (.bin .gt (.t 33) (.k (.c (.i 1)))),
V 35 (.mv (.t 34)),
Vg 36 35 false (.fad 0 (.t 1)),
Vg 37 35 false (.ld none (.t 36)),
Vg 38 35 false (.mv (.t 7)),
Vg 39 35 false (.idx 6 (.t 37) (.t 38)),
Vg 40 35 false (.fad 0 (.t 39)),
Vg 41 35 false (.ld none (.t 40)),
Vg 42 35 false (.len (.t 41)),
Vg 43 35 false (.bin .gt (.t 42) (.k (.c (.i 0)))),
V 44 (.pick (.t 35) (.k (.c (.b true))) (.t 43))]) (.cond (.t 44) (.rg [V 45 (.mv (.t 3)),
V 46 (.mv (.t 4)),
V 47 (.mv (.t 7)),
V 48 (.build [.i 0,.i 0] [(0,1,(.t 46)),(1,1,(.t 47))]),
V 49 (.bsl 2 [.i 0,.i 0] 1 [(0,2,(.t 48))]),
V 50 (.app 2 (.t 45) (.t 49)),
V 3 (.mv (.t 50))]) (.skip))))) (.rg [V 51 (.bin .add (.t 26) (.k (.c (.i 1)))),
V 26 (.mv (.t 51))])))
def vf24b1 : VC := .seq (.rg [V 16 (.bin .lt (.t 15) (.t 14))]) (.seq (.cond (.t 16) (.skip) (.exit 0)) (.seq (.block 1 (.seq (.rg [V 17 (.mv (.t 15)),
V 4 (.mv (.t 17))]) (.seq (.rg [V 18 (.ld (some 2) (.t 1)),
V 19 (.mv (.t 4)),
V 20 (.call 83 [(.t 18),(.t 19)]),
V 5 (.mv (.t 20))]) (.seq (.seq (.rg [V 21 (.mv (.t 5)),
V 22 (.len (.t 21)),
V 23 (.bin .ne (.t 22) (.k (.c (.i 2))))]) (.cond (.t 23) (.exit 1) (.skip))) (.seq (.rg [V 24 (.mv (.t 5)),
V 25 (.len (.t 24)),
V 26 (.mv (.k (.c (.i 0))))]) (.block 2 (.loop vf24b0))))))) (.rg [V 52 (.bin .add (.t 15) (.k (.c (.i 1)))),
V 15 (.mv (.t 52))])))
def vf24c : VC := .seq (.rg [V 1 (.box (.t 0)),
V 2 (.mv (.k (.c .ns)))]) (.seq (.seq (.rg [V 8 (.ld (some 2) (.t 1)),
V 9 (.call 19 [(.t 8)]),
V 10 (.not (.t 9))]) (.cond (.t 10) (.seq (.rg [V 2 (.mv (.k (.c .ns)))]) (.ret)) (.skip))) (.seq (.rg [V 11 (.bsl 2 [.i 0,.i 0] 0 []),
V 3 (.mv (.t 11))]) (.seq (.seq (.rg [V 12 (.fad 0 (.t 1)),
V 13 (.ld none (.t 12)),
V 14 (.len (.t 13)),
V 15 (.mv (.k (.c (.i 0))))]) (.block 0 (.loop vf24b1))) (.seq (.rg [V 53 (.mv (.t 3)),
V 2 (.mv (.t 53))]) (.ret)))))
def vf24 : VF := ⟨vf24c,vf24v,[(2,none)]⟩
theorem ok24 : chkF Tryz.prog Tryz.f24 vf24 = true := by kernel_rfl
theorem dr24 : drawsB vf24.body = true := by kernel_rfl
/-- loop.example/g00192/impl.Cost -/
def vf25v : List Nat := [0,1,2,3,5,8,10,11,12,13]
def vf25b0 : VC := .seq (.rg [V 13 (.bin .lt (.t 12) (.t 11))]) (.seq (.cond (.t 13) (.skip) (.exit 0)) (.seq (.block 1 (.seq (.rg [V 14 (.idx 6 (.t 10) (.t 12)),
V 15 (.ld (some 6) (.t 14)),
V 5 (.alloc [.ns,.ns,.i 0,.i 0,.i 0,.i 0]),
Vn (.st 6 (.t 5) (.t 15))]) (.rg [V 16 (.mv (.t 3)),
V 17 (.fad 0 (.t 5)),
V 18 (.ld none (.t 17)),
V 19 (.len (.t 18)),
V 20 (.fad 1 (.t 5)),
V 21 (.ld none (.t 20)),
V 22 (.len (.t 21)),
V 23 (.bin .add (.t 19) (.t 22)),
V 24 (.bin .add (.t 16) (.t 23)),
V 3 (.mv (.t 24))]))) (.rg [V 25 (.bin .add (.t 12) (.k (.c (.i 1)))),
V 12 (.mv (.t 25))])))
def vf25c : VC := .seq (.rg [V 1 (.box (.t 0)),
V 2 (.mv (.k (.c (.i 0))))]) (.seq (.seq (.rg [V 6 (.ld (some 2) (.t 1)),
V 7 (.call 19 [(.t 6)]),
V 8 (.not (.t 7))]) (.cond (.t 8) (.seq (.rg [V 2 (.mv (.k (.c (.i (-1)))))]) (.ret)) (.skip))) (.seq (.rg [V 3 (.mv (.k (.c (.i 0))))]) (.seq (.seq (.rg [V 9 (.fad 0 (.t 1)),
V 10 (.ld none (.t 9)),
V 11 (.len (.t 10)),
V 12 (.mv (.k (.c (.i 0))))]) (.block 0 (.loop vf25b0))) (.seq (.rg [V 26 (.mv (.t 3)),
V 2 (.mv (.t 26))]) (.ret)))))
def vf25 : VF := ⟨vf25c,vf25v,[(2,none)]⟩
theorem ok25 : chkF Tryz.prog Tryz.f25 vf25 = true := by kernel_rfl
theorem dr25 : drawsB vf25.body = true := by kernel_rfl
/-- loop.example/g00192/impl.Check -/
def vf26v : List Nat := [0,1,2,4,11,17,20,34,37,41]
def vf26c : VC := .seq (.rg [V 1 (.box (.t 0)),
V 2 (.mv (.k (.c (.i 0))))]) (.seq (.seq (.rg [V 5 (.ld (some 2) (.t 1)),
V 6 (.call 19 [(.t 5)]),
V 7 (.not (.t 6)),
V 8 (.mv (.t 7)),
Vg 9 8 false (.ld (some 2) (.t 1)),
Vg 10 8 false (.call 85 [(.t 9)]),
V 11 (.pick (.t 8) (.k (.c (.b true))) (.t 10))]) (.cond (.t 11) (.seq (.rg [V 2 (.mv (.k (.c (.i 1))))]) (.ret)) (.skip))) (.seq (.rg [V 13 (.ld (some 2) (.t 1)),
V 14 (.call 81 [(.t 13)]),
V 12 (.mv (.t 14)),
V 15 (.ext 0 (.t 12)),
V 16 (.ext 1 (.t 12)),
V 3 (.mv (.t 15)),
V 4 (.mv (.t 16))]) (.seq (.block 0 (.seq (.rg [V 18 (.mv (.t 4)),
V 19 (.call 86 [(.t 18),(.k (.c (.b false)))]),
V 17 (.mv (.t 19))]) (.cond (.t 17) (.seq (.rg [V 2 (.mv (.k (.c (.i 2))))]) (.ret)) (.seq (.rg [V 21 (.fad 0 (.t 1)),
V 22 (.ld none (.t 21)),
V 23 (.idx 6 (.t 22) (.k (.c (.i 0)))),
V 24 (.fad 0 (.t 23)),
V 25 (.ld none (.t 24)),
V 26 (.len (.t 25)),
V 27 (.bin .gt (.t 26) (.k (.c (.i 0)))),
V 28 (.mv (.t 27)),
Vg 29 28 false (.ld (some 2) (.t 1)),
Vg 30 28 false (.call 84 [(.t 29),(.k (.c (.i 0)))]),
Vg 31 28 false (.len (.t 30)),
Vg 32 28 false (.bin .gt (.t 31) (.k (.c (.i 0)))),
V 33 (.pick (.t 28) (.k (.c (.b true))) (.t 32)),
V 20 (.mv (.t 33))]) (.cond (.t 20) (.seq (.rg [V 2 (.mv (.k (.c (.i 3))))]) (.ret)) (.seq (.rg [V 35 (.ld (some 2) (.t 1)),
V 36 (.call 87 [(.t 35)]),
V 34 (.mv (.t 36))]) (.cond (.t 34) (.seq (.rg [V 2 (.mv (.k (.c (.i 4))))]) (.ret)) (.seq (.rg [V 38 (.ld (some 2) (.t 1)),
V 39 (.call 89 [(.t 38)]),
V 40 (.call 88 [(.t 39),(.k (.f 90 []))]),
V 37 (.mv (.t 40))]) (.cond (.t 37) (.seq (.rg [V 2 (.mv (.k (.c (.i 5))))]) (.ret)) (.seq (.rg [V 42 (.ld (some 2) (.t 1)),
V 43 (.call 91 [(.t 42)]),
V 41 (.mv (.t 43))]) (.cond (.t 41) (.seq (.rg [V 2 (.mv (.k (.c (.i 6))))]) (.ret)) (.skip)))))))))))) (.seq (.rg [V 2 (.mv (.k (.c (.i 0))))]) (.ret)))))
def vf26 : VF := ⟨vf26c,vf26v,[(2,none)]⟩
theorem ok26 : chkF Tryz.prog Tryz.f26 vf26 = true := by kernel_rfl
theorem dr26 : drawsB vf26.body = true := by kernel_rfl
/-- loop.example/g00192/impl.Succs -/
def vf27v : List Nat := [0,1,2,4,8]
def vf27c : VC := .seq (.rg [V 2 (.box (.t 0)),
V 4 (.mv (.k (.c .ns)))]) (.seq (.seq (.rg [V 5 (.ld (some 2) (.t 2)),
V 6 (.mv (.t 1)),
V 7 (.call 92 [(.t 5),(.t 6)]),
V 8 (.not (.t 7))]) (.cond (.t 8) (.seq (.rg [V 4 (.mv (.k (.c .ns)))]) (.ret)) (.skip))) (.seq (.rg [V 9 (.ld (some 2) (.t 2)),
V 10 (.mv (.t 1)),
V 11 (.call 83 [(.t 9),(.t 10)]),
V 4 (.mv (.t 11))]) (.ret)))
def vf27 : VF := ⟨vf27c,vf27v,[(4,none)]⟩
theorem ok27 : chkF Tryz.prog Tryz.f27 vf27 = true := by kernel_rfl
theorem dr27 : drawsB vf27.body = true := by kernel_rfl
/-- loop.example/g00192/spec.DrawCheck -/
def vf28v : List Nat := [0,2]
def vf28c : VC := .seq (.rg [V 2 (.alloc [.ns,.i 0])]) (.seq (.rg [V 3 (.mv (.t 0)),
V 4 (.call 65 [(.t 3)]),
V 5 (.call 64 [(.t 4)]),
Vn (.st 2 (.t 2) (.t 5))]) (.ret))
def vf28 : VF := ⟨vf28c,vf28v,[(2,(some (some 2)))]⟩
theorem ok28 : chkF Tryz.prog Tryz.f28 vf28 = true := by kernel_rfl
theorem dr28 : drawsB vf28.body = true := by kernel_rfl
/-- loop.example/g00192/spec.Check -/
def vf29v : List Nat := [0,1,2,3,4,11,18,31,34,40,47,50]
def vf29b0 : VC := .seq (.seq (.rg [V 37 (.mv (.t 4)),
V 38 (.mv (.t 3)),
V 39 (.len (.t 38)),
V 40 (.bin .lt (.t 37) (.t 39))]) (.cond (.t 40) (.skip) (.exit 0))) (.seq (.block 1 (.seq (.rg [V 43 (.mv (.t 3)),
V 44 (.mv (.t 4)),
V 45 (.idx 1 (.t 43) (.t 44)),
V 46 (.ld none (.t 45)),
V 47 (.bin .gt (.t 46) (.k (.c (.i 1))))]) (.cond (.t 47) (.seq (.rg [V 2 (.mv (.k (.c (.i 5))))]) (.ret)) (.skip)))) (.rg [V 41 (.mv (.t 4)),
V 42 (.bin .add (.t 41) (.k (.c (.i 1)))),
V 4 (.mv (.t 42))]))
def vf29c : VC := .seq (.rg [V 1 (.box (.t 0)),
V 2 (.mv (.k (.c (.i 0))))]) (.seq (.seq (.rg [V 5 (.ld (some 2) (.t 1)),
V 6 (.call 20 [(.t 5)]),
V 7 (.not (.t 6)),
V 8 (.mv (.t 7)),
Vg 9 8 false (.ld (some 2) (.t 1)),
Vg 10 8 false (.call 93 [(.t 9)]),
V 11 (.pick (.t 8) (.k (.c (.b true))) (.t 10))]) (.cond (.t 11) (.seq (.rg [V 2 (.mv (.k (.c (.i 1))))]) (.ret)) (.skip))) (.seq (.seq (.rd [V 12 (.ld (some 2) (.t 1)),
Vc [0] [] true (V 13 (.call 94 [(.t 12)])),
Vd [1] (V 14 (.len (.t 13))),
V 15 (.fad 0 (.t 1)),
Vc [3] [1] false (V 16 (.ld none (.t 15))),
Vd [4] (V 17 (.len (.t 16))),
Vd [2,5] (V 18 (.bin .ne (.t 14) (.t 17)))]) (.cond (.t 18) (.seq (.rg [V 2 (.mv (.k (.c (.i 2))))]) (.ret)) (.skip))) (.seq (.seq (.rg [V 19 (.fad 0 (.t 1)),
V 20 (.ld none (.t 19)),
V 21 (.idx 6 (.t 20) (.k (.c (.i 0)))),
V 22 (.fad 0 (.t 21)),
V 23 (.ld none (.t 22)),
V 24 (.len (.t 23)),
V 25 (.bin .gt (.t 24) (.k (.c (.i 0)))),
V 26 (.mv (.t 25)),
Vg 27 26 false (.ld (some 2) (.t 1)),
Vg 28 26 false (.call 95 [(.t 27),(.k (.c (.i 0)))]),
Vg 29 26 false (.len (.t 28)),
Vg 30 26 false (.bin .gt (.t 29) (.k (.c (.i 0)))),
V 31 (.pick (.t 26) (.k (.c (.b true))) (.t 30))]) (.cond (.t 31) (.seq (.rg [V 2 (.mv (.k (.c (.i 3))))]) (.ret)) (.skip))) (.seq (.seq (.rg [V 32 (.ld (some 2) (.t 1)),
V 33 (.call 96 [(.t 32)]),
V 34 (.not (.t 33))]) (.cond (.t 34) (.seq (.rg [V 2 (.mv (.k (.c (.i 4))))]) (.ret)) (.skip))) (.seq (.rg [V 35 (.ld (some 2) (.t 1)),
V 36 (.call 97 [(.t 35)]),
V 3 (.mv (.t 36))]) (.seq (.seq (.rg [V 4 (.mv (.k (.c (.i 0))))]) (.block 0 (.loop vf29b0))) (.seq (.seq (.rg [V 48 (.ld (some 2) (.t 1)),
V 49 (.call 98 [(.t 48)]),
V 50 (.not (.t 49))]) (.cond (.t 50) (.seq (.rg [V 2 (.mv (.k (.c (.i 6))))]) (.ret)) (.skip))) (.seq (.rg [V 2 (.mv (.k (.c (.i 0))))]) (.ret)))))))))
def vf29 : VF := ⟨vf29c,vf29v,[(2,none)]⟩
theorem ok29 : chkF Tryz.prog Tryz.f29 vf29 = true := by kernel_rfl
theorem dr29 : drawsB vf29.body = true := by kernel_rfl
/-- loop.example/g00192/impl.InsUses -/
def vf30v : List Nat := [0,1,2,3,7,15]
def vf30c : VC := .seq (.rg [V 1 (.box (.t 0)),
V 2 (.mv (.k (.c .ns)))]) (.seq (.rg [V 4 (.bsl 1 [.i 0] 0 []),
V 3 (.mv (.t 4))]) (.seq (.seq (.rg [V 5 (.fad 0 (.t 1)),
V 6 (.ld none (.t 5)),
V 7 (.call 99 [(.t 6),(.k (.c (.y 65)))])]) (.cond (.t 7) (.rg [V 8 (.mv (.t 3)),
V 9 (.fad 2 (.t 1)),
V 10 (.ld none (.t 9)),
V 11 (.bsl 1 [.i 0] 1 [(0,1,(.t 10))]),
V 12 (.app 1 (.t 8) (.t 11)),
V 3 (.mv (.t 12))]) (.skip))) (.seq (.seq (.rg [V 13 (.fad 0 (.t 1)),
V 14 (.ld none (.t 13)),
V 15 (.call 99 [(.t 14),(.k (.c (.y 66)))])]) (.cond (.t 15) (.rg [V 16 (.mv (.t 3)),
V 17 (.fad 3 (.t 1)),
V 18 (.ld none (.t 17)),
V 19 (.bsl 1 [.i 0] 1 [(0,1,(.t 18))]),
V 20 (.app 1 (.t 16) (.t 19)),
V 3 (.mv (.t 20))]) (.skip))) (.seq (.rg [V 21 (.mv (.t 3)),
V 2 (.mv (.t 21))]) (.ret)))))
def vf30 : VF := ⟨vf30c,vf30v,[(2,none)]⟩
theorem ok30 : chkF Tryz.prog Tryz.f30 vf30 = true := by kernel_rfl
theorem dr30 : drawsB vf30.body = true := by kernel_rfl
/-- loop.example/g00192/impl.DefAt -/
def vf31v : List Nat := [0,1,2,3,4,5,6,7,8,11,13,14,15,16,23,30]
def vf31b0 : VC := .seq (.rg [V 16 (.bin .lt (.t 15) (.t 14))]) (.seq (.cond (.t 16) (.skip) (.exit 0)) (.seq (.block 1 (.seq (.rg [V 17 (.mv (.t 15)),
V 18 (.idx 6 (.t 13) (.t 15)),
V 19 (.ld (some 6) (.t 18)),
V 7 (.alloc [.ns,.ns,.i 0,.i 0,.i 0,.i 0]),
V 6 (.mv (.t 17)),
Vn (.st 6 (.t 7) (.t 19))]) (.seq (.seq (.rg [V 20 (.fad 0 (.t 7)),
V 21 (.ld none (.t 20)),
V 22 (.mkf 100 [(.t 3)]),
V 23 (.call 70 [(.t 21),(.t 22)])]) (.cond (.t 23) (.seq (.rg [V 24 (.mv (.t 6)),
V 4 (.mv (.t 24)),
V 5 (.mv (.k (.c (.i (-1)))))]) (.ret)) (.skip))) (.seq (.rg [V 25 (.fad 1 (.t 7)),
V 26 (.ld none (.t 25)),
V 27 (.mkf 102 [(.t 3)]),
V 28 (.call 101 [(.t 26),(.t 27)]),
V 8 (.mv (.t 28))]) (.seq (.rg [V 29 (.mv (.t 8)),
V 30 (.bin .ge (.t 29) (.k (.c (.i 0))))]) (.cond (.t 30) (.seq (.rg [V 31 (.mv (.t 6)),
V 32 (.mv (.t 8)),
V 4 (.mv (.t 31)),
V 5 (.mv (.t 32))]) (.ret)) (.skip))))))) (.rg [V 33 (.bin .add (.t 15) (.k (.c (.i 1)))),
V 15 (.mv (.t 33))])))
def vf31c : VC := .seq (.rg [V 2 (.box (.t 0)),
V 3 (.box (.t 1)),
V 4 (.mv (.k (.c (.i 0)))),
V 5 (.mv (.k (.c (.i 0))))]) (.seq (.seq (.rg [V 9 (.ld (some 2) (.t 2)),
V 10 (.call 19 [(.t 9)]),
V 11 (.not (.t 10))]) (.cond (.t 11) (.seq (.rg [V 4 (.mv (.k (.c (.i (-1))))),
V 5 (.mv (.k (.c (.i (-2)))))]) (.ret)) (.skip))) (.seq (.seq (.rg [V 12 (.fad 0 (.t 2)),
V 13 (.ld none (.t 12)),
V 14 (.len (.t 13)),
V 15 (.mv (.k (.c (.i 0))))]) (.block 0 (.loop vf31b0))) (.seq (.rg [V 4 (.mv (.k (.c (.i (-1))))),
V 5 (.mv (.k (.c (.i (-2)))))]) (.ret))))
def vf31 : VF := ⟨vf31c,vf31v,[(4,none),(5,none)]⟩
theorem ok31 : chkF Tryz.prog Tryz.f31 vf31 = true := by kernel_rfl
theorem dr31 : drawsB vf31.body = true := by kernel_rfl
/-- loop.example/g00192/impl.Dominates -/
def vf32v : List Nat := [0,1,2,3,6]
def vf32c : VC := .seq (.rg [V 3 (.box (.t 0)),
V 6 (.mv (.k (.c (.b false))))]) (.seq (.rg [V 7 (.ld (some 2) (.t 3)),
V 8 (.call 23 [(.t 7)]),
V 9 (.mv (.t 1)),
V 10 (.mv (.t 2)),
V 11 (.call 103 [(.t 8),(.t 9),(.t 10)]),
V 6 (.mv (.t 11))]) (.ret))
def vf32 : VF := ⟨vf32c,vf32v,[(6,none)]⟩
theorem ok32 : chkF Tryz.prog Tryz.f32 vf32 = true := by kernel_rfl
theorem dr32 : drawsB vf32.body = true := by kernel_rfl
/-- loop.example/g00192/impl.InsDef -/
def vf33v : List Nat := [0,1,2,5]
def vf33c : VC := .seq (.rg [V 1 (.box (.t 0)),
V 2 (.mv (.k (.c (.i 0))))]) (.seq (.seq (.rg [V 3 (.fad 0 (.t 1)),
V 4 (.ld none (.t 3)),
V 5 (.call 99 [(.t 4),(.k (.c (.y 68)))])]) (.cond (.t 5) (.seq (.rg [V 6 (.fad 1 (.t 1)),
V 7 (.ld none (.t 6)),
V 2 (.mv (.t 7))]) (.ret)) (.skip))) (.seq (.rg [V 2 (.mv (.k (.c (.i (-1)))))]) (.ret)))
def vf33 : VF := ⟨vf33c,vf33v,[(2,none)]⟩
theorem ok33 : chkF Tryz.prog Tryz.f33 vf33 = true := by kernel_rfl
theorem dr33 : drawsB vf33.body = true := by kernel_rfl
/-- loop.example/g00192/impl.Preds -/
def vf34v : List Nat := [0,1,2,4,8]
def vf34c : VC := .seq (.rg [V 2 (.box (.t 0)),
V 4 (.mv (.k (.c .ns)))]) (.seq (.seq (.rg [V 5 (.ld (some 2) (.t 2)),
V 6 (.mv (.t 1)),
V 7 (.call 92 [(.t 5),(.t 6)]),
V 8 (.not (.t 7))]) (.cond (.t 8) (.seq (.rg [V 4 (.mv (.k (.c .ns)))]) (.ret)) (.skip))) (.seq (.rg [V 9 (.ld (some 2) (.t 2)),
V 10 (.mv (.t 1)),
V 11 (.call 84 [(.t 9),(.t 10)]),
V 4 (.mv (.t 11))]) (.ret)))
def vf34 : VF := ⟨vf34c,vf34v,[(4,none)]⟩
theorem ok34 : chkF Tryz.prog Tryz.f34 vf34 = true := by kernel_rfl
theorem dr34 : drawsB vf34.body = true := by kernel_rfl
/-- loop.example/g00192/impl.TermUses -/
def vf45v : List Nat := [0,1,2,10]
def vf45c : VC := .seq (.rg [V 1 (.box (.t 0)),
V 2 (.mv (.k (.c .ns)))]) (.seq (.seq (.rg [V 3 (.fad 0 (.t 1)),
V 4 (.ld none (.t 3)),
V 5 (.bin .eq (.t 4) (.k (.c (.i 2)))),
V 6 (.mv (.t 5)),
Vg 7 6 false (.fad 0 (.t 1)),
Vg 8 6 false (.ld none (.t 7)),
Vg 9 6 false (.bin .eq (.t 8) (.k (.c (.i 3)))),
V 10 (.pick (.t 6) (.k (.c (.b true))) (.t 9))]) (.cond (.t 10) (.seq (.rg [V 11 (.fad 1 (.t 1)),
V 12 (.ld none (.t 11)),
V 13 (.bsl 1 [.i 0] 1 [(0,1,(.t 12))]),
V 2 (.mv (.t 13))]) (.ret)) (.skip))) (.seq (.rg [V 2 (.mv (.k (.c .ns)))]) (.ret)))
def vf45 : VF := ⟨vf45c,vf45v,[(2,none)]⟩
theorem ok45 : chkF Tryz.prog Tryz.f45 vf45 = true := by kernel_rfl
theorem dr45 : drawsB vf45.body = true := by kernel_rfl
end Go.Proofs.YtgdfgnppeekfjaaGreat.Vm
