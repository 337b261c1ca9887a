/- The ideal machine's code for some of the program's functions, each checked against the translated one. No conditions. -/
import Derived.Test.YtgdfgnppeekfjaaGreatChecked
import Derived.Test.YtgdfgnppeekfjaaGreatVmQ
import Derived.Test.YtgdfgnppeekfjaaGreatVmC
namespace Go.Proofs.YtgdfgnppeekfjaaGreat.Vm
set_option linter.unusedVariables false
set_option maxRecDepth 100000
/-- loop.example/g00192/impl.Doms -/
def vf23v : List Nat := [0,1,2,4,5,6,7,8,9,12,24,25,26,31,32,33,34,51]
def vf23b0 : VC := .seq (.rg [V 34 (.bin .lt (.t 33) (.t 32))]) (.seq (.cond (.t 34) (.skip) (.exit 2)) (.seq (.block 3 (.seq (.rg [V 35 (.mv (.t 33)),
V 36 (.idx 1 (.t 31) (.t 33)),
V 37 (.ld none (.t 36)),
V 8 (.mv (.t 35)),
V 9 (.mv (.t 37))]) (.seq (.rg [V 38 (.mv (.t 9)),
V 39 (.mv (.t 38)),
Vg 40 39 true (.mv (.t 7)),
Vg 41 39 true (.mv (.t 8)),
Vg 42 39 true (.idx 1 (.t 40) (.t 41)),
Vg 43 39 true (.ld none (.t 42)),
Vg 44 39 true (.not (.t 43)),
V 45 (.pick (.t 39) (.t 44) (.k (.c (.b false)))),
V 46 (.mv (.t 45)),
Vg 47 46 true (.mv (.t 4)),
Vg 48 46 true (.mv (.t 6)),
Vg 49 46 true (.idx 1 (.t 47) (.t 48)),
Vg 50 46 true (.ld none (.t 49)),
V 51 (.pick (.t 46) (.t 50) (.k (.c (.b false))))]) (.cond (.t 51) (.rg [V 52 (.mv (.t 5)),
V 53 (.mv (.t 8)),
V 54 (.mv (.t 5)),
V 55 (.mv (.t 8)),
V 56 (.idx 1 (.t 54) (.t 55)),
V 57 (.ld none (.t 56)),
V 58 (.mv (.t 6)),
V 59 (.bsl 1 [.i 0] 1 [(0,1,(.t 58))]),
V 60 (.app 1 (.t 57) (.t 59)),
V 61 (.idx 1 (.t 52) (.t 53)),
Vn (.st 1 (.t 61) (.t 60))]) (.skip))))) (.rg [V 62 (.bin .add (.t 33) (.k (.c (.i 1)))),
V 33 (.mv (.t 62))])))
def vf23b1 : VC := .seq (.rg [V 26 (.bin .lt (.t 25) (.t 24))]) (.seq (.cond (.t 26) (.skip) (.exit 0)) (.seq (.block 1 (.seq (.rg [V 27 (.mv (.t 25)),
V 6 (.mv (.t 27))]) (.seq (.rg [V 28 (.ld (some 2) (.t 1)),
V 29 (.mv (.t 6)),
V 30 (.call 82 [(.t 28),(.t 29)]),
V 7 (.mv (.t 30))]) (.seq (.rg [V 31 (.mv (.t 4)),
V 32 (.len (.t 31)),
V 33 (.mv (.k (.c (.i 0))))]) (.block 2 (.loop vf23b0)))))) (.rg [V 63 (.bin .add (.t 25) (.k (.c (.i 1)))),
V 25 (.mv (.t 63))])))
def vf23c : VC := .seq (.rg [V 1 (.box (.t 0)),
V 2 (.mv (.k (.c .ns)))]) (.seq (.seq (.rg [V 10 (.ld (some 2) (.t 1)),
V 11 (.call 19 [(.t 10)]),
V 12 (.not (.t 11))]) (.cond (.t 12) (.seq (.rg [V 2 (.mv (.k (.c .ns)))]) (.ret)) (.skip))) (.seq (.rg [V 14 (.ld (some 2) (.t 1)),
V 15 (.call 81 [(.t 14)]),
V 13 (.mv (.t 15)),
V 16 (.ext 0 (.t 13)),
V 17 (.ext 1 (.t 13)),
V 3 (.mv (.t 16)),
V 4 (.mv (.t 17))]) (.seq (.rg [V 18 (.fad 0 (.t 1)),
V 19 (.ld none (.t 18)),
V 20 (.len (.t 19)),
V 21 (.mks 1 [.ns] (.t 20)),
V 5 (.mv (.t 21))]) (.seq (.seq (.rg [V 22 (.fad 0 (.t 1)),
V 23 (.ld none (.t 22)),
V 24 (.len (.t 23)),
V 25 (.mv (.k (.c (.i 0))))]) (.block 0 (.loop vf23b1))) (.seq (.rg [V 64 (.mv (.t 5)),
V 2 (.mv (.t 64))]) (.ret))))))
def vf23 : VF := ⟨vf23c,vf23v,[(2,none)]⟩
theorem ok23 : chkF Tryz.prog Tryz.f23 vf23 = true := by kernel_rfl
theorem dr23 : drawsB vf23.body = true := by kernel_rfl
/-- loop.example/g00192/impl.Check -/
def vf26v : List Nat := [0,1,2,4,11,17,20,34,37,41]
def vf26c : VC := .seq (.rg [V 1 (.box (.t 0)),
V 2 (.mv (.k (.c (.i 0))))]) (.seq (.seq (.rg [V 5 (.ld (some 2) (.t 1)),
V 6 (.call 19 [(.t 5)]),
V 7 (.not (.t 6)),
V 8 (.mv (.t 7)),
Vg 9 8 false (.ld (some 2) (.t 1)),
Vg 10 8 false (.call 85 [(.t 9)]),
V 11 (.pick (.t 8) (.k (.c (.b true))) (.t 10))]) (.cond (.t 11) (.seq (.rg [V 2 (.mv (.k (.c (.i 1))))]) (.ret)) (.skip))) (.seq (.rg [V 13 (.ld (some 2) (.t 1)),
V 14 (.call 81 [(.t 13)]),
V 12 (.mv (.t 14)),
V 15 (.ext 0 (.t 12)),
V 16 (.ext 1 (.t 12)),
V 3 (.mv (.t 15)),
V 4 (.mv (.t 16))]) (.seq (.block 0 (.seq (.rg [V 18 (.mv (.t 4)),
V 19 (.call 86 [(.t 18),(.k (.c (.b false)))]),
V 17 (.mv (.t 19))]) (.cond (.t 17) (.seq (.rg [V 2 (.mv (.k (.c (.i 2))))]) (.ret)) (.seq (.rg [V 21 (.fad 0 (.t 1)),
V 22 (.ld none (.t 21)),
V 23 (.idx 6 (.t 22) (.k (.c (.i 0)))),
V 24 (.fad 0 (.t 23)),
V 25 (.ld none (.t 24)),
V 26 (.len (.t 25)),
V 27 (.bin .gt (.t 26) (.k (.c (.i 0)))),
V 28 (.mv (.t 27)),
Vg 29 28 false (.ld (some 2) (.t 1)),
Vg 30 28 false (.call 84 [(.t 29),(.k (.c (.i 0)))]),
Vg 31 28 false (.len (.t 30)),
Vg 32 28 false (.bin .gt (.t 31) (.k (.c (.i 0)))),
V 33 (.pick (.t 28) (.k (.c (.b true))) (.t 32)),
V 20 (.mv (.t 33))]) (.cond (.t 20) (.seq (.rg [V 2 (.mv (.k (.c (.i 3))))]) (.ret)) (.seq (.rg [V 35 (.ld (some 2) (.t 1)),
V 36 (.call 87 [(.t 35)]),
V 34 (.mv (.t 36))]) (.cond (.t 34) (.seq (.rg [V 2 (.mv (.k (.c (.i 4))))]) (.ret)) (.seq (.rg [V 38 (.ld (some 2) (.t 1)),
V 39 (.call 89 [(.t 38)]),
V 40 (.call 88 [(.t 39),(.k (.f 90 []))]),
V 37 (.mv (.t 40))]) (.cond (.t 37) (.seq (.rg [V 2 (.mv (.k (.c (.i 5))))]) (.ret)) (.seq (.rg [V 42 (.ld (some 2) (.t 1)),
V 43 (.call 91 [(.t 42)]),
V 41 (.mv (.t 43))]) (.cond (.t 41) (.seq (.rg [V 2 (.mv (.k (.c (.i 6))))]) (.ret)) (.skip)))))))))))) (.seq (.rg [V 2 (.mv (.k (.c (.i 0))))]) (.ret)))))
def vf26 : VF := ⟨vf26c,vf26v,[(2,none)]⟩
theorem ok26 : chkF Tryz.prog Tryz.f26 vf26 = true := by kernel_rfl
theorem dr26 : drawsB vf26.body = true := by kernel_rfl
/-- loop.example/g00192/spec.Check -/
def vf29v : List Nat := [0,1,2,3,4,11,18,31,34,40,47,50]
def vf29b0 : VC := .seq (.seq (.rg [V 37 (.mv (.t 4)),
V 38 (.mv (.t 3)),
V 39 (.len (.t 38)),
V 40 (.bin .lt (.t 37) (.t 39))]) (.cond (.t 40) (.skip) (.exit 0))) (.seq (.block 1 (.seq (.rg [V 43 (.mv (.t 3)),
V 44 (.mv (.t 4)),
V 45 (.idx 1 (.t 43) (.t 44)),
V 46 (.ld none (.t 45)),
V 47 (.bin .gt (.t 46) (.k (.c (.i 1))))]) (.cond (.t 47) (.seq (.rg [V 2 (.mv (.k (.c (.i 5))))]) (.ret)) (.skip)))) (.rg [V 41 (.mv (.t 4)),
V 42 (.bin .add (.t 41) (.k (.c (.i 1)))),
V 4 (.mv (.t 42))]))
def vf29c : VC := .seq (.rg [V 1 (.box (.t 0)),
V 2 (.mv (.k (.c (.i 0))))]) (.seq (.seq (.rg [V 5 (.ld (some 2) (.t 1)),
V 6 (.call 20 [(.t 5)]),
V 7 (.not (.t 6)),
V 8 (.mv (.t 7)),
Vg 9 8 false (.ld (some 2) (.t 1)),
Vg 10 8 false (.call 93 [(.t 9)]),
V 11 (.pick (.t 8) (.k (.c (.b true))) (.t 10))]) (.cond (.t 11) (.seq (.rg [V 2 (.mv (.k (.c (.i 1))))]) (.ret)) (.skip))) (.seq (.seq (.rd [V 12 (.ld (some 2) (.t 1)),
Vc [0] [] true (V 13 (.call 94 [(.t 12)])),
Vd [1] (V 14 (.len (.t 13))),
V 15 (.fad 0 (.t 1)),
Vc [3] [1] false (V 16 (.ld none (.t 15))),
Vd [4] (V 17 (.len (.t 16))),
Vd [2,5] (V 18 (.bin .ne (.t 14) (.t 17)))]) (.cond (.t 18) (.seq (.rg [V 2 (.mv (.k (.c (.i 2))))]) (.ret)) (.skip))) (.seq (.seq (.rg [V 19 (.fad 0 (.t 1)),
V 20 (.ld none (.t 19)),
V 21 (.idx 6 (.t 20) (.k (.c (.i 0)))),
V 22 (.fad 0 (.t 21)),
V 23 (.ld none (.t 22)),
V 24 (.len (.t 23)),
V 25 (.bin .gt (.t 24) (.k (.c (.i 0)))),
V 26 (.mv (.t 25)),
Vg 27 26 false (.ld (some 2) (.t 1)),
Vg 28 26 false (.call 95 [(.t 27),(.k (.c (.i 0)))]),
Vg 29 26 false (.len (.t 28)),
Vg 30 26 false (.bin .gt (.t 29) (.k (.c (.i 0)))),
V 31 (.pick (.t 26) (.k (.c (.b true))) (.t 30))]) (.cond (.t 31) (.seq (.rg [V 2 (.mv (.k (.c (.i 3))))]) (.ret)) (.skip))) (.seq (.seq (.rg [V 32 (.ld (some 2) (.t 1)),
V 33 (.call 96 [(.t 32)]),
V 34 (.not (.t 33))]) (.cond (.t 34) (.seq (.rg [V 2 (.mv (.k (.c (.i 4))))]) (.ret)) (.skip))) (.seq (.rg [V 35 (.ld (some 2) (.t 1)),
V 36 (.call 97 [(.t 35)]),
V 3 (.mv (.t 36))]) (.seq (.seq (.rg [V 4 (.mv (.k (.c (.i 0))))]) (.block 0 (.loop vf29b0))) (.seq (.seq (.rg [V 48 (.ld (some 2) (.t 1)),
V 49 (.call 98 [(.t 48)]),
V 50 (.not (.t 49))]) (.cond (.t 50) (.seq (.rg [V 2 (.mv (.k (.c (.i 6))))]) (.ret)) (.skip))) (.seq (.rg [V 2 (.mv (.k (.c (.i 0))))]) (.ret)))))))))
def vf29 : VF := ⟨vf29c,vf29v,[(2,none)]⟩
theorem ok29 : chkF Tryz.prog Tryz.f29 vf29 = true := by kernel_rfl
theorem dr29 : drawsB vf29.body = true := by kernel_rfl
/-- loop.example/g00192/impl.InsUses -/
def vf30v : List Nat := [0,1,2,3,7,15]
def vf30c : VC := .seq (.rg [V 1 (.box (.t 0)),
V 2 (.mv (.k (.c .ns)))]) (.seq (.rg [V 4 (.bsl 1 [.i 0] 0 []),
V 3 (.mv (.t 4))]) (.seq (.seq (.rg [V 5 (.fad 0 (.t 1)),
V 6 (.ld none (.t 5)),
V 7 (.call 99 [(.t 6),(.k (.c (.y 65)))])]) (.cond (.t 7) (.rg [V 8 (.mv (.t 3)),
V 9 (.fad 2 (.t 1)),
V 10 (.ld none (.t 9)),
V 11 (.bsl 1 [.i 0] 1 [(0,1,(.t 10))]),
V 12 (.app 1 (.t 8) (.t 11)),
V 3 (.mv (.t 12))]) (.skip))) (.seq (.seq (.rg [V 13 (.fad 0 (.t 1)),
V 14 (.ld none (.t 13)),
V 15 (.call 99 [(.t 14),(.k (.c (.y 66)))])]) (.cond (.t 15) (.rg [V 16 (.mv (.t 3)),
V 17 (.fad 3 (.t 1)),
V 18 (.ld none (.t 17)),
V 19 (.bsl 1 [.i 0] 1 [(0,1,(.t 18))]),
V 20 (.app 1 (.t 16) (.t 19)),
V 3 (.mv (.t 20))]) (.skip))) (.seq (.rg [V 21 (.mv (.t 3)),
V 2 (.mv (.t 21))]) (.ret)))))
def vf30 : VF := ⟨vf30c,vf30v,[(2,none)]⟩
theorem ok30 : chkF Tryz.prog Tryz.f30 vf30 = true := by kernel_rfl
theorem dr30 : drawsB vf30.body = true := by kernel_rfl
/-- loop.example/g00192/impl.DefAt -/
def vf31v : List Nat := [0,1,2,3,4,5,6,7,8,11,13,14,15,16,23,30]
def vf31b0 : VC := .seq (.rg [V 16 (.bin .lt (.t 15) (.t 14))]) (.seq (.cond (.t 16) (.skip) (.exit 0)) (.seq (.block 1 (.seq (.rg [V 17 (.mv (.t 15)),
V 18 (.idx 6 (.t 13) (.t 15)),
V 19 (.ld (some 6) (.t 18)),
V 7 (.alloc [.ns,.ns,.i 0,.i 0,.i 0,.i 0]),
V 6 (.mv (.t 17)),
Vn (.st 6 (.t 7) (.t 19))]) (.seq (.seq (.rg [V 20 (.fad 0 (.t 7)),
V 21 (.ld none (.t 20)),
V 22 (.mkf 100 [(.t 3)]),
V 23 (.call 70 [(.t 21),(.t 22)])]) (.cond (.t 23) (.seq (.rg [V 24 (.mv (.t 6)),
V 4 (.mv (.t 24)),
V 5 (.mv (.k (.c (.i (-1)))))]) (.ret)) (.skip))) (.seq (.rg [V 25 (.fad 1 (.t 7)),
V 26 (.ld none (.t 25)),
V 27 (.mkf 102 [(.t 3)]),
V 28 (.call 101 [(.t 26),(.t 27)]),
V 8 (.mv (.t 28))]) (.seq (.rg [V 29 (.mv (.t 8)),
V 30 (.bin .ge (.t 29) (.k (.c (.i 0))))]) (.cond (.t 30) (.seq (.rg [V 31 (.mv (.t 6)),
V 32 (.mv (.t 8)),
V 4 (.mv (.t 31)),
V 5 (.mv (.t 32))]) (.ret)) (.skip))))))) (.rg [V 33 (.bin .add (.t 15) (.k (.c (.i 1)))),
V 15 (.mv (.t 33))])))
def vf31c : VC := .seq (.rg [V 2 (.box (.t 0)),
V 3 (.box (.t 1)),
V 4 (.mv (.k (.c (.i 0)))),
V 5 (.mv (.k (.c (.i 0))))]) (.seq (.seq (.rg [V 9 (.ld (some 2) (.t 2)),
V 10 (.call 19 [(.t 9)]),
V 11 (.not (.t 10))]) (.cond (.t 11) (.seq (.rg [V 4 (.mv (.k (.c (.i (-1))))),
V 5 (.mv (.k (.c (.i (-2)))))]) (.ret)) (.skip))) (.seq (.seq (.rg [V 12 (.fad 0 (.t 2)),
V 13 (.ld none (.t 12)),
V 14 (.len (.t 13)),
V 15 (.mv (.k (.c (.i 0))))]) (.block 0 (.loop vf31b0))) (.seq (.rg [V 4 (.mv (.k (.c (.i (-1))))),
V 5 (.mv (.k (.c (.i (-2)))))]) (.ret))))
def vf31 : VF := ⟨vf31c,vf31v,[(4,none),(5,none)]⟩
theorem ok31 : chkF Tryz.prog Tryz.f31 vf31 = true := by kernel_rfl
theorem dr31 : drawsB vf31.body = true := by kernel_rfl
/-- loop.example/g00192/impl.InsDef -/
def vf33v : List Nat := [0,1,2,5]
def vf33c : VC := .seq (.rg [V 1 (.box (.t 0)),
V 2 (.mv (.k (.c (.i 0))))]) (.seq (.seq (.rg [V 3 (.fad 0 (.t 1)),
V 4 (.ld none (.t 3)),
V 5 (.call 99 [(.t 4),(.k (.c (.y 68)))])]) (.cond (.t 5) (.seq (.rg [V 6 (.fad 1 (.t 1)),
V 7 (.ld none (.t 6)),
V 2 (.mv (.t 7))]) (.ret)) (.skip))) (.seq (.rg [V 2 (.mv (.k (.c (.i (-1)))))]) (.ret)))
def vf33 : VF := ⟨vf33c,vf33v,[(2,none)]⟩
theorem ok33 : chkF Tryz.prog Tryz.f33 vf33 = true := by kernel_rfl
theorem dr33 : drawsB vf33.body = true := by kernel_rfl
/-- loop.example/g00192/laws.szFn -/
def vf35v : List Nat := [0,1,2,4,10]
def vf35c : VC := .seq (.rg [V 2 (.box (.t 0)),
V 4 (.mv (.k (.c (.i 0))))]) (.seq (.rg [V 5 (.fad 0 (.t 2)),
V 6 (.ld none (.t 5)),
V 7 (.mv (.t 1)),
V 8 (.call 104 [(.t 6),(.t 7)]),
V 1 (.mv (.t 8))]) (.seq (.seq (.rg [V 9 (.mv (.t 1)),
V 10 (.bin .lt (.t 9) (.k (.c (.i 0))))]) (.cond (.t 10) (.seq (.rg [V 4 (.mv (.k (.c (.i (-1)))))]) (.ret)) (.skip))) (.seq (.rg [V 11 (.mv (.t 1)),
V 4 (.mv (.t 11))]) (.ret))))
def vf35 : VF := ⟨vf35c,vf35v,[(4,none)]⟩
theorem ok35 : chkF Tryz.prog Tryz.f35 vf35 = true := by kernel_rfl
theorem dr35 : drawsB vf35.body = true := by kernel_rfl
/-- loop.example/g00192/laws.toFn -/
def vf36v : List Nat := [0,1,2,3]
def vf36c : VC := .seq (.rg [V 1 (.box (.t 0)),
V 2 (.alloc [.ns,.i 0])]) (.seq (.rg [V 3 (.alloc [.ns,.i 0])]) (.seq (.rg [V 4 (.fad 0 (.t 1)),
V 5 (.ld none (.t 4)),
V 6 (.call 105 [(.t 5)]),
V 7 (.fad 0 (.t 3)),
Vn (.st 1 (.t 7) (.t 6))]) (.seq (.rg [V 8 (.fad 1 (.t 1)),
V 9 (.ld none (.t 8)),
V 10 (.fad 1 (.t 3)),
Vn (.st 1 (.t 10) (.t 9))]) (.seq (.rg [V 11 (.ld (some 2) (.t 3)),
Vn (.st 2 (.t 2) (.t 11))]) (.ret)))))
def vf36 : VF := ⟨vf36c,vf36v,[(2,(some (some 2)))]⟩
theorem ok36 : chkF Tryz.prog Tryz.f36 vf36 = true := by kernel_rfl
theorem dr36 : drawsB vf36.body = true := by kernel_rfl
/-- loop.example/g00192/laws.eqFn -/
def vf37v : List Nat := [0,1,2,3,4,10,15]
def vf37c : VC := .seq (.rg [V 2 (.box (.t 0)),
V 3 (.box (.t 1)),
V 4 (.mv (.k (.c (.b false))))]) (.seq (.seq (.rg [V 5 (.fad 0 (.t 2)),
V 6 (.ld none (.t 5)),
V 7 (.fad 0 (.t 3)),
V 8 (.ld none (.t 7)),
V 9 (.call 106 [(.t 6),(.t 8)]),
V 10 (.not (.t 9))]) (.cond (.t 10) (.seq (.rg [V 4 (.mv (.k (.c (.b false))))]) (.ret)) (.skip))) (.seq (.seq (.rg [V 11 (.fad 1 (.t 2)),
V 12 (.ld none (.t 11)),
V 13 (.fad 1 (.t 3)),
V 14 (.ld none (.t 13)),
V 15 (.bin .ne (.t 12) (.t 14))]) (.cond (.t 15) (.seq (.rg [V 4 (.mv (.k (.c (.b false))))]) (.ret)) (.skip))) (.seq (.rg [V 4 (.mv (.k (.c (.b true))))]) (.ret))))
def vf37 : VF := ⟨vf37c,vf37v,[(4,none)]⟩
theorem ok37 : chkF Tryz.prog Tryz.f37 vf37 = true := by kernel_rfl
theorem dr37 : drawsB vf37.body = true := by kernel_rfl
/-- loop.example/g00192/laws.markFn -/
def vf41v : List Nat := [0,1,2,4]
def vf41c : VC := .seq (.rg [V 2 (.box (.t 0)),
V 4 (.mv (.k (.c (.i 0))))]) (.seq (.rg [V 5 (.fad 0 (.t 2)),
V 6 (.ld none (.t 5)),
V 7 (.mv (.t 1)),
V 8 (.call 109 [(.t 6),(.t 7)]),
V 1 (.mv (.t 8))]) (.seq (.rg [V 9 (.mv (.t 1)),
V 4 (.mv (.t 9))]) (.ret)))
def vf41 : VF := ⟨vf41c,vf41v,[(4,none)]⟩
theorem ok41 : chkF Tryz.prog Tryz.f41 vf41 = true := by kernel_rfl
theorem dr41 : drawsB vf41.body = true := by kernel_rfl
/-- loop.example/g00192/impl.TermUses -/
def vf45v : List Nat := [0,1,2,10]
def vf45c : VC := .seq (.rg [V 1 (.box (.t 0)),
V 2 (.mv (.k (.c .ns)))]) (.seq (.seq (.rg [V 3 (.fad 0 (.t 1)),
V 4 (.ld none (.t 3)),
V 5 (.bin .eq (.t 4) (.k (.c (.i 2)))),
V 6 (.mv (.t 5)),
Vg 7 6 false (.fad 0 (.t 1)),
Vg 8 6 false (.ld none (.t 7)),
Vg 9 6 false (.bin .eq (.t 8) (.k (.c (.i 3)))),
V 10 (.pick (.t 6) (.k (.c (.b true))) (.t 9))]) (.cond (.t 10) (.seq (.rg [V 11 (.fad 1 (.t 1)),
V 12 (.ld none (.t 11)),
V 13 (.bsl 1 [.i 0] 1 [(0,1,(.t 12))]),
V 2 (.mv (.t 13))]) (.ret)) (.skip))) (.seq (.rg [V 2 (.mv (.k (.c .ns)))]) (.ret)))
def vf45 : VF := ⟨vf45c,vf45v,[(2,none)]⟩
theorem ok45 : chkF Tryz.prog Tryz.f45 vf45 = true := by kernel_rfl
theorem dr45 : drawsB vf45.body = true := by kernel_rfl
/-- loop.example/g00192/laws.heldFn -/
def vf48v : List Nat := [0,1,2,4,10]
def vf48c : VC := .seq (.rg [V 2 (.box (.t 0)),
V 4 (.mv (.k (.c (.i 0))))]) (.seq (.rg [V 5 (.fad 0 (.t 2)),
V 6 (.ld none (.t 5)),
V 7 (.mv (.t 1)),
V 8 (.call 113 [(.t 6),(.t 7)]),
V 1 (.mv (.t 8))]) (.seq (.seq (.rg [V 9 (.mv (.t 1)),
V 10 (.bin .lt (.t 9) (.k (.c (.i 0))))]) (.cond (.t 10) (.seq (.rg [V 4 (.mv (.k (.c (.i (-1)))))]) (.ret)) (.skip))) (.seq (.rg [V 11 (.mv (.t 1)),
V 4 (.mv (.t 11))]) (.ret))))
def vf48 : VF := ⟨vf48c,vf48v,[(4,none)]⟩
theorem ok48 : chkF Tryz.prog Tryz.f48 vf48 = true := by kernel_rfl
theorem dr48 : drawsB vf48.body = true := by kernel_rfl
/-- loop.example/g00192/spec.Fold -/
def vf51v : List Nat := [0,1,2,3,4,5,6,7,8,9,10,15,28,43,66,89]
def vf51b0 : VC := .seq (.seq (.rg [V 40 (.mv (.t 9)),
V 41 (.mv (.t 8)),
V 42 (.len (.t 41)),
V 43 (.bin .lt (.t 40) (.t 42))]) (.cond (.t 43) (.skip) (.exit 2))) (.seq (.block 3 (.seq (.rg [V 46 (.mv (.t 8)),
V 47 (.mv (.t 9)),
V 48 (.idx 5 (.t 46) (.t 47)),
V 49 (.ld (some 5) (.t 48)),
V 10 (.alloc [.i 0,.i 0,.i 0,.i 0,.i 0]),
Vn (.st 5 (.t 10) (.t 49))]) (.seq (.seq (.rg [V 50 (.fad 0 (.t 10)),
V 51 (.ld none (.t 50)),
V 52 (.call 116 [(.t 51)]),
V 53 (.mv (.t 52)),
Vg 54 53 true (.mv (.t 4)),
Vg 55 53 true (.fad 2 (.t 10)),
Vg 56 53 true (.ld none (.t 55)),
Vg 57 53 true (.idx 1 (.t 54) (.t 56)),
Vg 58 53 true (.ld none (.t 57)),
V 59 (.pick (.t 53) (.t 58) (.k (.c (.b false)))),
V 60 (.mv (.t 59)),
Vg 61 60 true (.mv (.t 4)),
Vg 62 60 true (.fad 3 (.t 10)),
Vg 63 60 true (.ld none (.t 62)),
Vg 64 60 true (.idx 1 (.t 61) (.t 63)),
Vg 65 60 true (.ld none (.t 64)),
V 66 (.pick (.t 60) (.t 65) (.k (.c (.b false))))]) (.cond (.t 66) (.seq (.rd [V 67 (.fad 1 (.t 10)),
Vc [0] [] true (V 68 (.ld none (.t 67))),
V 69 (.fad 0 (.t 10)),
Vd [2] (V 70 (.ld none (.t 69))),
V 71 (.mv (.t 5)),
V 72 (.fad 2 (.t 10)),
Vd [5] (V 73 (.ld none (.t 72))),
Vd [4,6] (V 74 (.idx 1 (.t 71) (.t 73))),
Vd [7] (V 75 (.ld none (.t 74))),
V 76 (.mv (.t 5)),
V 77 (.fad 3 (.t 10)),
Vd [10] (V 78 (.ld none (.t 77))),
Vd [9,11] (V 79 (.idx 1 (.t 76) (.t 78))),
Vd [12] (V 80 (.ld none (.t 79))),
Vc [3,8,13] [1] false (V 81 (.call 117 [(.t 70),(.t 75),(.t 80)])),
Vd [1,14] (V 82 (.build [.i 0,.i 0,.i 0,.i 0,.i 0] [(0,1,(.k (.c (.i 20)))),(1,1,(.t 68)),(4,1,(.t 81))])),
Vd [15] (Vn (.st 5 (.t 10) (.t 82)))]) (.rg [V 83 (.mv (.t 8)),
V 84 (.mv (.t 9)),
V 85 (.ld (some 5) (.t 10)),
V 86 (.idx 5 (.t 83) (.t 84)),
Vn (.st 5 (.t 86) (.t 85))])) (.skip))) (.seq (.rg [V 87 (.fad 0 (.t 10)),
V 88 (.ld none (.t 87)),
V 89 (.bin .eq (.t 88) (.k (.c (.i 20))))]) (.cond (.t 89) (.seq (.rg [V 90 (.mv (.t 4)),
V 91 (.fad 1 (.t 10)),
V 92 (.ld none (.t 91)),
V 93 (.idx 1 (.t 90) (.t 92)),
Vn (.st 1 (.t 93) (.k (.c (.b true))))]) (.rg [V 94 (.mv (.t 5)),
V 95 (.fad 1 (.t 10)),
V 96 (.ld none (.t 95)),
V 97 (.fad 4 (.t 10)),
V 98 (.ld none (.t 97)),
V 99 (.idx 1 (.t 94) (.t 96)),
Vn (.st 1 (.t 99) (.t 98))])) (.skip)))))) (.rg [V 44 (.mv (.t 9)),
V 45 (.bin .add (.t 44) (.k (.c (.i 1)))),
V 9 (.mv (.t 45))]))
def vf51b1 : VC := .seq (.seq (.rg [V 25 (.mv (.t 7)),
V 26 (.mv (.t 6)),
V 27 (.len (.t 26)),
V 28 (.bin .lt (.t 25) (.t 27))]) (.cond (.t 28) (.skip) (.exit 0))) (.seq (.block 1 (.seq (.rd [V 31 (.fad 0 (.t 3)),
Vd [0] (V 32 (.ld none (.t 31))),
V 33 (.mv (.t 6)),
V 34 (.mv (.t 7)),
Vd [2,3] (V 35 (.idx 1 (.t 33) (.t 34))),
Vd [4] (V 36 (.ld none (.t 35))),
Vd [1,5] (V 37 (.idx 6 (.t 32) (.t 36))),
Vd [6] (V 38 (.fad 1 (.t 37))),
Vd [7] (V 39 (.ld none (.t 38))),
Vd [8] (V 8 (.mv (.t 39)))]) (.seq (.rg [V 9 (.mv (.k (.c (.i 0))))]) (.block 2 (.loop vf51b0))))) (.rg [V 29 (.mv (.t 7)),
V 30 (.bin .add (.t 29) (.k (.c (.i 1)))),
V 7 (.mv (.t 30))]))
def vf51c : VC := .seq (.rg [V 1 (.box (.t 0)),
V 2 (.alloc [.ns,.i 0])]) (.seq (.rg [V 11 (.ld (some 2) (.t 1)),
V 12 (.call 110 [(.t 11)]),
V 3 (.alloc [.ns,.i 0]),
Vn (.st 2 (.t 3) (.t 12))]) (.seq (.seq (.rg [V 13 (.ld (some 2) (.t 1)),
V 14 (.call 29 [(.t 13)]),
V 15 (.bin .ne (.t 14) (.k (.c (.i 0))))]) (.cond (.t 15) (.seq (.rg [V 16 (.ld (some 2) (.t 3)),
Vn (.st 2 (.t 2) (.t 16))]) (.ret)) (.skip))) (.seq (.rg [V 17 (.fad 1 (.t 1)),
V 18 (.ld none (.t 17)),
V 19 (.mks 1 [.b false] (.t 18)),
V 4 (.mv (.t 19))]) (.seq (.rg [V 20 (.fad 1 (.t 1)),
V 21 (.ld none (.t 20)),
V 22 (.mks 1 [.i 0] (.t 21)),
V 5 (.mv (.t 22))]) (.seq (.rg [V 23 (.ld (some 2) (.t 1)),
V 24 (.call 94 [(.t 23)]),
V 6 (.mv (.t 24))]) (.seq (.seq (.rg [V 7 (.mv (.k (.c (.i 0))))]) (.block 0 (.loop vf51b1))) (.seq (.rg [V 100 (.ld (some 2) (.t 3)),
Vn (.st 2 (.t 2) (.t 100))]) (.ret))))))))
def vf51 : VF := ⟨vf51c,vf51v,[(2,(some (some 2)))]⟩
theorem ok51 : chkF Tryz.prog Tryz.f51 vf51 = true := by kernel_rfl
theorem dr51 : drawsB vf51.body = true := by kernel_rfl
/-- loop.example/g00192/impl.Fold -/
def vf52v : List Nat := [0,1,2,3,4,5,7,8,9,14,23,24,25,26,34,35,36,37,57,85]
def vf52b0 : VC := .seq (.rg [V 37 (.bin .lt (.t 36) (.t 35))]) (.seq (.cond (.t 37) (.skip) (.exit 2)) (.seq (.block 3 (.seq (.rg [V 38 (.mv (.t 36)),
V 39 (.idx 5 (.t 34) (.t 36)),
V 40 (.ld (some 5) (.t 39)),
V 9 (.alloc [.i 0,.i 0,.i 0,.i 0,.i 0]),
V 8 (.mv (.t 38)),
Vn (.st 5 (.t 9) (.t 40))]) (.seq (.seq (.rg [V 41 (.fad 0 (.t 9)),
V 42 (.ld none (.t 41)),
V 43 (.call 118 [(.t 42)]),
V 44 (.mv (.t 43)),
Vg 45 44 true (.mv (.t 4)),
Vg 46 44 true (.fad 2 (.t 9)),
Vg 47 44 true (.ld none (.t 46)),
Vg 48 44 true (.idx 1 (.t 45) (.t 47)),
Vg 49 44 true (.ld none (.t 48)),
V 50 (.pick (.t 44) (.t 49) (.k (.c (.b false)))),
V 51 (.mv (.t 50)),
Vg 52 51 true (.mv (.t 4)),
Vg 53 51 true (.fad 3 (.t 9)),
Vg 54 51 true (.ld none (.t 53)),
Vg 55 51 true (.idx 1 (.t 52) (.t 54)),
Vg 56 51 true (.ld none (.t 55)),
V 57 (.pick (.t 51) (.t 56) (.k (.c (.b false))))]) (.cond (.t 57) (.seq (.rd [V 58 (.fad 1 (.t 9)),
Vc [0] [] true (V 59 (.ld none (.t 58))),
V 60 (.fad 0 (.t 9)),
Vd [2] (V 61 (.ld none (.t 60))),
V 62 (.mv (.t 5)),
V 63 (.fad 2 (.t 9)),
Vd [5] (V 64 (.ld none (.t 63))),
Vd [4,6] (V 65 (.idx 1 (.t 62) (.t 64))),
Vd [7] (V 66 (.ld none (.t 65))),
V 67 (.mv (.t 5)),
V 68 (.fad 3 (.t 9)),
Vd [10] (V 69 (.ld none (.t 68))),
Vd [9,11] (V 70 (.idx 1 (.t 67) (.t 69))),
Vd [12] (V 71 (.ld none (.t 70))),
Vc [3,8,13] [1] false (V 72 (.call 119 [(.t 61),(.t 66),(.t 71)])),
Vd [1,14] (V 73 (.build [.i 0,.i 0,.i 0,.i 0,.i 0] [(0,1,(.k (.c (.i 20)))),(1,1,(.t 59)),(4,1,(.t 72))])),
Vd [15] (Vn (.st 5 (.t 9) (.t 73)))]) (.rd [V 74 (.fad 0 (.t 3)),
Vd [0] (V 75 (.ld none (.t 74))),
V 76 (.mv (.t 7)),
Vd [1,2] (V 77 (.idx 6 (.t 75) (.t 76))),
Vd [3] (V 78 (.fad 1 (.t 77))),
Vd [4] (V 79 (.ld none (.t 78))),
V 80 (.mv (.t 8)),
V 81 (.ld (some 5) (.t 9)),
Vd [5,6,7] (V 82 (.idx 5 (.t 79) (.t 80))),
Vd [8] (Vn (.st 5 (.t 82) (.t 81)))])) (.skip))) (.seq (.rg [V 83 (.fad 0 (.t 9)),
V 84 (.ld none (.t 83)),
V 85 (.bin .eq (.t 84) (.k (.c (.i 20))))]) (.cond (.t 85) (.seq (.rg [V 86 (.mv (.t 4)),
V 87 (.fad 1 (.t 9)),
V 88 (.ld none (.t 87)),
V 89 (.idx 1 (.t 86) (.t 88)),
Vn (.st 1 (.t 89) (.k (.c (.b true))))]) (.rg [V 90 (.mv (.t 5)),
V 91 (.fad 1 (.t 9)),
V 92 (.ld none (.t 91)),
V 93 (.fad 4 (.t 9)),
V 94 (.ld none (.t 93)),
V 95 (.idx 1 (.t 90) (.t 92)),
Vn (.st 1 (.t 95) (.t 94))])) (.skip)))))) (.rg [V 96 (.bin .add (.t 36) (.k (.c (.i 1)))),
V 36 (.mv (.t 96))])))
def vf52b1 : VC := .seq (.rg [V 26 (.bin .lt (.t 25) (.t 24))]) (.seq (.cond (.t 26) (.skip) (.exit 0)) (.seq (.block 1 (.seq (.rg [V 27 (.idx 1 (.t 23) (.t 25)),
V 28 (.ld none (.t 27)),
V 7 (.mv (.t 28))]) (.seq (.rg [V 29 (.fad 0 (.t 3)),
V 30 (.ld none (.t 29)),
V 31 (.mv (.t 7)),
V 32 (.idx 6 (.t 30) (.t 31)),
V 33 (.fad 1 (.t 32)),
V 34 (.ld none (.t 33)),
V 35 (.len (.t 34)),
V 36 (.mv (.k (.c (.i 0))))]) (.block 2 (.loop vf52b0))))) (.rg [V 97 (.bin .add (.t 25) (.k (.c (.i 1)))),
V 25 (.mv (.t 97))])))
def vf52c : VC := .seq (.rg [V 1 (.box (.t 0)),
V 2 (.alloc [.ns,.i 0])]) (.seq (.rg [V 10 (.ld (some 2) (.t 1)),
V 11 (.call 112 [(.t 10)]),
V 3 (.alloc [.ns,.i 0]),
Vn (.st 2 (.t 3) (.t 11))]) (.seq (.seq (.rg [V 12 (.ld (some 2) (.t 1)),
V 13 (.call 26 [(.t 12)]),
V 14 (.bin .ne (.t 13) (.k (.c (.i 0))))]) (.cond (.t 14) (.seq (.rg [V 15 (.ld (some 2) (.t 3)),
Vn (.st 2 (.t 2) (.t 15))]) (.ret)) (.skip))) (.seq (.rg [V 16 (.fad 1 (.t 1)),
V 17 (.ld none (.t 16)),
V 18 (.mks 1 [.b false] (.t 17)),
V 4 (.mv (.t 18))]) (.seq (.rg [V 19 (.fad 1 (.t 1)),
V 20 (.ld none (.t 19)),
V 21 (.mks 1 [.i 0] (.t 20)),
V 5 (.mv (.t 21))]) (.seq (.seq (.rg [V 22 (.ld (some 2) (.t 1)),
V 23 (.call 22 [(.t 22)]),
V 24 (.len (.t 23)),
V 25 (.mv (.k (.c (.i 0))))]) (.block 0 (.loop vf52b1))) (.seq (.rg [V 98 (.ld (some 2) (.t 3)),
Vn (.st 2 (.t 2) (.t 98))]) (.ret)))))))
def vf52 : VF := ⟨vf52c,vf52v,[(2,(some (some 2)))]⟩
theorem ok52 : chkF Tryz.prog Tryz.f52 vf52 = true := by kernel_rfl
theorem dr52 : drawsB vf52.body = true := by kernel_rfl
end Go.Proofs.YtgdfgnppeekfjaaGreat.Vm
