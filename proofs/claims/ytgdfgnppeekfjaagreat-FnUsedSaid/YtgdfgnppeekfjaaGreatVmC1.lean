/- The ideal machine's code for some of the program's functions, each checked against the translated one. No conditions. -/
import Derived.Test.YtgdfgnppeekfjaaGreatChecked
import Derived.Test.YtgdfgnppeekfjaaGreatVmQ
import Derived.Test.YtgdfgnppeekfjaaGreatVmC
namespace Go.Proofs.YtgdfgnppeekfjaaGreat.Vm
set_option linter.unusedVariables false
set_option maxRecDepth 100000
/-- loop.example/g00192/impl.Doms -/
def vf23v : List Nat := [0,1,2,4,5,6,7,8,9,12,24,25,26,31,32,33,34,51]
def vf23b0 : VC := .seq (.rg [V 34 (.bin .lt (.t 33) (.t 32))]) (.seq (.cond (.t 34) (.skip) (.exit 2)) (.seq (.block 3 (.seq (.rg [V 35 (.mv (.t 33)),
V 36 (.idx 1 (.t 31) (.t 33)),
V 37 (.ld none (.t 36)),
V 8 (.mv (.t 35)),
V 9 (.mv (.t 37))]) (.seq (.rg [V 38 (.mv (.t 9)),
V 39 (.mv (.t 38)),
Vg 40 39 true (.mv (.t 7)),
Vg 41 39 true (.mv (.t 8)),
Vg 42 39 true (.idx 1 (.t 40) (.t 41)),
Vg 43 39 true (.ld none (.t 42)),
Vg 44 39 true (.not (.t 43)),
V 45 (.pick (.t 39) (.t 44) (.k (.c (.b false)))),
V 46 (.mv (.t 45)),
Vg 47 46 true (.mv (.t 4)),
Vg 48 46 true (.mv (.t 6)),
Vg 49 46 true (.idx 1 (.t 47) (.t 48)),
Vg 50 46 true (.ld none (.t 49)),
V 51 (.pick (.t 46) (.t 50) (.k (.c (.b false))))]) (.cond (.t 51) (.rg [V 52 (.mv (.t 5)),
V 53 (.mv (.t 8)),
V 54 (.mv (.t 5)),
V 55 (.mv (.t 8)),
V 56 (.idx 1 (.t 54) (.t 55)),
V 57 (.ld none (.t 56)),
V 58 (.mv (.t 6)),
V 59 (.bsl 1 [.i 0] 1 [(0,1,(.t 58))]),
V 60 (.app 1 (.t 57) (.t 59)),
V 61 (.idx 1 (.t 52) (.t 53)),
Vn (.st 1 (.t 61) (.t 60))]) (.skip))))) (.rg [V 62 (.bin .add (.t 33) (.k (.c (.i 1)))),
V 33 (.mv (.t 62))])))
def vf23b1 : VC := .seq (.rg [V 26 (.bin .lt (.t 25) (.t 24))]) (.seq (.cond (.t 26) (.skip) (.exit 0)) (.seq (.block 1 (.seq (.rg [V 27 (.mv (.t 25)),
V 6 (.mv (.t 27))]) (.seq (.rg [V 28 (.ld (some 2) (.t 1)),
V 29 (.mv (.t 6)),
V 30 (.call 82 [(.t 28),(.t 29)]),
V 7 (.mv (.t 30))]) (.seq (.rg [V 31 (.mv (.t 4)),
V 32 (.len (.t 31)),
V 33 (.mv (.k (.c (.i 0))))]) (.block 2 (.loop vf23b0)))))) (.rg [V 63 (.bin .add (.t 25) (.k (.c (.i 1)))),
V 25 (.mv (.t 63))])))
def vf23c : VC := .seq (.rg [V 1 (.box (.t 0)),
V 2 (.mv (.k (.c .ns)))]) (.seq (.seq (.rg [V 10 (.ld (some 2) (.t 1)),
V 11 (.call 19 [(.t 10)]),
V 12 (.not (.t 11))]) (.cond (.t 12) (.seq (.rg [V 2 (.mv (.k (.c .ns)))]) (.ret)) (.skip))) (.seq (.rg [V 14 (.ld (some 2) (.t 1)),
V 15 (.call 81 [(.t 14)]),
V 13 (.mv (.t 15)),
V 16 (.ext 0 (.t 13)),
V 17 (.ext 1 (.t 13)),
V 3 (.mv (.t 16)),
V 4 (.mv (.t 17))]) (.seq (.rg [V 18 (.fad 0 (.t 1)),
V 19 (.ld none (.t 18)),
V 20 (.len (.t 19)),
V 21 (.mks 1 [.ns] (.t 20)),
V 5 (.mv (.t 21))]) (.seq (.seq (.rg [V 22 (.fad 0 (.t 1)),
V 23 (.ld none (.t 22)),
V 24 (.len (.t 23)),
V 25 (.mv (.k (.c (.i 0))))]) (.block 0 (.loop vf23b1))) (.seq (.rg [V 64 (.mv (.t 5)),
V 2 (.mv (.t 64))]) (.ret))))))
def vf23 : VF := ⟨vf23c,vf23v,[(2,none)]⟩
theorem ok23 : chkF Tryz.prog Tryz.f23 vf23 = true := by kernel_rfl
theorem dr23 : drawsB vf23.body = true := by kernel_rfl
/-- loop.example/g00192/impl.Check -/
def vf26v : List Nat := [0,1,2,4,11,17,20,34,37,41]
def vf26c : VC := .seq (.rg [V 1 (.box (.t 0)),
V 2 (.mv (.k (.c (.i 0))))]) (.seq (.seq (.rg [V 5 (.ld (some 2) (.t 1)),
V 6 (.call 19 [(.t 5)]),
V 7 (.not (.t 6)),
V 8 (.mv (.t 7)),
Vg 9 8 false (.ld (some 2) (.t 1)),
Vg 10 8 false (.call 85 [(.t 9)]),
V 11 (.pick (.t 8) (.k (.c (.b true))) (.t 10))]) (.cond (.t 11) (.seq (.rg [V 2 (.mv (.k (.c (.i 1))))]) (.ret)) (.skip))) (.seq (.rg [V 13 (.ld (some 2) (.t 1)),
V 14 (.call 81 [(.t 13)]),
V 12 (.mv (.t 14)),
V 15 (.ext 0 (.t 12)),
V 16 (.ext 1 (.t 12)),
V 3 (.mv (.t 15)),
V 4 (.mv (.t 16))]) (.seq (.block 0 (.seq (.rg [V 18 (.mv (.t 4)),
V 19 (.call 86 [(.t 18),(.k (.c (.b false)))]),
V 17 (.mv (.t 19))]) (.cond (.t 17) (.seq (.rg [V 2 (.mv (.k (.c (.i 2))))]) (.ret)) (.seq (.rg [V 21 (.fad 0 (.t 1)),
V 22 (.ld none (.t 21)),
V 23 (.idx 6 (.t 22) (.k (.c (.i 0)))),
V 24 (.fad 0 (.t 23)),
V 25 (.ld none (.t 24)),
V 26 (.len (.t 25)),
V 27 (.bin .gt (.t 26) (.k (.c (.i 0)))),
V 28 (.mv (.t 27)),
Vg 29 28 false (.ld (some 2) (.t 1)),
Vg 30 28 false (.call 84 [(.t 29),(.k (.c (.i 0)))]),
Vg 31 28 false (.len (.t 30)),
Vg 32 28 false (.bin .gt (.t 31) (.k (.c (.i 0)))),
V 33 (.pick (.t 28) (.k (.c (.b true))) (.t 32)),
V 20 (.mv (.t 33))]) (.cond (.t 20) (.seq (.rg [V 2 (.mv (.k (.c (.i 3))))]) (.ret)) (.seq (.rg [V 35 (.ld (some 2) (.t 1)),
V 36 (.call 87 [(.t 35)]),
V 34 (.mv (.t 36))]) (.cond (.t 34) (.seq (.rg [V 2 (.mv (.k (.c (.i 4))))]) (.ret)) (.seq (.rg [V 38 (.ld (some 2) (.t 1)),
V 39 (.call 89 [(.t 38)]),
V 40 (.call 88 [(.t 39),(.k (.f 90 []))]),
V 37 (.mv (.t 40))]) (.cond (.t 37) (.seq (.rg [V 2 (.mv (.k (.c (.i 5))))]) (.ret)) (.seq (.rg [V 42 (.ld (some 2) (.t 1)),
V 43 (.call 91 [(.t 42)]),
V 41 (.mv (.t 43))]) (.cond (.t 41) (.seq (.rg [V 2 (.mv (.k (.c (.i 6))))]) (.ret)) (.skip)))))))))))) (.seq (.rg [V 2 (.mv (.k (.c (.i 0))))]) (.ret)))))
def vf26 : VF := ⟨vf26c,vf26v,[(2,none)]⟩
theorem ok26 : chkF Tryz.prog Tryz.f26 vf26 = true := by kernel_rfl
theorem dr26 : drawsB vf26.body = true := by kernel_rfl
/-- loop.example/g00192/spec.Check -/
def vf29v : List Nat := [0,1,2,3,4,11,18,31,34,40,47,50]
def vf29b0 : VC := .seq (.seq (.rg [V 37 (.mv (.t 4)),
V 38 (.mv (.t 3)),
V 39 (.len (.t 38)),
V 40 (.bin .lt (.t 37) (.t 39))]) (.cond (.t 40) (.skip) (.exit 0))) (.seq (.block 1 (.seq (.rg [V 43 (.mv (.t 3)),
V 44 (.mv (.t 4)),
V 45 (.idx 1 (.t 43) (.t 44)),
V 46 (.ld none (.t 45)),
V 47 (.bin .gt (.t 46) (.k (.c (.i 1))))]) (.cond (.t 47) (.seq (.rg [V 2 (.mv (.k (.c (.i 5))))]) (.ret)) (.skip)))) (.rg [V 41 (.mv (.t 4)),
V 42 (.bin .add (.t 41) (.k (.c (.i 1)))),
V 4 (.mv (.t 42))]))
def vf29c : VC := .seq (.rg [V 1 (.box (.t 0)),
V 2 (.mv (.k (.c (.i 0))))]) (.seq (.seq (.rg [V 5 (.ld (some 2) (.t 1)),
V 6 (.call 20 [(.t 5)]),
V 7 (.not (.t 6)),
V 8 (.mv (.t 7)),
Vg 9 8 false (.ld (some 2) (.t 1)),
Vg 10 8 false (.call 93 [(.t 9)]),
V 11 (.pick (.t 8) (.k (.c (.b true))) (.t 10))]) (.cond (.t 11) (.seq (.rg [V 2 (.mv (.k (.c (.i 1))))]) (.ret)) (.skip))) (.seq (.seq (.rd [V 12 (.ld (some 2) (.t 1)),
Vc [0] [] true (V 13 (.call 94 [(.t 12)])),
Vd [1] (V 14 (.len (.t 13))),
V 15 (.fad 0 (.t 1)),
Vc [3] [1] false (V 16 (.ld none (.t 15))),
Vd [4] (V 17 (.len (.t 16))),
Vd [2,5] (V 18 (.bin .ne (.t 14) (.t 17)))]) (.cond (.t 18) (.seq (.rg [V 2 (.mv (.k (.c (.i 2))))]) (.ret)) (.skip))) (.seq (.seq (.rg [V 19 (.fad 0 (.t 1)),
V 20 (.ld none (.t 19)),
V 21 (.idx 6 (.t 20) (.k (.c (.i 0)))),
V 22 (.fad 0 (.t 21)),
V 23 (.ld none (.t 22)),
V 24 (.len (.t 23)),
V 25 (.bin .gt (.t 24) (.k (.c (.i 0)))),
V 26 (.mv (.t 25)),
Vg 27 26 false (.ld (some 2) (.t 1)),
Vg 28 26 false (.call 95 [(.t 27),(.k (.c (.i 0)))]),
Vg 29 26 false (.len (.t 28)),
Vg 30 26 false (.bin .gt (.t 29) (.k (.c (.i 0)))),
V 31 (.pick (.t 26) (.k (.c (.b true))) (.t 30))]) (.cond (.t 31) (.seq (.rg [V 2 (.mv (.k (.c (.i 3))))]) (.ret)) (.skip))) (.seq (.seq (.rg [V 32 (.ld (some 2) (.t 1)),
V 33 (.call 96 [(.t 32)]),
V 34 (.not (.t 33))]) (.cond (.t 34) (.seq (.rg [V 2 (.mv (.k (.c (.i 4))))]) (.ret)) (.skip))) (.seq (.rg [V 35 (.ld (some 2) (.t 1)),
V 36 (.call 97 [(.t 35)]),
V 3 (.mv (.t 36))]) (.seq (.seq (.rg [V 4 (.mv (.k (.c (.i 0))))]) (.block 0 (.loop vf29b0))) (.seq (.seq (.rg [V 48 (.ld (some 2) (.t 1)),
V 49 (.call 98 [(.t 48)]),
V 50 (.not (.t 49))]) (.cond (.t 50) (.seq (.rg [V 2 (.mv (.k (.c (.i 6))))]) (.ret)) (.skip))) (.seq (.rg [V 2 (.mv (.k (.c (.i 0))))]) (.ret)))))))))
def vf29 : VF := ⟨vf29c,vf29v,[(2,none)]⟩
theorem ok29 : chkF Tryz.prog Tryz.f29 vf29 = true := by kernel_rfl
theorem dr29 : drawsB vf29.body = true := by kernel_rfl
/-- loop.example/g00192/impl.InsUses -/
def vf30v : List Nat := [0,1,2,3,7,15]
def vf30c : VC := .seq (.rg [V 1 (.box (.t 0)),
V 2 (.mv (.k (.c .ns)))]) (.seq (.rg [V 4 (.bsl 1 [.i 0] 0 []),
V 3 (.mv (.t 4))]) (.seq (.seq (.rg [V 5 (.fad 0 (.t 1)),
V 6 (.ld none (.t 5)),
V 7 (.call 99 [(.t 6),(.k (.c (.y 65)))])]) (.cond (.t 7) (.rg [V 8 (.mv (.t 3)),
V 9 (.fad 2 (.t 1)),
V 10 (.ld none (.t 9)),
V 11 (.bsl 1 [.i 0] 1 [(0,1,(.t 10))]),
V 12 (.app 1 (.t 8) (.t 11)),
V 3 (.mv (.t 12))]) (.skip))) (.seq (.seq (.rg [V 13 (.fad 0 (.t 1)),
V 14 (.ld none (.t 13)),
V 15 (.call 99 [(.t 14),(.k (.c (.y 66)))])]) (.cond (.t 15) (.rg [V 16 (.mv (.t 3)),
V 17 (.fad 3 (.t 1)),
V 18 (.ld none (.t 17)),
V 19 (.bsl 1 [.i 0] 1 [(0,1,(.t 18))]),
V 20 (.app 1 (.t 16) (.t 19)),
V 3 (.mv (.t 20))]) (.skip))) (.seq (.rg [V 21 (.mv (.t 3)),
V 2 (.mv (.t 21))]) (.ret)))))
def vf30 : VF := ⟨vf30c,vf30v,[(2,none)]⟩
theorem ok30 : chkF Tryz.prog Tryz.f30 vf30 = true := by kernel_rfl
theorem dr30 : drawsB vf30.body = true := by kernel_rfl
/-- loop.example/g00192/impl.DefAt -/
def vf31v : List Nat := [0,1,2,3,4,5,6,7,8,11,13,14,15,16,23,30]
def vf31b0 : VC := .seq (.rg [V 16 (.bin .lt (.t 15) (.t 14))]) (.seq (.cond (.t 16) (.skip) (.exit 0)) (.seq (.block 1 (.seq (.rg [V 17 (.mv (.t 15)),
V 18 (.idx 6 (.t 13) (.t 15)),
V 19 (.ld (some 6) (.t 18)),
V 7 (.alloc [.ns,.ns,.i 0,.i 0,.i 0,.i 0]),
V 6 (.mv (.t 17)),
Vn (.st 6 (.t 7) (.t 19))]) (.seq (.seq (.rg [V 20 (.fad 0 (.t 7)),
V 21 (.ld none (.t 20)),
V 22 (.mkf 100 [(.t 3)]),
V 23 (.call 70 [(.t 21),(.t 22)])]) (.cond (.t 23) (.seq (.rg [V 24 (.mv (.t 6)),
V 4 (.mv (.t 24)),
V 5 (.mv (.k (.c (.i (-1)))))]) (.ret)) (.skip))) (.seq (.rg [V 25 (.fad 1 (.t 7)),
V 26 (.ld none (.t 25)),
V 27 (.mkf 102 [(.t 3)]),
V 28 (.call 101 [(.t 26),(.t 27)]),
V 8 (.mv (.t 28))]) (.seq (.rg [V 29 (.mv (.t 8)),
V 30 (.bin .ge (.t 29) (.k (.c (.i 0))))]) (.cond (.t 30) (.seq (.rg [V 31 (.mv (.t 6)),
V 32 (.mv (.t 8)),
V 4 (.mv (.t 31)),
V 5 (.mv (.t 32))]) (.ret)) (.skip))))))) (.rg [V 33 (.bin .add (.t 15) (.k (.c (.i 1)))),
V 15 (.mv (.t 33))])))
def vf31c : VC := .seq (.rg [V 2 (.box (.t 0)),
V 3 (.box (.t 1)),
V 4 (.mv (.k (.c (.i 0)))),
V 5 (.mv (.k (.c (.i 0))))]) (.seq (.seq (.rg [V 9 (.ld (some 2) (.t 2)),
V 10 (.call 19 [(.t 9)]),
V 11 (.not (.t 10))]) (.cond (.t 11) (.seq (.rg [V 4 (.mv (.k (.c (.i (-1))))),
V 5 (.mv (.k (.c (.i (-2)))))]) (.ret)) (.skip))) (.seq (.seq (.rg [V 12 (.fad 0 (.t 2)),
V 13 (.ld none (.t 12)),
V 14 (.len (.t 13)),
V 15 (.mv (.k (.c (.i 0))))]) (.block 0 (.loop vf31b0))) (.seq (.rg [V 4 (.mv (.k (.c (.i (-1))))),
V 5 (.mv (.k (.c (.i (-2)))))]) (.ret))))
def vf31 : VF := ⟨vf31c,vf31v,[(4,none),(5,none)]⟩
theorem ok31 : chkF Tryz.prog Tryz.f31 vf31 = true := by kernel_rfl
theorem dr31 : drawsB vf31.body = true := by kernel_rfl
/-- loop.example/g00192/impl.InsDef -/
def vf33v : List Nat := [0,1,2,5]
def vf33c : VC := .seq (.rg [V 1 (.box (.t 0)),
V 2 (.mv (.k (.c (.i 0))))]) (.seq (.seq (.rg [V 3 (.fad 0 (.t 1)),
V 4 (.ld none (.t 3)),
V 5 (.call 99 [(.t 4),(.k (.c (.y 68)))])]) (.cond (.t 5) (.seq (.rg [V 6 (.fad 1 (.t 1)),
V 7 (.ld none (.t 6)),
V 2 (.mv (.t 7))]) (.ret)) (.skip))) (.seq (.rg [V 2 (.mv (.k (.c (.i (-1)))))]) (.ret)))
def vf33 : VF := ⟨vf33c,vf33v,[(2,none)]⟩
theorem ok33 : chkF Tryz.prog Tryz.f33 vf33 = true := by kernel_rfl
theorem dr33 : drawsB vf33.body = true := by kernel_rfl
/-- loop.example/g00192/laws.szFn -/
def vf35v : List Nat := [0,1,2,4,10]
def vf35c : VC := .seq (.rg [V 2 (.box (.t 0)),
V 4 (.mv (.k (.c (.i 0))))]) (.seq (.rg [V 5 (.fad 0 (.t 2)),
V 6 (.ld none (.t 5)),
V 7 (.mv (.t 1)),
V 8 (.call 104 [(.t 6),(.t 7)]),
V 1 (.mv (.t 8))]) (.seq (.seq (.rg [V 9 (.mv (.t 1)),
V 10 (.bin .lt (.t 9) (.k (.c (.i 0))))]) (.cond (.t 10) (.seq (.rg [V 4 (.mv (.k (.c (.i (-1)))))]) (.ret)) (.skip))) (.seq (.rg [V 11 (.mv (.t 1)),
V 4 (.mv (.t 11))]) (.ret))))
def vf35 : VF := ⟨vf35c,vf35v,[(4,none)]⟩
theorem ok35 : chkF Tryz.prog Tryz.f35 vf35 = true := by kernel_rfl
theorem dr35 : drawsB vf35.body = true := by kernel_rfl
/-- loop.example/g00192/laws.toFn -/
def vf36v : List Nat := [0,1,2,3]
def vf36c : VC := .seq (.rg [V 1 (.box (.t 0)),
V 2 (.alloc [.ns,.i 0])]) (.seq (.rg [V 3 (.alloc [.ns,.i 0])]) (.seq (.rg [V 4 (.fad 0 (.t 1)),
V 5 (.ld none (.t 4)),
V 6 (.call 105 [(.t 5)]),
V 7 (.fad 0 (.t 3)),
Vn (.st 1 (.t 7) (.t 6))]) (.seq (.rg [V 8 (.fad 1 (.t 1)),
V 9 (.ld none (.t 8)),
V 10 (.fad 1 (.t 3)),
Vn (.st 1 (.t 10) (.t 9))]) (.seq (.rg [V 11 (.ld (some 2) (.t 3)),
Vn (.st 2 (.t 2) (.t 11))]) (.ret)))))
def vf36 : VF := ⟨vf36c,vf36v,[(2,(some (some 2)))]⟩
theorem ok36 : chkF Tryz.prog Tryz.f36 vf36 = true := by kernel_rfl
theorem dr36 : drawsB vf36.body = true := by kernel_rfl
/-- loop.example/g00192/laws.eqFn -/
def vf37v : List Nat := [0,1,2,3,4,10,15]
def vf37c : VC := .seq (.rg [V 2 (.box (.t 0)),
V 3 (.box (.t 1)),
V 4 (.mv (.k (.c (.b false))))]) (.seq (.seq (.rg [V 5 (.fad 0 (.t 2)),
V 6 (.ld none (.t 5)),
V 7 (.fad 0 (.t 3)),
V 8 (.ld none (.t 7)),
V 9 (.call 106 [(.t 6),(.t 8)]),
V 10 (.not (.t 9))]) (.cond (.t 10) (.seq (.rg [V 4 (.mv (.k (.c (.b false))))]) (.ret)) (.skip))) (.seq (.seq (.rg [V 11 (.fad 1 (.t 2)),
V 12 (.ld none (.t 11)),
V 13 (.fad 1 (.t 3)),
V 14 (.ld none (.t 13)),
V 15 (.bin .ne (.t 12) (.t 14))]) (.cond (.t 15) (.seq (.rg [V 4 (.mv (.k (.c (.b false))))]) (.ret)) (.skip))) (.seq (.rg [V 4 (.mv (.k (.c (.b true))))]) (.ret))))
def vf37 : VF := ⟨vf37c,vf37v,[(4,none)]⟩
theorem ok37 : chkF Tryz.prog Tryz.f37 vf37 = true := by kernel_rfl
theorem dr37 : drawsB vf37.body = true := by kernel_rfl
/-- loop.example/g00192/spec.Used -/
def vf38v : List Nat := [0,1,2,5]
def vf38c : VC := .seq (.rg [V 1 (.box (.t 0)),
V 2 (.mv (.k (.c .ns)))]) (.seq (.seq (.rg [V 3 (.ld (some 2) (.t 1)),
V 4 (.call 29 [(.t 3)]),
V 5 (.bin .ne (.t 4) (.k (.c (.i 0))))]) (.cond (.t 5) (.seq (.rg [V 6 (.bsl 1 [.b false] 0 []),
V 2 (.mv (.t 6))]) (.ret)) (.skip))) (.seq (.rg [V 7 (.ld (some 2) (.t 1)),
V 8 (.call 107 [(.t 7)]),
V 2 (.mv (.t 8))]) (.ret)))
def vf38 : VF := ⟨vf38c,vf38v,[(2,none)]⟩
theorem ok38 : chkF Tryz.prog Tryz.f38 vf38 = true := by kernel_rfl
theorem dr38 : drawsB vf38.body = true := by kernel_rfl
/-- loop.example/g00192/impl.Used -/
def vf39v : List Nat := [0,1,2,3,4,6,9,13,15,16,17,18,23]
def vf39b0 : VC := .seq (.rg [V 18 (.bin .lt (.t 17) (.t 16))]) (.seq (.cond (.t 18) (.skip) (.exit 2)) (.seq (.block 3 (.seq (.rg [V 19 (.idx 6 (.t 15) (.t 17)),
V 20 (.ld (some 6) (.t 19)),
V 6 (.alloc [.ns,.ns,.i 0,.i 0,.i 0,.i 0]),
Vn (.st 6 (.t 6) (.t 20))]) (.seq (.rg [V 21 (.mv (.t 3)),
V 22 (.ld (some 6) (.t 6)),
V 23 (.call 108 [(.t 21),(.t 22)])]) (.cond (.t 23) (.rg [V 4 (.mv (.k (.c (.b true))))]) (.skip))))) (.rg [V 24 (.bin .add (.t 17) (.k (.c (.i 1)))),
V 17 (.mv (.t 24))])))
def vf39b1 : VC := .seq (.seq (.rg [V 13 (.mv (.t 4))]) (.cond (.t 13) (.skip) (.exit 0))) (.block 1 (.seq (.rg [V 4 (.mv (.k (.c (.b false))))]) (.seq (.rg [V 14 (.fad 0 (.t 1)),
V 15 (.ld none (.t 14)),
V 16 (.len (.t 15)),
V 17 (.mv (.k (.c (.i 0))))]) (.block 2 (.loop vf39b0)))))
def vf39c : VC := .seq (.rg [V 1 (.box (.t 0)),
V 2 (.mv (.k (.c .ns)))]) (.seq (.seq (.rg [V 7 (.ld (some 2) (.t 1)),
V 8 (.call 26 [(.t 7)]),
V 9 (.bin .ne (.t 8) (.k (.c (.i 0))))]) (.cond (.t 9) (.seq (.rg [V 2 (.mv (.k (.c .ns)))]) (.ret)) (.skip))) (.seq (.rg [V 10 (.fad 1 (.t 1)),
V 11 (.ld none (.t 10)),
V 12 (.mks 1 [.b false] (.t 11)),
V 3 (.mv (.t 12))]) (.seq (.seq (.rg [V 4 (.mv (.k (.c (.b true))))]) (.block 0 (.loop vf39b1))) (.seq (.rg [V 25 (.mv (.t 3)),
V 2 (.mv (.t 25))]) (.ret)))))
def vf39 : VF := ⟨vf39c,vf39v,[(2,none)]⟩
theorem ok39 : chkF Tryz.prog Tryz.f39 vf39 = true := by kernel_rfl
theorem dr39 : drawsB vf39.body = true := by kernel_rfl
/-- loop.example/g00192/laws.eqBoolS -/
def vf40v : List Nat := [0,1,4,5,10,14,25]
def vf40b0 : VC := .seq (.seq (.rg [V 11 (.mv (.t 5)),
V 12 (.mv (.t 0)),
V 13 (.len (.t 12)),
V 14 (.bin .lt (.t 11) (.t 13))]) (.cond (.t 14) (.skip) (.exit 0))) (.seq (.block 1 (.seq (.rd [V 17 (.mv (.t 0)),
V 18 (.mv (.t 5)),
Vd [0,1] (V 19 (.idx 1 (.t 17) (.t 18))),
Vd [2] (V 20 (.ld none (.t 19))),
V 21 (.mv (.t 1)),
V 22 (.mv (.t 5)),
Vd [4,5] (V 23 (.idx 1 (.t 21) (.t 22))),
Vd [6] (V 24 (.ld none (.t 23))),
Vd [3,7] (V 25 (.eqb true (.t 20) (.t 24)))]) (.cond (.t 25) (.seq (.rg [V 4 (.mv (.k (.c (.b false))))]) (.ret)) (.skip)))) (.rg [V 15 (.mv (.t 5)),
V 16 (.bin .add (.t 15) (.k (.c (.i 1)))),
V 5 (.mv (.t 16))]))
def vf40c : VC := .seq (.rg [V 4 (.mv (.k (.c (.b false))))]) (.seq (.seq (.rg [V 6 (.mv (.t 0)),
V 7 (.len (.t 6)),
V 8 (.mv (.t 1)),
V 9 (.len (.t 8)),
V 10 (.bin .ne (.t 7) (.t 9))]) (.cond (.t 10) (.seq (.rg [V 4 (.mv (.k (.c (.b false))))]) (.ret)) (.skip))) (.seq (.seq (.rg [V 5 (.mv (.k (.c (.i 0))))]) (.block 0 (.loop vf40b0))) (.seq (.rg [V 4 (.mv (.k (.c (.b true))))]) (.ret))))
def vf40 : VF := ⟨vf40c,vf40v,[(4,none)]⟩
theorem ok40 : chkF Tryz.prog Tryz.f40 vf40 = true := by kernel_rfl
theorem dr40 : drawsB vf40.body = true := by kernel_rfl
/-- loop.example/g00192/laws.markFn -/
def vf41v : List Nat := [0,1,2,4]
def vf41c : VC := .seq (.rg [V 2 (.box (.t 0)),
V 4 (.mv (.k (.c (.i 0))))]) (.seq (.rg [V 5 (.fad 0 (.t 2)),
V 6 (.ld none (.t 5)),
V 7 (.mv (.t 1)),
V 8 (.call 109 [(.t 6),(.t 7)]),
V 1 (.mv (.t 8))]) (.seq (.rg [V 9 (.mv (.t 1)),
V 4 (.mv (.t 9))]) (.ret)))
def vf41 : VF := ⟨vf41c,vf41v,[(4,none)]⟩
theorem ok41 : chkF Tryz.prog Tryz.f41 vf41 = true := by kernel_rfl
theorem dr41 : drawsB vf41.body = true := by kernel_rfl
/-- loop.example/g00192/laws.markBoolS -/
def vf42v : List Nat := [0,1,4,5,9]
def vf42b0 : VC := .seq (.seq (.rg [V 6 (.mv (.t 5)),
V 7 (.mv (.t 0)),
V 8 (.len (.t 7)),
V 9 (.bin .lt (.t 6) (.t 8))]) (.cond (.t 9) (.skip) (.exit 0))) (.seq (.block 1 (.seq (.rg [V 12 (.mv (.t 0)),
V 13 (.mv (.t 5)),
V 14 (.mv (.t 1)),
V 15 (.bin .rem (.t 14) (.k (.c (.i 3)))),
V 16 (.bin .eq (.t 15) (.k (.c (.i 0)))),
V 17 (.idx 1 (.t 12) (.t 13)),
Vn (.st 1 (.t 17) (.t 16))]) (.rg [V 18 (.mv (.t 1)),
V 19 (.bin .add (.t 18) (.k (.c (.i 1)))),
V 1 (.mv (.t 19))]))) (.rg [V 10 (.mv (.t 5)),
V 11 (.bin .add (.t 10) (.k (.c (.i 1)))),
V 5 (.mv (.t 11))]))
def vf42c : VC := .seq (.rg [V 4 (.mv (.k (.c (.i 0))))]) (.seq (.seq (.rg [V 5 (.mv (.k (.c (.i 0))))]) (.block 0 (.loop vf42b0))) (.seq (.rg [V 20 (.mv (.t 1)),
V 4 (.mv (.t 20))]) (.ret)))
def vf42 : VF := ⟨vf42c,vf42v,[(4,none)]⟩
theorem ok42 : chkF Tryz.prog Tryz.f42 vf42 = true := by kernel_rfl
theorem dr42 : drawsB vf42.body = true := by kernel_rfl
/-- loop.example/g00192/laws.heldBoolS -/
def vf43v : List Nat := [0,1,4,5,9,19]
def vf43b0 : VC := .seq (.seq (.rg [V 6 (.mv (.t 5)),
V 7 (.mv (.t 0)),
V 8 (.len (.t 7)),
V 9 (.bin .lt (.t 6) (.t 8))]) (.cond (.t 9) (.skip) (.exit 0))) (.seq (.block 1 (.seq (.seq (.rg [V 12 (.mv (.t 0)),
V 13 (.mv (.t 5)),
V 14 (.idx 1 (.t 12) (.t 13)),
V 15 (.ld none (.t 14)),
V 16 (.mv (.t 1)),
V 17 (.bin .rem (.t 16) (.k (.c (.i 3)))),
V 18 (.bin .eq (.t 17) (.k (.c (.i 0)))),
V 19 (.eqb true (.t 15) (.t 18))]) (.cond (.t 19) (.seq (.rg [V 4 (.mv (.k (.c (.i (-1)))))]) (.ret)) (.skip))) (.rg [V 20 (.mv (.t 1)),
V 21 (.bin .add (.t 20) (.k (.c (.i 1)))),
V 1 (.mv (.t 21))]))) (.rg [V 10 (.mv (.t 5)),
V 11 (.bin .add (.t 10) (.k (.c (.i 1)))),
V 5 (.mv (.t 11))]))
def vf43c : VC := .seq (.rg [V 4 (.mv (.k (.c (.i 0))))]) (.seq (.seq (.rg [V 5 (.mv (.k (.c (.i 0))))]) (.block 0 (.loop vf43b0))) (.seq (.rg [V 22 (.mv (.t 1)),
V 4 (.mv (.t 22))]) (.ret)))
def vf43 : VF := ⟨vf43c,vf43v,[(4,none)]⟩
theorem ok43 : chkF Tryz.prog Tryz.f43 vf43 = true := by kernel_rfl
theorem dr43 : drawsB vf43.body = true := by kernel_rfl
/-- loop.example/g00192/spec.DrawUsed -/
def vf44v : List Nat := [0,2]
def vf44c : VC := .seq (.rg [V 2 (.alloc [.ns,.i 0])]) (.seq (.rg [V 3 (.mv (.t 0)),
V 4 (.call 65 [(.t 3)]),
V 5 (.call 64 [(.t 4)]),
Vn (.st 2 (.t 2) (.t 5))]) (.ret))
def vf44 : VF := ⟨vf44c,vf44v,[(2,(some (some 2)))]⟩
theorem ok44 : chkF Tryz.prog Tryz.f44 vf44 = true := by kernel_rfl
theorem dr44 : drawsB vf44.body = true := by kernel_rfl
/-- loop.example/g00192/impl.TermUses -/
def vf45v : List Nat := [0,1,2,10]
def vf45c : VC := .seq (.rg [V 1 (.box (.t 0)),
V 2 (.mv (.k (.c .ns)))]) (.seq (.seq (.rg [V 3 (.fad 0 (.t 1)),
V 4 (.ld none (.t 3)),
V 5 (.bin .eq (.t 4) (.k (.c (.i 2)))),
V 6 (.mv (.t 5)),
Vg 7 6 false (.fad 0 (.t 1)),
Vg 8 6 false (.ld none (.t 7)),
Vg 9 6 false (.bin .eq (.t 8) (.k (.c (.i 3)))),
V 10 (.pick (.t 6) (.k (.c (.b true))) (.t 9))]) (.cond (.t 10) (.seq (.rg [V 11 (.fad 1 (.t 1)),
V 12 (.ld none (.t 11)),
V 13 (.bsl 1 [.i 0] 1 [(0,1,(.t 12))]),
V 2 (.mv (.t 13))]) (.ret)) (.skip))) (.seq (.rg [V 2 (.mv (.k (.c .ns)))]) (.ret)))
def vf45 : VF := ⟨vf45c,vf45v,[(2,none)]⟩
theorem ok45 : chkF Tryz.prog Tryz.f45 vf45 = true := by kernel_rfl
theorem dr45 : drawsB vf45.body = true := by kernel_rfl
end Go.Proofs.YtgdfgnppeekfjaaGreat.Vm
