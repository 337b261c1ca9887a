/- The ideal machine's code for some of the program's functions, each checked against the translated one. No conditions. -/
import Derived.Test.YtnapgdlfeadhaaaChecked
import Derived.Test.YtnapgdlfeadhaaaVmQ
import Derived.Test.YtnapgdlfeadhaaaVmC
namespace Go.Proofs.Ytnapgdlfeadhaaa.Vm
set_option linter.unusedVariables false
set_option maxRecDepth 100000
/-- loop.example/g00192/impl.Run -/
def vf37v : List Nat := [0,1,2,3,6,7,8,9,10]
def vf37c : VC := .seq (.rg [V 3 (.box (.t 0)),
V 6 (.mv (.k (.c .ns))),
V 7 (.mv (.k (.c (.i 0)))),
V 8 (.mv (.k (.c (.i 0))))]) (.seq (.rg [V 12 (.ld (some 2) (.t 3)),
V 13 (.mv (.t 1)),
V 14 (.mv (.t 2)),
V 15 (.call 79 [(.t 12),(.t 13),(.t 14)]),
V 11 (.mv (.t 15)),
V 16 (.ext 0 (.t 11)),
V 17 (.ext 1 (.t 11)),
V 9 (.mv (.t 16)),
V 10 (.mv (.t 17))]) (.seq (.rd [V 18 (.mv (.t 9)),
Vd [0] (V 19 (.nilc (.t 18))),
Vd [1] (V 20 (.fad 6 (.t 19))),
Vd [2] (V 21 (.ld none (.t 20))),
V 22 (.mv (.t 10)),
V 23 (.mv (.t 9)),
Vd [5] (V 24 (.nilc (.t 23))),
Vd [6] (V 25 (.fad 8 (.t 24))),
Vd [7] (V 26 (.ld none (.t 25))),
Vd [3] (V 6 (.mv (.t 21))),
Vd [4,9] (V 7 (.mv (.t 22))),
Vd [8,10] (V 8 (.mv (.t 26)))]) (.ret)))
def vf37 : VF := ⟨vf37c,vf37v,[(6,none),(7,none),(8,none)]⟩
theorem ok37 : chkF Try.prog Try.f37 vf37 = true := by kernel_rfl
theorem dr37 : drawsB vf37.body = true := by kernel_rfl
/-- loop.example/g00192/spec.Run -/
def vf38v : List Nat := [0,1,2,3,6,7,8,9,10,11,18]
def vf38c : VC := .seq (.rg [V 3 (.box (.t 0)),
V 6 (.mv (.k (.c .ns))),
V 7 (.mv (.k (.c (.i 0)))),
V 8 (.mv (.k (.c (.i 0))))]) (.seq (.seq (.rg [V 12 (.ld (some 2) (.t 3)),
V 13 (.call 19 [(.t 12)]),
V 14 (.not (.t 13)),
V 15 (.mv (.t 14)),
Vg 16 15 false (.mv (.t 2)),
Vg 17 15 false (.bin .lt (.t 16) (.k (.c (.i 0)))),
V 18 (.pick (.t 15) (.k (.c (.b true))) (.t 17))]) (.cond (.t 18) (.seq (.rg [V 19 (.bsl 1 [.i 0] 0 []),
V 6 (.mv (.t 19)),
V 7 (.mv (.k (.c (.i 3)))),
V 8 (.mv (.k (.c (.i 0))))]) (.ret)) (.skip))) (.seq (.rg [V 20 (.fad 1 (.t 3)),
V 21 (.ld none (.t 20)),
V 22 (.mv (.t 1)),
V 23 (.mv (.t 2)),
V 24 (.call 80 [(.t 21),(.t 22),(.t 23)]),
V 9 (.mv (.t 24))]) (.seq (.rg [V 26 (.mv (.t 9)),
V 27 (.ld (some 2) (.t 3)),
V 28 (.call 81 [(.t 26),(.t 27)]),
V 25 (.mv (.t 28)),
V 29 (.ext 0 (.t 25)),
V 30 (.ext 1 (.t 25)),
V 10 (.mv (.t 29)),
V 11 (.mv (.t 30))]) (.seq (.rg [V 31 (.mv (.t 9)),
V 32 (.nilc (.t 31)),
V 33 (.fad 3 (.t 32)),
V 34 (.ld none (.t 33)),
V 35 (.mv (.t 10)),
V 36 (.mv (.t 11)),
V 6 (.mv (.t 34)),
V 7 (.mv (.t 35)),
V 8 (.mv (.t 36))]) (.ret)))))
def vf38 : VF := ⟨vf38c,vf38v,[(6,none),(7,none),(8,none)]⟩
theorem ok38 : chkF Try.prog Try.f38 vf38 = true := by kernel_rfl
theorem dr38 : drawsB vf38.body = true := by kernel_rfl
/-- loop.example/g00192/impl.ShapeOk -/
def vf39v : List Nat := [0,1,2,3,15]
def vf39c : VC := .seq (.rg [V 1 (.box (.t 0)),
V 2 (.mv (.k (.c (.b false))))]) (.seq (.rg [V 4 (.fad 0 (.t 1)),
V 5 (.ld none (.t 4)),
V 6 (.len (.t 5)),
V 3 (.alloc [.i 0]),
Vn (.st 1 (.t 3) (.t 6))]) (.seq (.seq (.rg [V 7 (.ld none (.t 3)),
V 8 (.call 72 [(.t 7),(.k (.c (.i 1))),(.k (.c (.i 16)))]),
V 9 (.not (.t 8)),
V 10 (.mv (.t 9)),
Vg 11 10 false (.fad 1 (.t 1)),
Vg 12 10 false (.ld none (.t 11)),
Vg 13 10 false (.call 72 [(.t 12),(.k (.c (.i 0))),(.k (.c (.i 80)))]),
Vg 14 10 false (.not (.t 13)),
V 15 (.pick (.t 10) (.k (.c (.b true))) (.t 14))]) (.cond (.t 15) (.seq (.rg [V 2 (.mv (.k (.c (.b false))))]) (.ret)) (.skip))) (.seq (.rg [V 16 (.fad 0 (.t 1)),
V 17 (.ld none (.t 16)),
V 18 (.mkf 83 [(.t 3),(.t 1)]),
V 19 (.call 82 [(.t 17),(.t 18)]),
V 20 (.not (.t 19)),
V 2 (.mv (.t 20))]) (.ret))))
def vf39 : VF := ⟨vf39c,vf39v,[(2,none)]⟩
theorem ok39 : chkF Try.prog Try.f39 vf39 = true := by kernel_rfl
theorem dr39 : drawsB vf39.body = true := by kernel_rfl
/-- loop.example/g00192/spec.DrawPath -/
def vf40v : List Nat := [0,2,3,4,5,6,7]
def vf40c : VC := .seq (.rg [V 2 (.alloc [.ns,.i 0]),
V 3 (.mv (.k (.c .ns))),
V 4 (.mv (.k (.c (.i 0))))]) (.seq (.rg [V 9 (.mv (.t 0)),
V 10 (.call 78 [(.t 9)]),
V 8 (.mv (.t 10)),
V 11 (.ext 0 (.t 8)),
V 12 (.ext 1 (.t 8)),
V 13 (.ext 2 (.t 8)),
V 5 (.alloc [.ns,.i 0]),
Vn (.st 2 (.t 5) (.t 11)),
V 6 (.mv (.t 12)),
V 7 (.mv (.t 13))]) (.seq (.rg [V 14 (.ld (some 2) (.t 5)),
V 15 (.mv (.t 6)),
V 16 (.mv (.t 7)),
Vn (.st 2 (.t 2) (.t 14)),
V 3 (.mv (.t 15)),
V 4 (.mv (.t 16))]) (.ret)))
def vf40 : VF := ⟨vf40c,vf40v,[(2,(some (some 2))),(3,none),(4,none)]⟩
theorem ok40 : chkF Try.prog Try.f40 vf40 = true := by kernel_rfl
theorem dr40 : drawsB vf40.body = true := by kernel_rfl
/-- loop.example/g00192/impl.Path -/
def vf41v : List Nat := [0,1,2,3,6,7]
def vf41c : VC := .seq (.rg [V 3 (.box (.t 0)),
V 6 (.mv (.k (.c .ns)))]) (.seq (.rg [V 10 (.ld (some 2) (.t 3)),
V 11 (.mv (.t 1)),
V 12 (.mv (.t 2)),
V 13 (.call 79 [(.t 10),(.t 11),(.t 12)]),
V 9 (.mv (.t 13)),
V 14 (.ext 0 (.t 9)),
V 15 (.ext 1 (.t 9)),
V 7 (.mv (.t 14)),
V 8 (.mv (.t 15))]) (.seq (.rg [V 16 (.mv (.t 7)),
V 17 (.nilc (.t 16)),
V 18 (.fad 7 (.t 17)),
V 19 (.ld none (.t 18)),
V 6 (.mv (.t 19))]) (.ret)))
def vf41 : VF := ⟨vf41c,vf41v,[(6,none)]⟩
theorem ok41 : chkF Try.prog Try.f41 vf41 = true := by kernel_rfl
theorem dr41 : drawsB vf41.body = true := by kernel_rfl
/-- loop.example/g00192/spec.Path -/
def vf42v : List Nat := [0,1,2,3,6,7,14]
def vf42c : VC := .seq (.rg [V 3 (.box (.t 0)),
V 6 (.mv (.k (.c .ns)))]) (.seq (.seq (.rg [V 8 (.ld (some 2) (.t 3)),
V 9 (.call 19 [(.t 8)]),
V 10 (.not (.t 9)),
V 11 (.mv (.t 10)),
Vg 12 11 false (.mv (.t 2)),
Vg 13 11 false (.bin .lt (.t 12) (.k (.c (.i 0)))),
V 14 (.pick (.t 11) (.k (.c (.b true))) (.t 13))]) (.cond (.t 14) (.seq (.rg [V 15 (.bsl 1 [.i 0] 0 []),
V 6 (.mv (.t 15))]) (.ret)) (.skip))) (.seq (.rg [V 16 (.fad 1 (.t 3)),
V 17 (.ld none (.t 16)),
V 18 (.mv (.t 1)),
V 19 (.mv (.t 2)),
V 20 (.call 80 [(.t 17),(.t 18),(.t 19)]),
V 7 (.mv (.t 20))]) (.seq (.rg [V 21 (.mv (.t 7)),
V 22 (.ld (some 2) (.t 3)),
V 23 (.call 81 [(.t 21),(.t 22)])]) (.seq (.rg [V 24 (.mv (.t 7)),
V 25 (.nilc (.t 24)),
V 26 (.fad 4 (.t 25)),
V 27 (.ld none (.t 26)),
V 6 (.mv (.t 27))]) (.ret)))))
def vf42 : VF := ⟨vf42c,vf42v,[(6,none)]⟩
theorem ok42 : chkF Try.prog Try.f42 vf42 = true := by kernel_rfl
theorem dr42 : drawsB vf42.body = true := by kernel_rfl
/-- loop.example/g00192/laws.szFn -/
def vf43v : List Nat := [0,1,2,4,10]
def vf43c : VC := .seq (.rg [V 2 (.box (.t 0)),
V 4 (.mv (.k (.c (.i 0))))]) (.seq (.rg [V 5 (.fad 0 (.t 2)),
V 6 (.ld none (.t 5)),
V 7 (.mv (.t 1)),
V 8 (.call 91 [(.t 6),(.t 7)]),
V 1 (.mv (.t 8))]) (.seq (.seq (.rg [V 9 (.mv (.t 1)),
V 10 (.bin .lt (.t 9) (.k (.c (.i 0))))]) (.cond (.t 10) (.seq (.rg [V 4 (.mv (.k (.c (.i (-1)))))]) (.ret)) (.skip))) (.seq (.rg [V 11 (.mv (.t 1)),
V 4 (.mv (.t 11))]) (.ret))))
def vf43 : VF := ⟨vf43c,vf43v,[(4,none)]⟩
theorem ok43 : chkF Try.prog Try.f43 vf43 = true := by kernel_rfl
theorem dr43 : drawsB vf43.body = true := by kernel_rfl
/-- loop.example/g00192/laws.toFn -/
def vf44v : List Nat := [0,1,2,3]
def vf44c : VC := .seq (.rg [V 1 (.box (.t 0)),
V 2 (.alloc [.ns,.i 0])]) (.seq (.rg [V 3 (.alloc [.ns,.i 0])]) (.seq (.rg [V 4 (.fad 0 (.t 1)),
V 5 (.ld none (.t 4)),
V 6 (.call 92 [(.t 5)]),
V 7 (.fad 0 (.t 3)),
Vn (.st 1 (.t 7) (.t 6))]) (.seq (.rg [V 8 (.fad 1 (.t 1)),
V 9 (.ld none (.t 8)),
V 10 (.fad 1 (.t 3)),
Vn (.st 1 (.t 10) (.t 9))]) (.seq (.rg [V 11 (.ld (some 2) (.t 3)),
Vn (.st 2 (.t 2) (.t 11))]) (.ret)))))
def vf44 : VF := ⟨vf44c,vf44v,[(2,(some (some 2)))]⟩
theorem ok44 : chkF Try.prog Try.f44 vf44 = true := by kernel_rfl
theorem dr44 : drawsB vf44.body = true := by kernel_rfl
/-- loop.example/g00192/laws.toIntS -/
def vf45v : List Nat := [0,2,3,4,11]
def vf45b0 : VC := .seq (.seq (.rg [V 8 (.mv (.t 4)),
V 9 (.mv (.t 0)),
V 10 (.len (.t 9)),
V 11 (.bin .lt (.t 8) (.t 10))]) (.cond (.t 11) (.skip) (.exit 0))) (.seq (.block 1 (.rg [V 14 (.mv (.t 3)),
V 15 (.mv (.t 4)),
V 16 (.mv (.t 0)),
V 17 (.mv (.t 4)),
V 18 (.idx 1 (.t 16) (.t 17)),
V 19 (.ld none (.t 18)),
V 20 (.idx 1 (.t 14) (.t 15)),
Vn (.st 1 (.t 20) (.t 19))])) (.rg [V 12 (.mv (.t 4)),
V 13 (.bin .add (.t 12) (.k (.c (.i 1)))),
V 4 (.mv (.t 13))]))
def vf45c : VC := .seq (.rg [V 2 (.mv (.k (.c .ns)))]) (.seq (.rg [V 5 (.mv (.t 0)),
V 6 (.len (.t 5)),
V 7 (.mks 1 [.i 0] (.t 6)),
V 3 (.mv (.t 7))]) (.seq (.seq (.rg [V 4 (.mv (.k (.c (.i 0))))]) (.block 0 (.loop vf45b0))) (.seq (.rg [V 21 (.mv (.t 3)),
V 2 (.mv (.t 21))]) (.ret))))
def vf45 : VF := ⟨vf45c,vf45v,[(2,none)]⟩
theorem ok45 : chkF Try.prog Try.f45 vf45 = true := by kernel_rfl
theorem dr45 : drawsB vf45.body = true := by kernel_rfl
/-- loop.example/g00192/laws.eqIntS -/
def vf46v : List Nat := [0,1,4,5,10,14,25]
def vf46b0 : VC := .seq (.seq (.rg [V 11 (.mv (.t 5)),
V 12 (.mv (.t 0)),
V 13 (.len (.t 12)),
V 14 (.bin .lt (.t 11) (.t 13))]) (.cond (.t 14) (.skip) (.exit 0))) (.seq (.block 1 (.seq (.rd [V 17 (.mv (.t 0)),
V 18 (.mv (.t 5)),
Vd [0,1] (V 19 (.idx 1 (.t 17) (.t 18))),
Vd [2] (V 20 (.ld none (.t 19))),
V 21 (.mv (.t 1)),
V 22 (.mv (.t 5)),
Vd [4,5] (V 23 (.idx 1 (.t 21) (.t 22))),
Vd [6] (V 24 (.ld none (.t 23))),
Vd [3,7] (V 25 (.bin .ne (.t 20) (.t 24)))]) (.cond (.t 25) (.seq (.rg [V 4 (.mv (.k (.c (.b false))))]) (.ret)) (.skip)))) (.rg [V 15 (.mv (.t 5)),
V 16 (.bin .add (.t 15) (.k (.c (.i 1)))),
V 5 (.mv (.t 16))]))
def vf46c : VC := .seq (.rg [V 4 (.mv (.k (.c (.b false))))]) (.seq (.seq (.rg [V 6 (.mv (.t 0)),
V 7 (.len (.t 6)),
V 8 (.mv (.t 1)),
V 9 (.len (.t 8)),
V 10 (.bin .ne (.t 7) (.t 9))]) (.cond (.t 10) (.seq (.rg [V 4 (.mv (.k (.c (.b false))))]) (.ret)) (.skip))) (.seq (.seq (.rg [V 5 (.mv (.k (.c (.i 0))))]) (.block 0 (.loop vf46b0))) (.seq (.rg [V 4 (.mv (.k (.c (.b true))))]) (.ret))))
def vf46 : VF := ⟨vf46c,vf46v,[(4,none)]⟩
theorem ok46 : chkF Try.prog Try.f46 vf46 = true := by kernel_rfl
theorem dr46 : drawsB vf46.body = true := by kernel_rfl
/-- loop.example/g00192/laws.eqFn -/
def vf47v : List Nat := [0,1,2,3,4,10,15]
def vf47c : VC := .seq (.rg [V 2 (.box (.t 0)),
V 3 (.box (.t 1)),
V 4 (.mv (.k (.c (.b false))))]) (.seq (.seq (.rg [V 5 (.fad 0 (.t 2)),
V 6 (.ld none (.t 5)),
V 7 (.fad 0 (.t 3)),
V 8 (.ld none (.t 7)),
V 9 (.call 93 [(.t 6),(.t 8)]),
V 10 (.not (.t 9))]) (.cond (.t 10) (.seq (.rg [V 4 (.mv (.k (.c (.b false))))]) (.ret)) (.skip))) (.seq (.seq (.rg [V 11 (.fad 1 (.t 2)),
V 12 (.ld none (.t 11)),
V 13 (.fad 1 (.t 3)),
V 14 (.ld none (.t 13)),
V 15 (.bin .ne (.t 12) (.t 14))]) (.cond (.t 15) (.seq (.rg [V 4 (.mv (.k (.c (.b false))))]) (.ret)) (.skip))) (.seq (.rg [V 4 (.mv (.k (.c (.b true))))]) (.ret))))
def vf47 : VF := ⟨vf47c,vf47v,[(4,none)]⟩
theorem ok47 : chkF Try.prog Try.f47 vf47 = true := by kernel_rfl
theorem dr47 : drawsB vf47.body = true := by kernel_rfl
/-- loop.example/g00192/laws.markFn -/
def vf48v : List Nat := [0,1,2,4]
def vf48c : VC := .seq (.rg [V 2 (.box (.t 0)),
V 4 (.mv (.k (.c (.i 0))))]) (.seq (.rg [V 5 (.fad 0 (.t 2)),
V 6 (.ld none (.t 5)),
V 7 (.mv (.t 1)),
V 8 (.call 94 [(.t 6),(.t 7)]),
V 1 (.mv (.t 8))]) (.seq (.rg [V 9 (.mv (.t 1)),
V 4 (.mv (.t 9))]) (.ret)))
def vf48 : VF := ⟨vf48c,vf48v,[(4,none)]⟩
theorem ok48 : chkF Try.prog Try.f48 vf48 = true := by kernel_rfl
theorem dr48 : drawsB vf48.body = true := by kernel_rfl
/-- loop.example/g00192/laws.markIntS -/
def vf49v : List Nat := [0,1,4,5,9]
def vf49b0 : VC := .seq (.seq (.rg [V 6 (.mv (.t 5)),
V 7 (.mv (.t 0)),
V 8 (.len (.t 7)),
V 9 (.bin .lt (.t 6) (.t 8))]) (.cond (.t 9) (.skip) (.exit 0))) (.seq (.block 1 (.seq (.rg [V 12 (.mv (.t 0)),
V 13 (.mv (.t 5)),
V 14 (.mv (.t 1)),
V 15 (.idx 1 (.t 12) (.t 13)),
Vn (.st 1 (.t 15) (.t 14))]) (.rg [V 16 (.mv (.t 1)),
V 17 (.bin .add (.t 16) (.k (.c (.i 1)))),
V 1 (.mv (.t 17))]))) (.rg [V 10 (.mv (.t 5)),
V 11 (.bin .add (.t 10) (.k (.c (.i 1)))),
V 5 (.mv (.t 11))]))
def vf49c : VC := .seq (.rg [V 4 (.mv (.k (.c (.i 0))))]) (.seq (.seq (.rg [V 5 (.mv (.k (.c (.i 0))))]) (.block 0 (.loop vf49b0))) (.seq (.rg [V 18 (.mv (.t 1)),
V 4 (.mv (.t 18))]) (.ret)))
def vf49 : VF := ⟨vf49c,vf49v,[(4,none)]⟩
theorem ok49 : chkF Try.prog Try.f49 vf49 = true := by kernel_rfl
theorem dr49 : drawsB vf49.body = true := by kernel_rfl
/-- loop.example/g00192/laws.heldIntS -/
def vf50v : List Nat := [0,1,4,5,9,17]
def vf50b0 : VC := .seq (.seq (.rg [V 6 (.mv (.t 5)),
V 7 (.mv (.t 0)),
V 8 (.len (.t 7)),
V 9 (.bin .lt (.t 6) (.t 8))]) (.cond (.t 9) (.skip) (.exit 0))) (.seq (.block 1 (.seq (.seq (.rg [V 12 (.mv (.t 0)),
V 13 (.mv (.t 5)),
V 14 (.idx 1 (.t 12) (.t 13)),
V 15 (.ld none (.t 14)),
V 16 (.mv (.t 1)),
V 17 (.bin .ne (.t 15) (.t 16))]) (.cond (.t 17) (.seq (.rg [V 4 (.mv (.k (.c (.i (-1)))))]) (.ret)) (.skip))) (.rg [V 18 (.mv (.t 1)),
V 19 (.bin .add (.t 18) (.k (.c (.i 1)))),
V 1 (.mv (.t 19))]))) (.rg [V 10 (.mv (.t 5)),
V 11 (.bin .add (.t 10) (.k (.c (.i 1)))),
V 5 (.mv (.t 11))]))
def vf50c : VC := .seq (.rg [V 4 (.mv (.k (.c (.i 0))))]) (.seq (.seq (.rg [V 5 (.mv (.k (.c (.i 0))))]) (.block 0 (.loop vf50b0))) (.seq (.rg [V 20 (.mv (.t 1)),
V 4 (.mv (.t 20))]) (.ret)))
def vf50 : VF := ⟨vf50c,vf50v,[(4,none)]⟩
theorem ok50 : chkF Try.prog Try.f50 vf50 = true := by kernel_rfl
theorem dr50 : drawsB vf50.body = true := by kernel_rfl
/-- loop.example/g00192/spec.l2Draw -/
def vf51v : List Nat := [0,2,3,4,5,21,22,31,42,64,67,84,87,105,108,123,132,151]
def vf51r0 : List VO := [V 109 (.fad 0 (.t 3)),Vd [0] (V 110 (.ld none (.t 109))),V 111 (.mv (.t 4)),Vd [1,2] (V 112 (.idx 6 (.t 110) (.t 111))),Vd [3] (V 113 (.fad 1 (.t 112))),Vd [4] (V 114 (.ld none (.t 113))),V 115 (.mv (.t 0)),V 116 (.mv (.t 5)),Vd [6,7] (V 117 (.call 67 [(.t 115),(.t 116)])),V 118 (.mv (.t 0)),V 119 (.bsl 1 [.i 0] 10 [(0,1,(.k (.c (.i 0)))),(1,1,(.k (.c (.i 1)))),(2,1,(.k (.c (.i 11)))),(3,1,(.k (.c (.i 20)))),(4,1,(.k (.c (.i 21)))),(5,1,(.k (.c (.i 22)))),(6,1,(.k (.c (.i 23)))),(7,1,(.k (.c (.i 24)))),(8,1,(.k (.c (.i 25)))),(9,1,(.k (.c (.i 26))))]),Vd [8,9,10] (V 120 (.call 96 [(.t 118),(.t 119)])),Vd [5,11] (V 121 (.idx 5 (.t 114) (.t 117))),Vd [12] (V 122 (.fad 0 (.t 121))),Vd [13] (Vn (.st 1 (.t 122) (.t 120)))]
def vf51t0 : VT := .split 8 10 (.leaf [(0,Vc [] [] false (V 109 (.fad 0 (.t 3)))),
(1,Vc [0] [] true (V 110 (.ld none (.t 109)))),
(2,Vc [] [] false (V 111 (.mv (.t 4)))),
(3,Vc [1,2] [] false (V 112 (.idx 6 (.t 110) (.t 111)))),
(4,Vc [3] [] false (V 113 (.fad 1 (.t 112)))),
(5,Vc [4] [] true (V 114 (.ld none (.t 113)))),
(6,Vc [] [] false (V 115 (.mv (.t 0)))),
(7,Vc [] [] false (V 116 (.mv (.t 5)))),
(8,Vc [6,7] [1,5] false (V 117 (.call 67 [(.t 115),(.t 116)]))),
(9,Vc [] [] false (V 118 (.mv (.t 0)))),
(10,Vc [] [1,5] false (V 119 (.bsl 1 [.i 0] 10 [(0,1,(.k (.c (.i 0)))),(1,1,(.k (.c (.i 1)))),(2,1,(.k (.c (.i 11)))),(3,1,(.k (.c (.i 20)))),(4,1,(.k (.c (.i 21)))),(5,1,(.k (.c (.i 22)))),(6,1,(.k (.c (.i 23)))),(7,1,(.k (.c (.i 24)))),(8,1,(.k (.c (.i 25)))),(9,1,(.k (.c (.i 26))))]))),
(11,Vc [8,9,10] [1,5] false (V 120 (.call 96 [(.t 118),(.t 119)]))),
(12,Vc [5,11] [] false (V 121 (.idx 5 (.t 114) (.t 117)))),
(13,Vc [12] [] false (V 122 (.fad 0 (.t 121)))),
(14,Vc [13] [] false (Vn (.st 1 (.t 122) (.t 120))))]) (.leaf [(0,Vc [] [] false (V 109 (.fad 0 (.t 3)))),
(1,Vc [0] [] true (V 110 (.ld none (.t 109)))),
(2,Vc [] [] false (V 111 (.mv (.t 4)))),
(3,Vc [1,2] [] false (V 112 (.idx 6 (.t 110) (.t 111)))),
(4,Vc [3] [] false (V 113 (.fad 1 (.t 112)))),
(5,Vc [4] [] true (V 114 (.ld none (.t 113)))),
(6,Vc [] [] false (V 115 (.mv (.t 0)))),
(7,Vc [] [] false (V 116 (.mv (.t 5)))),
(9,Vc [] [] false (V 118 (.mv (.t 0)))),
(10,Vc [] [1,5] false (V 119 (.bsl 1 [.i 0] 10 [(0,1,(.k (.c (.i 0)))),(1,1,(.k (.c (.i 1)))),(2,1,(.k (.c (.i 11)))),(3,1,(.k (.c (.i 20)))),(4,1,(.k (.c (.i 21)))),(5,1,(.k (.c (.i 22)))),(6,1,(.k (.c (.i 23)))),(7,1,(.k (.c (.i 24)))),(8,1,(.k (.c (.i 25)))),(9,1,(.k (.c (.i 26))))]))),
(8,Vc [6,7] [1,5] false (V 117 (.call 67 [(.t 115),(.t 116)]))),
(11,Vc [8,9,10] [1,5] false (V 120 (.call 96 [(.t 118),(.t 119)]))),
(12,Vc [5,11] [] false (V 121 (.idx 5 (.t 114) (.t 117)))),
(13,Vc [12] [] false (V 122 (.fad 0 (.t 121)))),
(14,Vc [13] [] false (Vn (.st 1 (.t 122) (.t 120))))])
def vf51c : VC := .seq (.rg [V 2 (.alloc [.ns,.i 0])]) (.seq (.rg [V 6 (.mv (.t 0)),
V 7 (.call 95 [(.t 6)]),
V 3 (.alloc [.ns,.i 0]),
Vn (.st 2 (.t 3) (.t 7))]) (.seq (.rg [V 8 (.mv (.t 0)),
V 9 (.fad 0 (.t 3)),
V 10 (.ld none (.t 9)),
V 11 (.len (.t 10)),
V 12 (.call 67 [(.t 8),(.t 11)]),
V 4 (.mv (.t 12))]) (.seq (.rg [V 13 (.fad 0 (.t 3)),
V 14 (.ld none (.t 13)),
V 15 (.mv (.t 4)),
V 16 (.idx 6 (.t 14) (.t 15)),
V 17 (.fad 1 (.t 16)),
V 18 (.ld none (.t 17)),
V 19 (.len (.t 18)),
V 5 (.mv (.t 19))]) (.seq (.seq (.rg [V 20 (.mv (.t 0)),
V 21 (.call 67 [(.t 20),(.k (.c (.i 16)))])]) (.block 0 (.seq (.rg [V 23 (.bin .eq (.t 21) (.k (.c (.i 0)))),
V 22 (.mv (.t 23))]) (.cond (.t 22) (.rg [V 24 (.mv (.t 0)),
V 25 (.fad 1 (.t 3)),
V 26 (.ld none (.t 25)),
V 27 (.bin .sub (.t 26) (.k (.c (.i 1)))),
V 28 (.bsl 1 [.i 0] 5 [(0,1,(.k (.c (.i (-1))))),(1,1,(.k (.c (.i 0)))),(2,1,(.t 27)),(3,1,(.k (.c (.i 80)))),(4,1,(.k (.c (.i 81))))]),
V 29 (.call 96 [(.t 24),(.t 28)]),
V 30 (.fad 1 (.t 3)),
Vn (.st 1 (.t 30) (.t 29))]) (.seq (.rg [V 32 (.bin .eq (.t 21) (.k (.c (.i 1)))),
V 31 (.mv (.t 32))]) (.cond (.t 31) (.rd [V 33 (.fad 0 (.t 3)),
Vc [0] [] true (V 34 (.ld none (.t 33))),
V 35 (.mv (.t 4)),
V 36 (.mv (.t 0)),
Vc [3] [1] false (V 37 (.call 67 [(.t 36),(.k (.c (.i 18)))])),
Vd [4] (V 38 (.bin .sub (.t 37) (.k (.c (.i 1))))),
Vd [1,2,5] (V 39 (.idx 6 (.t 34) (.t 35))),
Vd [6] (V 40 (.fad 2 (.t 39))),
Vd [7] (V 41 (.fad 2 (.t 40))),
Vd [8] (Vn (.st 1 (.t 41) (.t 38)))]) (.seq (.rg [V 43 (.bin .eq (.t 21) (.k (.c (.i 2)))),
V 42 (.mv (.t 43))]) (.cond (.t 42) (.rd [V 44 (.fad 0 (.t 3)),
Vc [0] [] true (V 45 (.ld none (.t 44))),
V 46 (.mv (.t 4)),
V 47 (.mv (.t 0)),
Vc [3] [1] true (V 48 (.call 67 [(.t 47),(.k (.c (.i 5)))])),
V 49 (.mv (.t 0)),
Vc [4,5] [1] true (V 50 (.call 67 [(.t 49),(.k (.c (.i 5)))])),
V 51 (.mv (.t 0)),
V 52 (.fad 0 (.t 3)),
Vc [8] [4,6] false (V 53 (.ld none (.t 52))),
Vd [9] (V 54 (.len (.t 53))),
Vc [6,7,10] [1] true (V 55 (.call 67 [(.t 51),(.t 54)])),
V 56 (.mv (.t 0)),
V 57 (.fad 0 (.t 3)),
Vc [13] [4,6,11] false (V 58 (.ld none (.t 57))),
Vd [14] (V 59 (.len (.t 58))),
Vc [11,12,15] [1] false (V 60 (.call 67 [(.t 56),(.t 59)])),
Vd [16] (V 61 (.build [.i 0,.i 0,.i 0,.i 0] [(0,1,(.t 48)),(1,1,(.t 50)),(2,1,(.t 55)),(3,1,(.t 60))])),
Vd [1,2,17] (V 62 (.idx 6 (.t 45) (.t 46))),
Vd [18] (V 63 (.fad 2 (.t 62))),
Vd [19] (Vn (.st 4 (.t 63) (.t 61)))]) (.seq (.rg [V 65 (.bin .eq (.t 21) (.k (.c (.i 3)))),
V 64 (.mv (.t 65))]) (.cond (.t 64) (.seq (.rg [V 66 (.mv (.t 5)),
V 67 (.bin .gt (.t 66) (.k (.c (.i 0))))]) (.cond (.t 67) (.rd [V 68 (.fad 0 (.t 3)),
Vc [0] [] true (V 69 (.ld none (.t 68))),
V 70 (.mv (.t 4)),
Vd [1,2] (V 71 (.idx 6 (.t 69) (.t 70))),
Vd [3] (V 72 (.fad 1 (.t 71))),
Vc [4] [] true (V 73 (.ld none (.t 72))),
V 74 (.mv (.t 0)),
V 75 (.mv (.t 5)),
Vc [6,7] [1,5] true (V 76 (.call 67 [(.t 74),(.t 75)])),
V 77 (.mv (.t 0)),
V 78 (.fad 1 (.t 3)),
Vc [10] [8] false (V 79 (.ld none (.t 78))),
Vd [11] (V 80 (.bin .add (.t 79) (.k (.c (.i 1))))),
Vc [8,9,12] [1,5] false (V 81 (.call 67 [(.t 77),(.t 80)])),
Vd [5,13] (V 82 (.idx 5 (.t 73) (.t 76))),
Vd [14] (V 83 (.fad 2 (.t 82))),
Vd [15] (Vn (.st 1 (.t 83) (.t 81)))]) (.skip))) (.seq (.rg [V 85 (.bin .eq (.t 21) (.k (.c (.i 4)))),
V 84 (.mv (.t 85))]) (.cond (.t 84) (.seq (.rg [V 86 (.mv (.t 5)),
V 87 (.bin .gt (.t 86) (.k (.c (.i 0))))]) (.cond (.t 87) (.rd [V 88 (.fad 0 (.t 3)),
Vc [0] [] true (V 89 (.ld none (.t 88))),
V 90 (.mv (.t 4)),
Vd [1,2] (V 91 (.idx 6 (.t 89) (.t 90))),
Vd [3] (V 92 (.fad 1 (.t 91))),
Vc [4] [] true (V 93 (.ld none (.t 92))),
V 94 (.mv (.t 0)),
V 95 (.mv (.t 5)),
Vc [6,7] [1,5] true (V 96 (.call 67 [(.t 94),(.t 95)])),
V 97 (.mv (.t 0)),
V 98 (.fad 1 (.t 3)),
Vc [10] [8] false (V 99 (.ld none (.t 98))),
Vd [11] (V 100 (.bin .add (.t 99) (.k (.c (.i 1))))),
Vc [8,9,12] [1,5] false (V 101 (.call 67 [(.t 97),(.t 100)])),
Vd [13] (V 102 (.bin .sub (.t 101) (.k (.c (.i 1))))),
Vd [5,14] (V 103 (.idx 5 (.t 93) (.t 96))),
Vd [15] (V 104 (.fad 1 (.t 103))),
Vd [16] (Vn (.st 1 (.t 104) (.t 102)))]) (.skip))) (.seq (.rg [V 106 (.bin .eq (.t 21) (.k (.c (.i 5)))),
V 105 (.mv (.t 106))]) (.cond (.t 105) (.seq (.rg [V 107 (.mv (.t 5)),
V 108 (.bin .gt (.t 107) (.k (.c (.i 0))))]) (.cond (.t 108) (.rx vf51r0 vf51t0) (.skip))) (.seq (.rg [V 124 (.bin .eq (.t 21) (.k (.c (.i 6)))),
V 123 (.mv (.t 124))]) (.cond (.t 123) (.seq (.rg [V 125 (.fad 0 (.t 3)),
V 126 (.ld none (.t 125)),
V 127 (.mv (.t 4)),
V 128 (.idx 6 (.t 126) (.t 127)),
V 129 (.fad 0 (.t 128)),
V 130 (.ld none (.t 129)),
V 131 (.len (.t 130)),
V 132 (.bin .gt (.t 131) (.k (.c (.i 0))))]) (.cond (.t 132) (.rd [V 133 (.fad 0 (.t 3)),
Vd [0] (V 134 (.ld none (.t 133))),
V 135 (.mv (.t 4)),
Vd [1,2] (V 136 (.idx 6 (.t 134) (.t 135))),
Vd [3] (V 137 (.fad 0 (.t 136))),
Vd [4] (V 138 (.ld none (.t 137))),
V 139 (.fad 0 (.t 3)),
Vd [6] (V 140 (.ld none (.t 139))),
V 141 (.mv (.t 4)),
Vd [7,8] (V 142 (.idx 6 (.t 140) (.t 141))),
Vd [9] (V 143 (.fad 0 (.t 142))),
Vd [10] (V 144 (.ld none (.t 143))),
Vd [11] (V 145 (.idx 2 (.t 144) (.k (.c (.i 0))))),
Vd [12] (V 146 (.fad 1 (.t 145))),
Vd [13] (V 147 (.ld none (.t 146))),
Vd [14] (V 148 (.slc 2 (.t 147) (some (.k (.c (.i 1)))) none)),
Vd [5,15] (V 149 (.idx 2 (.t 138) (.k (.c (.i 0))))),
Vd [16] (V 150 (.fad 1 (.t 149))),
Vd [17] (Vn (.st 1 (.t 150) (.t 148)))]) (.skip))) (.seq (.rg [V 152 (.bin .eq (.t 21) (.k (.c (.i 7)))),
V 151 (.mv (.t 152))]) (.cond (.t 151) (.rd [V 153 (.fad 0 (.t 3)),
Vc [0] [] true (V 154 (.ld none (.t 153))),
V 155 (.mv (.t 4)),
V 156 (.fad 0 (.t 3)),
Vc [3] [] true (V 157 (.ld none (.t 156))),
V 158 (.mv (.t 4)),
Vd [4,5] (V 159 (.idx 6 (.t 157) (.t 158))),
Vd [6] (V 160 (.fad 0 (.t 159))),
Vc [7] [] true (V 161 (.ld none (.t 160))),
V 162 (.mv (.t 0)),
V 163 (.fad 1 (.t 3)),
Vd [10] (V 164 (.ld none (.t 163))),
Vc [11] [1,4,8] false (V 165 (.call 97 [(.t 164),(.k (.c (.i 1)))])),
Vc [9,12] [1,4,8] false (V 166 (.call 67 [(.t 162),(.t 165)])),
Vd [13] (V 167 (.build [.i 0,.ns] [(0,1,(.t 166))])),
Vc [14] [1,4,8] false (V 168 (.bsl 2 [.i 0,.ns] 1 [(0,2,(.t 167))])),
Vc [8,15] [1] false (V 169 (.app 2 (.t 161) (.t 168))),
Vd [1,2,16] (V 170 (.idx 6 (.t 154) (.t 155))),
Vd [17] (V 171 (.fad 0 (.t 170))),
Vd [18] (Vn (.st 1 (.t 171) (.t 169)))]) (.skip))))))))))))))))))) (.seq (.rg [V 172 (.ld (some 2) (.t 3)),
Vn (.st 2 (.t 2) (.t 172))]) (.ret))))))
def vf51 : VF := ⟨vf51c,vf51v,[(2,(some (some 2)))]⟩
theorem ok51 : chkF Try.prog Try.f51 vf51 = true := by kernel_rfl
theorem dr51 : drawsB vf51.body = true := by kernel_rfl
/-- loop.example/g00192/spec.l1New -/
def vf52v : List Nat := [0,2,3,4,15]
def vf52b0 : VC := .seq (.seq (.rg [V 8 (.mv (.t 4)),
V 9 (.mv (.t 0)),
V 10 (.len (.t 9)),
V 11 (.bin .lt (.t 8) (.t 10)),
V 12 (.mv (.t 11)),
Vg 13 12 true (.mv (.t 4)),
Vg 14 12 true (.bin .lt (.t 13) (.k (.c (.i 4000)))),
V 15 (.pick (.t 12) (.t 14) (.k (.c (.b false))))]) (.cond (.t 15) (.skip) (.exit 0))) (.seq (.block 1 (.rg [V 18 (.mv (.t 3)),
V 19 (.bin .mul (.t 18) (.k (.c (.i 131)))),
V 20 (.mv (.t 0)),
V 21 (.mv (.t 4)),
V 22 (.idx 1 (.t 20) (.t 21)),
V 23 (.ld none (.t 22)),
V 24 (.b2i (.t 23)),
V 25 (.bin .add (.t 19) (.t 24)),
V 26 (.bin .add (.t 25) (.k (.c (.i 7)))),
V 27 (.bin .and (.t 26) (.k (.c (.i 1073741823)))),
V 3 (.mv (.t 27))])) (.rg [V 16 (.mv (.t 4)),
V 17 (.bin .add (.t 16) (.k (.c (.i 1)))),
V 4 (.mv (.t 17))]))
def vf52c : VC := .seq (.rg [V 2 (.mv (.k (.c .np)))]) (.seq (.rg [V 5 (.mv (.t 0)),
V 6 (.len (.t 5)),
V 7 (.bin .add (.k (.c (.i 17111))) (.t 6)),
V 3 (.mv (.t 7))]) (.seq (.seq (.rg [V 4 (.mv (.k (.c (.i 0))))]) (.block 0 (.loop vf52b0))) (.seq (.rg [V 28 (.mv (.t 0)),
V 29 (.mv (.t 3)),
V 30 (.build [.ns,.i 0,.i 0] [(0,1,(.t 28)),(2,1,(.t 29))]),
V 31 (.box (.t 30)),
V 2 (.mv (.t 31))]) (.ret))))
def vf52 : VF := ⟨vf52c,vf52v,[(2,none)]⟩
theorem ok52 : chkF Try.prog Try.f52 vf52 = true := by kernel_rfl
theorem dr52 : drawsB vf52.body = true := by kernel_rfl
/-- loop.example/g00192/impl.succs -/
def vf53v : List Nat := [0,1,2,4,5,12,31]
def vf53c : VC := .seq (.rg [V 2 (.box (.t 0)),
V 4 (.mv (.k (.c .ns)))]) (.seq (.rg [V 6 (.fad 0 (.t 2)),
V 7 (.ld none (.t 6)),
V 8 (.mv (.t 1)),
V 9 (.idx 6 (.t 7) (.t 8)),
V 10 (.fad 2 (.t 9)),
V 11 (.ld (some 4) (.t 10)),
V 5 (.alloc [.i 0,.i 0,.i 0,.i 0]),
Vn (.st 4 (.t 5) (.t 11))]) (.seq (.block 0 (.seq (.rg [V 13 (.fad 0 (.t 5)),
V 14 (.ld none (.t 13)),
V 15 (.bin .eq (.t 14) (.k (.c (.i 1)))),
V 16 (.mv (.t 15)),
Vg 17 16 false (.fad 0 (.t 5)),
Vg 18 16 false (.ld none (.t 17)),
Vg 19 16 false (.bin .eq (.t 18) (.k (.c (.i 2)))),
Vg 20 16 false (.mv (.t 19)),
Vg 21 20 true (.fad 2 (.t 5)),
Vg 22 20 true (.ld none (.t 21)),
Vg 23 20 true (.fad 3 (.t 5)),
Vg 24 20 true (.ld none (.t 23)),
Vg 25 20 true (.bin .eq (.t 22) (.t 24)),
Vg 26 16 false (.pick (.t 20) (.t 25) (.k (.c (.b false)))),
V 27 (.pick (.t 16) (.k (.c (.b true))) (.t 26)),
V 12 (.mv (.t 27))]) (.cond (.t 12) (.seq (.rg [V 28 (.fad 2 (.t 5)),
V 29 (.ld none (.t 28)),
V 30 (.bsl 1 [.i 0] 1 [(0,1,(.t 29))]),
V 4 (.mv (.t 30))]) (.ret)) (.seq (.rg [V 32 (.fad 0 (.t 5)),
V 33 (.ld none (.t 32)),
V 34 (.bin .eq (.t 33) (.k (.c (.i 2)))),
V 31 (.mv (.t 34))]) (.cond (.t 31) (.seq (.rg [V 35 (.fad 2 (.t 5)),
V 36 (.ld none (.t 35)),
V 37 (.fad 3 (.t 5)),
V 38 (.ld none (.t 37)),
V 39 (.bsl 1 [.i 0] 2 [(0,1,(.t 36)),(1,1,(.t 38))]),
V 4 (.mv (.t 39))]) (.ret)) (.skip)))))) (.seq (.rg [V 4 (.mv (.k (.c .ns)))]) (.ret))))
def vf53 : VF := ⟨vf53c,vf53v,[(4,none)]⟩
theorem ok53 : chkF Try.prog Try.f53 vf53 = true := by kernel_rfl
theorem dr53 : drawsB vf53.body = true := by kernel_rfl
/-- loop.example/g00192/impl.preds -/
def vf54v : List Nat := [0,1,2,4,5,6,10,11,12,18]
def vf54b0 : VC := .seq (.rg [V 12 (.bin .lt (.t 11) (.t 10))]) (.seq (.cond (.t 12) (.skip) (.exit 0)) (.seq (.block 1 (.seq (.rg [V 13 (.mv (.t 11)),
V 6 (.mv (.t 13))]) (.seq (.rg [V 14 (.ld (some 2) (.t 2)),
V 15 (.mv (.t 6)),
V 16 (.call 53 [(.t 14),(.t 15)]),
V 17 (.mv (.t 1)),
V 18 (.call 98 [(.t 16),(.t 17)])]) (.cond (.t 18) (.rg [V 19 (.mv (.t 5)),
V 20 (.mv (.t 6)),
V 21 (.bsl 1 [.i 0] 1 [(0,1,(.t 20))]),
V 22 (.app 1 (.t 19) (.t 21)),
V 5 (.mv (.t 22))]) (.skip))))) (.rg [V 23 (.bin .add (.t 11) (.k (.c (.i 1)))),
V 11 (.mv (.t 23))])))
def vf54c : VC := .seq (.rg [V 2 (.box (.t 0)),
V 4 (.mv (.k (.c .ns)))]) (.seq (.rg [V 7 (.bsl 1 [.i 0] 0 []),
V 5 (.mv (.t 7))]) (.seq (.seq (.rg [V 8 (.fad 0 (.t 2)),
V 9 (.ld none (.t 8)),
V 10 (.len (.t 9)),
V 11 (.mv (.k (.c (.i 0))))]) (.block 0 (.loop vf54b0))) (.seq (.rg [V 24 (.mv (.t 5)),
V 4 (.mv (.t 24))]) (.ret))))
def vf54 : VF := ⟨vf54c,vf54v,[(4,none)]⟩
theorem ok54 : chkF Try.prog Try.f54 vf54 = true := by kernel_rfl
theorem dr54 : drawsB vf54.body = true := by kernel_rfl
/-- loop.example/g00192/spec.l8Critical -/
def vf55v : List Nat := [0,1,2,3,4,5,6,12,26,49]
def vf55b0 : VC := .seq (.seq (.rg [V 18 (.mv (.t 6)),
V 19 (.mv (.t 5)),
V 20 (.len (.t 19)),
V 21 (.bin .lt (.t 18) (.t 20)),
V 22 (.mv (.t 21)),
Vg 23 22 true (.mv (.t 5)),
Vg 24 22 true (.len (.t 23)),
Vg 25 22 true (.bin .gt (.t 24) (.k (.c (.i 1)))),
V 26 (.pick (.t 22) (.t 25) (.k (.c (.b false))))]) (.cond (.t 26) (.skip) (.exit 2))) (.seq (.block 3 (.seq (.rd [V 29 (.ld (some 2) (.t 1)),
V 30 (.mv (.t 5)),
V 31 (.mv (.t 6)),
Vd [1,2] (V 32 (.idx 1 (.t 30) (.t 31))),
Vd [3] (V 33 (.ld none (.t 32))),
Vd [0,4] (V 34 (.call 64 [(.t 29),(.t 33)])),
Vd [5] (V 35 (.len (.t 34))),
Vd [6] (V 36 (.bin .gt (.t 35) (.k (.c (.i 1))))),
Vd [7] (V 37 (.mv (.t 36))),
Vd [8] (Vg 38 37 false (.fad 0 (.t 1))),
Vd [9] (Vg 39 37 false (.ld none (.t 38))),
Vd [8] (Vg 40 37 false (.mv (.t 5))),
Vd [8] (Vg 41 37 false (.mv (.t 6))),
Vd [11,12] (Vg 42 37 false (.idx 1 (.t 40) (.t 41))),
Vd [13] (Vg 43 37 false (.ld none (.t 42))),
Vd [10,14] (Vg 44 37 false (.idx 6 (.t 39) (.t 43))),
Vd [15] (Vg 45 37 false (.fad 0 (.t 44))),
Vd [16] (Vg 46 37 false (.ld none (.t 45))),
Vd [17] (Vg 47 37 false (.len (.t 46))),
Vd [18] (Vg 48 37 false (.bin .gt (.t 47) (.k (.c (.i 0))))),
Vd [19] (V 49 (.pick (.t 37) (.k (.c (.b true))) (.t 48)))]) (.cond (.t 49) (.rg [V 50 (.mv (.t 3)),
V 51 (.mv (.t 4)),
V 52 (.mv (.t 5)),
V 53 (.mv (.t 6)),
V 54 (.idx 1 (.t 52) (.t 53)),
V 55 (.ld none (.t 54)),
V 56 (.build [.i 0,.i 0] [(0,1,(.t 51)),(1,1,(.t 55))]),
V 57 (.bsl 2 [.i 0,.i 0] 1 [(0,2,(.t 56))]),
V 58 (.app 2 (.t 50) (.t 57)),
V 3 (.mv (.t 58))]) (.skip)))) (.rg [V 27 (.mv (.t 6)),
V 28 (.bin .add (.t 27) (.k (.c (.i 1)))),
V 6 (.mv (.t 28))]))
def vf55b1 : VC := .seq (.seq (.rg [V 8 (.mv (.t 4)),
V 9 (.fad 0 (.t 1)),
V 10 (.ld none (.t 9)),
V 11 (.len (.t 10)),
V 12 (.bin .lt (.t 8) (.t 11))]) (.cond (.t 12) (.skip) (.exit 0))) (.seq (.block 1 (.seq (.rg [V 15 (.ld (some 2) (.t 1)),
V 16 (.mv (.t 4)),
V 17 (.call 63 [(.t 15),(.t 16)]),
V 5 (.mv (.t 17))]) (.seq (.rg [V 6 (.mv (.k (.c (.i 0))))]) (.block 2 (.loop vf55b0))))) (.rg [V 13 (.mv (.t 4)),
V 14 (.bin .add (.t 13) (.k (.c (.i 1)))),
V 4 (.mv (.t 14))]))
def vf55c : VC := .seq (.rg [V 1 (.box (.t 0)),
V 2 (.mv (.k (.c .ns)))]) (.seq (.rg [V 7 (.bsl 2 [.i 0,.i 0] 0 []),
V 3 (.mv (.t 7))]) (.seq (.seq (.rg [V 4 (.mv (.k (.c (.i 0))))]) (.block 0 (.loop vf55b1))) (.seq (.rg [V 59 (.mv (.t 3)),
V 2 (.mv (.t 59))]) (.ret))))
def vf55 : VF := ⟨vf55c,vf55v,[(2,none)]⟩
theorem ok55 : chkF Try.prog Try.f55 vf55 = true := by kernel_rfl
theorem dr55 : drawsB vf55.body = true := by kernel_rfl
/-- loop.example/g00192/impl.isBlock -/
def vf56v : List Nat := [0,1,2,4]
def vf56c : VC := .seq (.rg [V 2 (.box (.t 0)),
V 4 (.mv (.k (.c (.b false))))]) (.seq (.rg [V 5 (.ld (some 2) (.t 2)),
V 6 (.call 39 [(.t 5)]),
V 7 (.mv (.t 6)),
Vg 8 7 true (.mv (.t 1)),
Vg 9 7 true (.fad 0 (.t 2)),
Vg 10 7 true (.ld none (.t 9)),
Vg 11 7 true (.len (.t 10)),
Vg 12 7 true (.bin .sub (.t 11) (.k (.c (.i 1)))),
Vg 13 7 true (.call 72 [(.t 8),(.k (.c (.i 0))),(.t 12)]),
V 14 (.pick (.t 7) (.t 13) (.k (.c (.b false)))),
V 4 (.mv (.t 14))]) (.ret))
def vf56 : VF := ⟨vf56c,vf56v,[(4,none)]⟩
theorem ok56 : chkF Try.prog Try.f56 vf56 = true := by kernel_rfl
theorem dr56 : drawsB vf56.body = true := by kernel_rfl
/-- loop.example/g00192/spec.l1In -/
def vf57v : List Nat := [0,1,2,6]
def vf57c : VC := .seq (.rg [V 6 (.mv (.k (.c (.b false))))]) (.seq (.rg [V 7 (.mv (.t 0)),
V 8 (.mv (.t 1)),
V 9 (.bin .ge (.t 7) (.t 8)),
V 10 (.mv (.t 9)),
Vg 11 10 true (.mv (.t 0)),
Vg 12 10 true (.mv (.t 2)),
Vg 13 10 true (.bin .le (.t 11) (.t 12)),
V 14 (.pick (.t 10) (.t 13) (.k (.c (.b false)))),
V 6 (.mv (.t 14))]) (.ret))
def vf57 : VF := ⟨vf57c,vf57v,[(6,none)]⟩
theorem ok57 : chkF Try.prog Try.f57 vf57 = true := by kernel_rfl
theorem dr57 : drawsB vf57.body = true := by kernel_rfl
/-- loop.example/g00192/spec.l2Term -/
def vf58v : List Nat := [0,1,2,3,6,7,8,9,25,26,39,48]
def vf58c : VC := .seq (.rg [V 3 (.box (.t 0)),
V 6 (.mv (.k (.c (.b false))))]) (.seq (.rg [V 10 (.fad 2 (.t 3)),
V 11 (.ld none (.t 10)),
V 12 (.mv (.t 1)),
V 13 (.bin .sub (.t 12) (.k (.c (.i 1)))),
V 14 (.call 57 [(.t 11),(.k (.c (.i 0))),(.t 13)]),
V 7 (.mv (.t 14))]) (.seq (.rg [V 15 (.fad 3 (.t 3)),
V 16 (.ld none (.t 15)),
V 17 (.mv (.t 1)),
V 18 (.bin .sub (.t 17) (.k (.c (.i 1)))),
V 19 (.call 57 [(.t 16),(.k (.c (.i 0))),(.t 18)]),
V 8 (.mv (.t 19))]) (.seq (.rg [V 20 (.fad 1 (.t 3)),
V 21 (.ld none (.t 20)),
V 22 (.mv (.t 2)),
V 23 (.call 99 [(.t 21),(.t 22)]),
V 9 (.mv (.t 23))]) (.seq (.seq (.rg [V 24 (.fad 0 (.t 3)),
V 25 (.ld none (.t 24))]) (.block 0 (.seq (.rg [V 27 (.bin .eq (.t 25) (.k (.c (.i 1)))),
V 26 (.mv (.t 27))]) (.cond (.t 26) (.seq (.rg [V 28 (.mv (.t 7)),
V 29 (.mv (.t 28)),
Vg 30 29 true (.fad 1 (.t 3)),
Vg 31 29 true (.ld none (.t 30)),
Vg 32 29 true (.bin .eq (.t 31) (.k (.c (.i 0)))),
V 33 (.pick (.t 29) (.t 32) (.k (.c (.b false)))),
V 34 (.mv (.t 33)),
Vg 35 34 true (.fad 3 (.t 3)),
Vg 36 34 true (.ld none (.t 35)),
Vg 37 34 true (.bin .eq (.t 36) (.k (.c (.i 0)))),
V 38 (.pick (.t 34) (.t 37) (.k (.c (.b false)))),
V 6 (.mv (.t 38))]) (.ret)) (.seq (.rg [V 40 (.bin .eq (.t 25) (.k (.c (.i 2)))),
V 39 (.mv (.t 40))]) (.cond (.t 39) (.seq (.rg [V 41 (.mv (.t 7)),
V 42 (.mv (.t 41)),
Vg 43 42 true (.mv (.t 8)),
V 44 (.pick (.t 42) (.t 43) (.k (.c (.b false)))),
V 45 (.mv (.t 44)),
Vg 46 45 true (.mv (.t 9)),
V 47 (.pick (.t 45) (.t 46) (.k (.c (.b false)))),
V 6 (.mv (.t 47))]) (.ret)) (.seq (.rg [V 49 (.bin .eq (.t 25) (.k (.c (.i 3)))),
V 48 (.mv (.t 49))]) (.cond (.t 48) (.seq (.rg [V 50 (.mv (.t 9)),
V 51 (.mv (.t 50)),
Vg 52 51 true (.fad 2 (.t 3)),
Vg 53 51 true (.ld none (.t 52)),
Vg 54 51 true (.bin .eq (.t 53) (.k (.c (.i 0)))),
V 55 (.pick (.t 51) (.t 54) (.k (.c (.b false)))),
V 56 (.mv (.t 55)),
Vg 57 56 true (.fad 3 (.t 3)),
Vg 58 56 true (.ld none (.t 57)),
Vg 59 56 true (.bin .eq (.t 58) (.k (.c (.i 0)))),
V 60 (.pick (.t 56) (.t 59) (.k (.c (.b false)))),
V 6 (.mv (.t 60))]) (.ret)) (.skip))))))))) (.seq (.rg [V 6 (.mv (.k (.c (.b false))))]) (.ret))))))
def vf58 : VF := ⟨vf58c,vf58v,[(6,none)]⟩
theorem ok58 : chkF Try.prog Try.f58 vf58 = true := by kernel_rfl
theorem dr58 : drawsB vf58.body = true := by kernel_rfl
/-- loop.example/g00192/spec.l2Phi -/
def vf59v : List Nat := [0,1,2,3,6,7,8,19,24,47,50,65]
def vf59b0 : VC := .seq (.seq (.rg [V 48 (.mv (.t 8)),
V 49 (.mv (.t 7)),
V 50 (.bin .lt (.t 48) (.t 49))]) (.cond (.t 50) (.skip) (.exit 2))) (.seq (.block 3 (.seq (.rd [V 53 (.fad 1 (.t 3)),
Vd [0] (V 54 (.ld none (.t 53))),
V 55 (.mv (.t 8)),
Vd [1,2] (V 56 (.idx 2 (.t 54) (.t 55))),
Vd [3] (V 57 (.fad 0 (.t 56))),
Vd [4] (V 58 (.ld none (.t 57))),
V 59 (.fad 1 (.t 3)),
Vd [6] (V 60 (.ld none (.t 59))),
V 61 (.mv (.t 7)),
Vd [7,8] (V 62 (.idx 2 (.t 60) (.t 61))),
Vd [9] (V 63 (.fad 0 (.t 62))),
Vd [10] (V 64 (.ld none (.t 63))),
Vd [5,11] (V 65 (.bin .eq (.t 58) (.t 64)))]) (.cond (.t 65) (.seq (.rg [V 6 (.mv (.k (.c (.b false))))]) (.ret)) (.skip)))) (.rg [V 51 (.mv (.t 8)),
V 52 (.bin .add (.t 51) (.k (.c (.i 1)))),
V 8 (.mv (.t 52))]))
def vf59b1 : VC := .seq (.seq (.rg [V 20 (.mv (.t 7)),
V 21 (.fad 1 (.t 3)),
V 22 (.ld none (.t 21)),
V 23 (.len (.t 22)),
V 24 (.bin .lt (.t 20) (.t 23))]) (.cond (.t 24) (.skip) (.exit 0))) (.seq (.block 1 (.seq (.seq (.rg [V 27 (.fad 1 (.t 3)),
V 28 (.ld none (.t 27)),
V 29 (.mv (.t 7)),
V 30 (.idx 2 (.t 28) (.t 29)),
V 31 (.fad 0 (.t 30)),
V 32 (.ld none (.t 31)),
V 33 (.mv (.t 1)),
V 34 (.bin .sub (.t 33) (.k (.c (.i 1)))),
V 35 (.call 57 [(.t 32),(.k (.c (.i 0))),(.t 34)]),
V 36 (.not (.t 35)),
V 37 (.mv (.t 36)),
Vg 38 37 false (.fad 1 (.t 3)),
Vg 39 37 false (.ld none (.t 38)),
Vg 40 37 false (.mv (.t 7)),
Vg 41 37 false (.idx 2 (.t 39) (.t 40)),
Vg 42 37 false (.fad 1 (.t 41)),
Vg 43 37 false (.ld none (.t 42)),
Vg 44 37 false (.mv (.t 2)),
Vg 45 37 false (.call 99 [(.t 43),(.t 44)]),
Vg 46 37 false (.not (.t 45)),
V 47 (.pick (.t 37) (.k (.c (.b true))) (.t 46))]) (.cond (.t 47) (.seq (.rg [V 6 (.mv (.k (.c (.b false))))]) (.ret)) (.skip))) (.seq (.rg [V 8 (.mv (.k (.c (.i 0))))]) (.block 2 (.loop vf59b0))))) (.rg [V 25 (.mv (.t 7)),
V 26 (.bin .add (.t 25) (.k (.c (.i 1)))),
V 7 (.mv (.t 26))]))
def vf59c : VC := .seq (.rg [V 3 (.box (.t 0)),
V 6 (.mv (.k (.c (.b false))))]) (.seq (.seq (.rg [V 9 (.fad 0 (.t 3)),
V 10 (.ld none (.t 9)),
V 11 (.mv (.t 2)),
V 12 (.call 99 [(.t 10),(.t 11)]),
V 13 (.not (.t 12)),
V 14 (.mv (.t 13)),
Vg 15 14 false (.fad 1 (.t 3)),
Vg 16 14 false (.ld none (.t 15)),
Vg 17 14 false (.len (.t 16)),
Vg 18 14 false (.bin .gt (.t 17) (.k (.c (.i 16)))),
V 19 (.pick (.t 14) (.k (.c (.b true))) (.t 18))]) (.cond (.t 19) (.seq (.rg [V 6 (.mv (.k (.c (.b false))))]) (.ret)) (.skip))) (.seq (.seq (.rg [V 7 (.mv (.k (.c (.i 0))))]) (.block 0 (.loop vf59b1))) (.seq (.rg [V 6 (.mv (.k (.c (.b true))))]) (.ret))))
def vf59 : VF := ⟨vf59c,vf59v,[(6,none)]⟩
theorem ok59 : chkF Try.prog Try.f59 vf59 = true := by kernel_rfl
theorem dr59 : drawsB vf59.body = true := by kernel_rfl
/-- loop.example/g00192/spec.l2Ins -/
def vf60v : List Nat := [0,1,2,4,5,6,7,20,36,51,74,92,112]
def vf60c : VC := .seq (.rg [V 2 (.box (.t 0)),
V 4 (.mv (.k (.c (.b false))))]) (.seq (.rg [V 8 (.fad 1 (.t 2)),
V 9 (.ld none (.t 8)),
V 10 (.mv (.t 1)),
V 11 (.call 99 [(.t 9),(.t 10)]),
V 5 (.mv (.t 11))]) (.seq (.rg [V 12 (.fad 2 (.t 2)),
V 13 (.ld none (.t 12)),
V 14 (.mv (.t 1)),
V 15 (.call 99 [(.t 13),(.t 14)]),
V 6 (.mv (.t 15))]) (.seq (.rg [V 16 (.fad 3 (.t 2)),
V 17 (.ld none (.t 16)),
V 18 (.mv (.t 1)),
V 19 (.call 99 [(.t 17),(.t 18)]),
V 7 (.mv (.t 19))]) (.seq (.block 0 (.seq (.rg [V 21 (.fad 0 (.t 2)),
V 22 (.ld none (.t 21)),
V 23 (.call 100 [(.t 22)]),
V 20 (.mv (.t 23))]) (.cond (.t 20) (.seq (.rg [V 24 (.mv (.t 5)),
V 25 (.mv (.t 24)),
Vg 26 25 true (.mv (.t 6)),
V 27 (.pick (.t 25) (.t 26) (.k (.c (.b false)))),
V 28 (.mv (.t 27)),
Vg 29 28 true (.mv (.t 7)),
V 30 (.pick (.t 28) (.t 29) (.k (.c (.b false)))),
V 31 (.mv (.t 30)),
Vg 32 31 true (.fad 4 (.t 2)),
Vg 33 31 true (.ld none (.t 32)),
Vg 34 31 true (.bin .eq (.t 33) (.k (.c (.i 0)))),
V 35 (.pick (.t 31) (.t 34) (.k (.c (.b false)))),
V 4 (.mv (.t 35))]) (.ret)) (.seq (.rg [V 37 (.fad 0 (.t 2)),
V 38 (.ld none (.t 37)),
V 39 (.bin .eq (.t 38) (.k (.c (.i 20)))),
V 36 (.mv (.t 39))]) (.cond (.t 36) (.seq (.rg [V 40 (.mv (.t 5)),
V 41 (.mv (.t 40)),
Vg 42 41 true (.fad 2 (.t 2)),
Vg 43 41 true (.ld none (.t 42)),
Vg 44 41 true (.bin .eq (.t 43) (.k (.c (.i 0)))),
V 45 (.pick (.t 41) (.t 44) (.k (.c (.b false)))),
V 46 (.mv (.t 45)),
Vg 47 46 true (.fad 3 (.t 2)),
Vg 48 46 true (.ld none (.t 47)),
Vg 49 46 true (.bin .eq (.t 48) (.k (.c (.i 0)))),
V 50 (.pick (.t 46) (.t 49) (.k (.c (.b false)))),
V 4 (.mv (.t 50))]) (.ret)) (.seq (.rg [V 52 (.fad 0 (.t 2)),
V 53 (.ld none (.t 52)),
V 54 (.bin .eq (.t 53) (.k (.c (.i 21)))),
V 55 (.mv (.t 54)),
Vg 56 55 false (.fad 0 (.t 2)),
Vg 57 55 false (.ld none (.t 56)),
Vg 58 55 false (.bin .eq (.t 57) (.k (.c (.i 25)))),
V 59 (.pick (.t 55) (.k (.c (.b true))) (.t 58)),
V 51 (.mv (.t 59))]) (.cond (.t 51) (.seq (.rg [V 60 (.mv (.t 5)),
V 61 (.mv (.t 60)),
Vg 62 61 true (.mv (.t 6)),
V 63 (.pick (.t 61) (.t 62) (.k (.c (.b false)))),
V 64 (.mv (.t 63)),
Vg 65 64 true (.fad 3 (.t 2)),
Vg 66 64 true (.ld none (.t 65)),
Vg 67 64 true (.bin .eq (.t 66) (.k (.c (.i 0)))),
V 68 (.pick (.t 64) (.t 67) (.k (.c (.b false)))),
V 69 (.mv (.t 68)),
Vg 70 69 true (.fad 4 (.t 2)),
Vg 71 69 true (.ld none (.t 70)),
Vg 72 69 true (.bin .eq (.t 71) (.k (.c (.i 0)))),
V 73 (.pick (.t 69) (.t 72) (.k (.c (.b false)))),
V 4 (.mv (.t 73))]) (.ret)) (.seq (.rg [V 75 (.fad 0 (.t 2)),
V 76 (.ld none (.t 75)),
V 77 (.bin .eq (.t 76) (.k (.c (.i 22)))),
V 74 (.mv (.t 77))]) (.cond (.t 74) (.seq (.rg [V 78 (.mv (.t 6)),
V 79 (.mv (.t 78)),
Vg 80 79 true (.mv (.t 7)),
V 81 (.pick (.t 79) (.t 80) (.k (.c (.b false)))),
V 82 (.mv (.t 81)),
Vg 83 82 true (.fad 1 (.t 2)),
Vg 84 82 true (.ld none (.t 83)),
Vg 85 82 true (.bin .eq (.t 84) (.k (.c (.i 0)))),
V 86 (.pick (.t 82) (.t 85) (.k (.c (.b false)))),
V 87 (.mv (.t 86)),
Vg 88 87 true (.fad 4 (.t 2)),
Vg 89 87 true (.ld none (.t 88)),
Vg 90 87 true (.bin .eq (.t 89) (.k (.c (.i 0)))),
V 91 (.pick (.t 87) (.t 90) (.k (.c (.b false)))),
V 4 (.mv (.t 91))]) (.ret)) (.seq (.rg [V 93 (.fad 0 (.t 2)),
V 94 (.ld none (.t 93)),
V 95 (.bin .eq (.t 94) (.k (.c (.i 23)))),
V 92 (.mv (.t 95))]) (.cond (.t 92) (.seq (.rg [V 96 (.mv (.t 6)),
V 97 (.mv (.t 96)),
Vg 98 97 true (.fad 1 (.t 2)),
Vg 99 97 true (.ld none (.t 98)),
Vg 100 97 true (.bin .eq (.t 99) (.k (.c (.i 0)))),
V 101 (.pick (.t 97) (.t 100) (.k (.c (.b false)))),
V 102 (.mv (.t 101)),
Vg 103 102 true (.fad 3 (.t 2)),
Vg 104 102 true (.ld none (.t 103)),
Vg 105 102 true (.bin .eq (.t 104) (.k (.c (.i 0)))),
V 106 (.pick (.t 102) (.t 105) (.k (.c (.b false)))),
V 107 (.mv (.t 106)),
Vg 108 107 true (.fad 4 (.t 2)),
Vg 109 107 true (.ld none (.t 108)),
Vg 110 107 true (.bin .eq (.t 109) (.k (.c (.i 0)))),
V 111 (.pick (.t 107) (.t 110) (.k (.c (.b false)))),
V 4 (.mv (.t 111))]) (.ret)) (.seq (.rg [V 113 (.fad 0 (.t 2)),
V 114 (.ld none (.t 113)),
V 115 (.bin .eq (.t 114) (.k (.c (.i 24)))),
V 112 (.mv (.t 115))]) (.cond (.t 112) (.seq (.rg [V 116 (.mv (.t 5)),
V 117 (.mv (.t 116)),
Vg 118 117 true (.fad 2 (.t 2)),
Vg 119 117 true (.ld none (.t 118)),
Vg 120 117 true (.bin .eq (.t 119) (.k (.c (.i 0)))),
V 121 (.pick (.t 117) (.t 120) (.k (.c (.b false)))),
V 122 (.mv (.t 121)),
Vg 123 122 true (.fad 3 (.t 2)),
Vg 124 122 true (.ld none (.t 123)),
Vg 125 122 true (.bin .eq (.t 124) (.k (.c (.i 0)))),
V 126 (.pick (.t 122) (.t 125) (.k (.c (.b false)))),
V 127 (.mv (.t 126)),
Vg 128 127 true (.fad 4 (.t 2)),
Vg 129 127 true (.ld none (.t 128)),
Vg 130 127 true (.bin .eq (.t 129) (.k (.c (.i 0)))),
V 131 (.pick (.t 127) (.t 130) (.k (.c (.b false)))),
V 4 (.mv (.t 131))]) (.ret)) (.skip)))))))))))))) (.seq (.rg [V 4 (.mv (.k (.c (.b false))))]) (.ret))))))
def vf60 : VF := ⟨vf60c,vf60v,[(4,none)]⟩
theorem ok60 : chkF Try.prog Try.f60 vf60 = true := by kernel_rfl
theorem dr60 : drawsB vf60.body = true := by kernel_rfl
/-- loop.example/g00192/spec.l3DrawAt -/
def vf61v : List Nat := [0,2,3,4,5]
def vf61c : VC := .seq (.rg [V 2 (.alloc [.ns,.i 0]),
V 3 (.mv (.k (.c (.i 0))))]) (.seq (.rg [V 6 (.mv (.t 0)),
V 7 (.call 52 [(.t 6)]),
V 4 (.mv (.t 7))]) (.seq (.rg [V 8 (.mv (.t 4)),
V 9 (.call 51 [(.t 8)]),
V 5 (.alloc [.ns,.i 0]),
Vn (.st 2 (.t 5) (.t 9))]) (.seq (.rd [Vc [] [] true (V 10 (.ld (some 2) (.t 5))),
V 11 (.mv (.t 4)),
V 12 (.fad 0 (.t 5)),
Vd [2] (V 13 (.ld none (.t 12))),
Vd [3] (V 14 (.len (.t 13))),
Vd [4] (V 15 (.bin .add (.t 14) (.k (.c (.i 1))))),
Vc [1,5] [0] false (V 16 (.call 67 [(.t 11),(.t 15)])),
V 17 (.mv (.t 4)),
Vc [6,7] [0] false (V 18 (.call 67 [(.t 17),(.k (.c (.i 20)))])),
Vd [8] (V 19 (.bin .quo (.t 18) (.k (.c (.i 19))))),
Vd [9] (V 20 (.bin .sub (.t 16) (.t 19))),
Vd [0,8] (Vn (.st 2 (.t 2) (.t 10))),
Vd [10,11] (V 3 (.mv (.t 20)))]) (.ret))))
def vf61 : VF := ⟨vf61c,vf61v,[(2,(some (some 2))),(3,none)]⟩
theorem ok61 : chkF Try.prog Try.f61 vf61 = true := by kernel_rfl
theorem dr61 : drawsB vf61.body = true := by kernel_rfl
/-- loop.example/g00192/spec.l3Right -/
def vf62v : List Nat := [0,1,2,4]
def vf62c : VC := .seq (.rg [V 2 (.box (.t 0)),
V 4 (.mv (.k (.c (.b false))))]) (.seq (.rg [V 5 (.ld (some 2) (.t 2)),
V 6 (.call 19 [(.t 5)]),
V 7 (.mv (.t 6)),
Vg 8 7 true (.mv (.t 1)),
Vg 9 7 true (.fad 0 (.t 2)),
Vg 10 7 true (.ld none (.t 9)),
Vg 11 7 true (.len (.t 10)),
Vg 12 7 true (.bin .sub (.t 11) (.k (.c (.i 1)))),
Vg 13 7 true (.call 57 [(.t 8),(.k (.c (.i 0))),(.t 12)]),
V 14 (.pick (.t 7) (.t 13) (.k (.c (.b false)))),
V 4 (.mv (.t 14))]) (.ret))
def vf62 : VF := ⟨vf62c,vf62v,[(4,none)]⟩
theorem ok62 : chkF Try.prog Try.f62 vf62 = true := by kernel_rfl
theorem dr62 : drawsB vf62.body = true := by kernel_rfl
/-- loop.example/g00192/spec.l3Succs -/
def vf63v : List Nat := [0,1,2,4,5,13,14,19,25]
def vf63c : VC := .seq (.rg [V 2 (.box (.t 0)),
V 4 (.mv (.k (.c .ns)))]) (.seq (.rg [V 6 (.fad 0 (.t 2)),
V 7 (.ld none (.t 6)),
V 8 (.mv (.t 1)),
V 9 (.idx 6 (.t 7) (.t 8)),
V 10 (.fad 2 (.t 9)),
V 11 (.ld (some 4) (.t 10)),
V 5 (.alloc [.i 0,.i 0,.i 0,.i 0]),
Vn (.st 4 (.t 5) (.t 11))]) (.seq (.seq (.rg [V 12 (.fad 0 (.t 5)),
V 13 (.ld none (.t 12))]) (.block 0 (.seq (.rg [V 15 (.bin .eq (.t 13) (.k (.c (.i 1)))),
V 14 (.mv (.t 15))]) (.cond (.t 14) (.seq (.rg [V 16 (.fad 2 (.t 5)),
V 17 (.ld none (.t 16)),
V 18 (.bsl 1 [.i 0] 1 [(0,1,(.t 17))]),
V 4 (.mv (.t 18))]) (.ret)) (.seq (.rg [V 20 (.bin .eq (.t 13) (.k (.c (.i 2)))),
V 19 (.mv (.t 20))]) (.cond (.t 19) (.seq (.seq (.rg [V 21 (.fad 2 (.t 5)),
V 22 (.ld none (.t 21)),
V 23 (.fad 3 (.t 5)),
V 24 (.ld none (.t 23)),
V 25 (.bin .eq (.t 22) (.t 24))]) (.cond (.t 25) (.seq (.rg [V 26 (.fad 2 (.t 5)),
V 27 (.ld none (.t 26)),
V 28 (.bsl 1 [.i 0] 1 [(0,1,(.t 27))]),
V 4 (.mv (.t 28))]) (.ret)) (.skip))) (.seq (.rg [V 29 (.fad 2 (.t 5)),
V 30 (.ld none (.t 29)),
V 31 (.fad 3 (.t 5)),
V 32 (.ld none (.t 31)),
V 33 (.bsl 1 [.i 0] 2 [(0,1,(.t 30)),(1,1,(.t 32))]),
V 4 (.mv (.t 33))]) (.ret))) (.skip))))))) (.seq (.rg [V 34 (.bsl 1 [.i 0] 0 []),
V 4 (.mv (.t 34))]) (.ret))))
def vf63 : VF := ⟨vf63c,vf63v,[(4,none)]⟩
theorem ok63 : chkF Try.prog Try.f63 vf63 = true := by kernel_rfl
theorem dr63 : drawsB vf63.body = true := by kernel_rfl
/-- loop.example/g00192/spec.l3Preds -/
def vf64v : List Nat := [0,1,2,4,5,6,12,19]
def vf64b0 : VC := .seq (.seq (.rg [V 8 (.mv (.t 6)),
V 9 (.fad 0 (.t 2)),
V 10 (.ld none (.t 9)),
V 11 (.len (.t 10)),
V 12 (.bin .lt (.t 8) (.t 11))]) (.cond (.t 12) (.skip) (.exit 0))) (.seq (.block 1 (.seq (.rg [V 15 (.ld (some 2) (.t 2)),
V 16 (.mv (.t 6)),
V 17 (.call 63 [(.t 15),(.t 16)]),
V 18 (.mv (.t 1)),
V 19 (.call 70 [(.t 17),(.t 18)])]) (.cond (.t 19) (.rg [V 20 (.mv (.t 5)),
V 21 (.mv (.t 6)),
V 22 (.bsl 1 [.i 0] 1 [(0,1,(.t 21))]),
V 23 (.app 1 (.t 20) (.t 22)),
V 5 (.mv (.t 23))]) (.skip)))) (.rg [V 13 (.mv (.t 6)),
V 14 (.bin .add (.t 13) (.k (.c (.i 1)))),
V 6 (.mv (.t 14))]))
def vf64c : VC := .seq (.rg [V 2 (.box (.t 0)),
V 4 (.mv (.k (.c .ns)))]) (.seq (.rg [V 7 (.bsl 1 [.i 0] 0 []),
V 5 (.mv (.t 7))]) (.seq (.seq (.rg [V 6 (.mv (.k (.c (.i 0))))]) (.block 0 (.loop vf64b0))) (.seq (.rg [V 24 (.mv (.t 5)),
V 4 (.mv (.t 24))]) (.ret))))
def vf64 : VF := ⟨vf64c,vf64v,[(4,none)]⟩
theorem ok64 : chkF Try.prog Try.f64 vf64 = true := by kernel_rfl
theorem dr64 : drawsB vf64.body = true := by kernel_rfl
/-- loop.example/g00192/impl.order -/
def vf65v : List Nat := [0,1,2,3,4,5]
def vf65c : VC := .seq (.rg [V 1 (.box (.t 0)),
V 2 (.mv (.k (.c .ns))),
V 3 (.mv (.k (.c .ns)))]) (.seq (.rg [V 6 (.fad 0 (.t 1)),
V 7 (.ld none (.t 6)),
V 8 (.len (.t 7)),
V 9 (.mks 1 [.b false] (.t 8)),
V 4 (.mv (.t 9))]) (.seq (.rg [V 10 (.ld (some 2) (.t 1)),
V 11 (.mv (.t 4)),
V 12 (.call 101 [(.t 10),(.k (.c (.i 0))),(.t 11),(.k (.c .ns))]),
V 5 (.mv (.t 12))]) (.seq (.rg [V 13 (.mv (.t 5)),
V 14 (.call 102 [(.t 13)])]) (.seq (.rg [V 15 (.mv (.t 5)),
V 16 (.mv (.t 4)),
V 2 (.mv (.t 15)),
V 3 (.mv (.t 16))]) (.ret)))))
def vf65 : VF := ⟨vf65c,vf65v,[(2,none),(3,none)]⟩
theorem ok65 : chkF Try.prog Try.f65 vf65 = true := by kernel_rfl
theorem dr65 : drawsB vf65.body = true := by kernel_rfl
/-- loop.example/g00192/spec.l3Order -/
def vf66v : List Nat := [0,1,2,3,4,5,18]
def vf66r0 : List VO := [V 6 (.ld (some 2) (.t 1)),V 7 (.fad 0 (.t 1)),Vd [1] (V 8 (.ld none (.t 7))),Vd [2] (V 9 (.len (.t 8))),Vd [3] (V 10 (.mks 1 [.b false] (.t 9))),V 11 (.bsl 1 [.i 0] 0 []),Vd [0,4,5] (V 12 (.call 103 [(.t 6),(.k (.c (.i 0))),(.t 10),(.t 11)])),Vd [6] (V 3 (.mv (.t 12)))]
def vf66t0 : VT := .split 4 5 (.leaf [(0,Vc [] [] true (V 6 (.ld (some 2) (.t 1)))),
(1,Vc [] [] false (V 7 (.fad 0 (.t 1)))),
(2,Vc [1] [] false (V 8 (.ld none (.t 7)))),
(3,Vc [2] [] false (V 9 (.len (.t 8)))),
(4,Vc [3] [0] false (V 10 (.mks 1 [.b false] (.t 9)))),
(5,Vc [] [0] false (V 11 (.bsl 1 [.i 0] 0 []))),
(6,Vc [0,4,5] [] false (V 12 (.call 103 [(.t 6),(.k (.c (.i 0))),(.t 10),(.t 11)]))),
(7,Vc [6] [] false (V 3 (.mv (.t 12))))]) (.leaf [(0,Vc [] [] true (V 6 (.ld (some 2) (.t 1)))),
(1,Vc [] [] false (V 7 (.fad 0 (.t 1)))),
(2,Vc [1] [] true (V 8 (.ld none (.t 7)))),
(3,Vc [2] [] false (V 9 (.len (.t 8)))),
(5,Vc [] [0,2] false (V 11 (.bsl 1 [.i 0] 0 []))),
(4,Vc [3] [0] false (V 10 (.mks 1 [.b false] (.t 9)))),
(6,Vc [0,4,5] [] false (V 12 (.call 103 [(.t 6),(.k (.c (.i 0))),(.t 10),(.t 11)]))),
(7,Vc [6] [] false (V 3 (.mv (.t 12))))])
def vf66b0 : VC := .seq (.seq (.rg [V 17 (.mv (.t 5)),
V 18 (.bin .ge (.t 17) (.k (.c (.i 0))))]) (.cond (.t 18) (.skip) (.exit 0))) (.seq (.block 1 (.rg [V 21 (.mv (.t 4)),
V 22 (.mv (.t 3)),
V 23 (.mv (.t 5)),
V 24 (.idx 1 (.t 22) (.t 23)),
V 25 (.ld none (.t 24)),
V 26 (.bsl 1 [.i 0] 1 [(0,1,(.t 25))]),
V 27 (.app 1 (.t 21) (.t 26)),
V 4 (.mv (.t 27))])) (.rg [V 19 (.mv (.t 5)),
V 20 (.bin .sub (.t 19) (.k (.c (.i 1)))),
V 5 (.mv (.t 20))]))
def vf66c : VC := .seq (.rg [V 1 (.box (.t 0)),
V 2 (.mv (.k (.c .ns)))]) (.seq (.rx vf66r0 vf66t0) (.seq (.rg [V 13 (.bsl 1 [.i 0] 0 []),
V 4 (.mv (.t 13))]) (.seq (.seq (.rg [V 14 (.mv (.t 3)),
V 15 (.len (.t 14)),
V 16 (.bin .sub (.t 15) (.k (.c (.i 1)))),
V 5 (.mv (.t 16))]) (.block 0 (.loop vf66b0))) (.seq (.rg [V 28 (.mv (.t 4)),
V 2 (.mv (.t 28))]) (.ret)))))
def vf66 : VF := ⟨vf66c,vf66v,[(2,none)]⟩
theorem ok66 : chkF Try.prog Try.f66 vf66 = true := by kernel_rfl
theorem dr66 : drawsB vf66.body = true := by kernel_rfl
/-- loop.example/g00192/spec.l1Below -/
def vf67v : List Nat := [0,1,4,5,6,7,8,10,12]
def vf67c : VC := .seq (.rg [V 4 (.mv (.k (.c (.i 0))))]) (.seq (.seq (.rg [V 9 (.mv (.t 1)),
V 10 (.bin .le (.t 9) (.k (.c (.i 0))))]) (.cond (.t 10) (.seq (.rg [V 4 (.mv (.k (.c (.i 0))))]) (.ret)) (.skip))) (.seq (.seq (.rg [V 11 (.mv (.t 1)),
V 12 (.bin .le (.t 11) (.k (.c (.i 256))))]) (.cond (.t 12) (.seq (.rg [V 13 (.mv (.t 0)),
V 14 (.call 104 [(.t 13)]),
V 15 (.mv (.t 1)),
V 16 (.bin .rem (.t 14) (.t 15)),
V 4 (.mv (.t 16))]) (.ret)) (.skip))) (.seq (.rg [V 17 (.mv (.t 0)),
V 18 (.call 104 [(.t 17)]),
V 5 (.mv (.t 18))]) (.seq (.rg [V 19 (.mv (.t 0)),
V 20 (.call 104 [(.t 19)]),
V 6 (.mv (.t 20))]) (.seq (.rg [V 21 (.mv (.t 0)),
V 22 (.call 104 [(.t 21)]),
V 7 (.mv (.t 22))]) (.seq (.rg [V 23 (.mv (.t 0)),
V 24 (.call 104 [(.t 23)]),
V 8 (.mv (.t 24))]) (.seq (.rg [V 25 (.mv (.t 5)),
V 26 (.bin .mul (.t 25) (.k (.c (.i 16777216)))),
V 27 (.mv (.t 6)),
V 28 (.bin .mul (.t 27) (.k (.c (.i 65536)))),
V 29 (.bin .add (.t 26) (.t 28)),
V 30 (.mv (.t 7)),
V 31 (.bin .mul (.t 30) (.k (.c (.i 256)))),
V 32 (.bin .add (.t 29) (.t 31)),
V 33 (.mv (.t 8)),
V 34 (.bin .add (.t 32) (.t 33)),
V 35 (.mv (.t 1)),
V 36 (.bin .rem (.t 34) (.t 35)),
V 4 (.mv (.t 36))]) (.ret))))))))
def vf67 : VF := ⟨vf67c,vf67v,[(4,none)]⟩
theorem ok67 : chkF Try.prog Try.f67 vf67 = true := by kernel_rfl
theorem dr67 : drawsB vf67.body = true := by kernel_rfl
/-- loop.example/g00192/impl.among -/
def vf68v : List Nat := [0,1,2,6]
def vf68c : VC := .seq (.rg [V 6 (.mv (.k (.c (.b false))))]) (.seq (.rg [V 7 (.mv (.t 2)),
V 8 (.mv (.t 0)),
V 9 (.len (.t 8)),
V 10 (.bin .sub (.t 9) (.k (.c (.i 1)))),
V 11 (.call 72 [(.t 7),(.k (.c (.i 0))),(.t 10)]),
V 12 (.mv (.t 11)),
Vg 13 12 true (.mv (.t 0)),
Vg 14 12 true (.mv (.t 2)),
Vg 15 12 true (.idx 1 (.t 13) (.t 14)),
Vg 16 12 true (.ld none (.t 15)),
Vg 17 12 true (.mv (.t 1)),
Vg 18 12 true (.call 98 [(.t 16),(.t 17)]),
V 19 (.pick (.t 12) (.t 18) (.k (.c (.b false)))),
V 6 (.mv (.t 19))]) (.ret))
def vf68 : VF := ⟨vf68c,vf68v,[(6,none)]⟩
theorem ok68 : chkF Try.prog Try.f68 vf68 = true := by kernel_rfl
theorem dr68 : drawsB vf68.body = true := by kernel_rfl
/-- loop.example/g00192/impl.Doms -/
def vf69v : List Nat := [0,1,2,4,5,6,7,8,9,12,24,25,26,31,32,33,34,51]
def vf69b0 : VC := .seq (.rg [V 34 (.bin .lt (.t 33) (.t 32))]) (.seq (.cond (.t 34) (.skip) (.exit 2)) (.seq (.block 3 (.seq (.rg [V 35 (.mv (.t 33)),
V 36 (.idx 1 (.t 31) (.t 33)),
V 37 (.ld none (.t 36)),
V 8 (.mv (.t 35)),
V 9 (.mv (.t 37))]) (.seq (.rg [V 38 (.mv (.t 9)),
V 39 (.mv (.t 38)),
Vg 40 39 true (.mv (.t 7)),
Vg 41 39 true (.mv (.t 8)),
Vg 42 39 true (.idx 1 (.t 40) (.t 41)),
Vg 43 39 true (.ld none (.t 42)),
Vg 44 39 true (.not (.t 43)),
V 45 (.pick (.t 39) (.t 44) (.k (.c (.b false)))),
V 46 (.mv (.t 45)),
Vg 47 46 true (.mv (.t 4)),
Vg 48 46 true (.mv (.t 6)),
Vg 49 46 true (.idx 1 (.t 47) (.t 48)),
Vg 50 46 true (.ld none (.t 49)),
V 51 (.pick (.t 46) (.t 50) (.k (.c (.b false))))]) (.cond (.t 51) (.rg [V 52 (.mv (.t 5)),
V 53 (.mv (.t 8)),
V 54 (.mv (.t 5)),
V 55 (.mv (.t 8)),
V 56 (.idx 1 (.t 54) (.t 55)),
V 57 (.ld none (.t 56)),
V 58 (.mv (.t 6)),
V 59 (.bsl 1 [.i 0] 1 [(0,1,(.t 58))]),
V 60 (.app 1 (.t 57) (.t 59)),
V 61 (.idx 1 (.t 52) (.t 53)),
Vn (.st 1 (.t 61) (.t 60))]) (.skip))))) (.rg [V 62 (.bin .add (.t 33) (.k (.c (.i 1)))),
V 33 (.mv (.t 62))])))
def vf69b1 : VC := .seq (.rg [V 26 (.bin .lt (.t 25) (.t 24))]) (.seq (.cond (.t 26) (.skip) (.exit 0)) (.seq (.block 1 (.seq (.rg [V 27 (.mv (.t 25)),
V 6 (.mv (.t 27))]) (.seq (.rg [V 28 (.ld (some 2) (.t 1)),
V 29 (.mv (.t 6)),
V 30 (.call 105 [(.t 28),(.t 29)]),
V 7 (.mv (.t 30))]) (.seq (.rg [V 31 (.mv (.t 4)),
V 32 (.len (.t 31)),
V 33 (.mv (.k (.c (.i 0))))]) (.block 2 (.loop vf69b0)))))) (.rg [V 63 (.bin .add (.t 25) (.k (.c (.i 1)))),
V 25 (.mv (.t 63))])))
def vf69c : VC := .seq (.rg [V 1 (.box (.t 0)),
V 2 (.mv (.k (.c .ns)))]) (.seq (.seq (.rg [V 10 (.ld (some 2) (.t 1)),
V 11 (.call 39 [(.t 10)]),
V 12 (.not (.t 11))]) (.cond (.t 12) (.seq (.rg [V 2 (.mv (.k (.c .ns)))]) (.ret)) (.skip))) (.seq (.rg [V 14 (.ld (some 2) (.t 1)),
V 15 (.call 65 [(.t 14)]),
V 13 (.mv (.t 15)),
V 16 (.ext 0 (.t 13)),
V 17 (.ext 1 (.t 13)),
V 3 (.mv (.t 16)),
V 4 (.mv (.t 17))]) (.seq (.rg [V 18 (.fad 0 (.t 1)),
V 19 (.ld none (.t 18)),
V 20 (.len (.t 19)),
V 21 (.mks 1 [.ns] (.t 20)),
V 5 (.mv (.t 21))]) (.seq (.seq (.rg [V 22 (.fad 0 (.t 1)),
V 23 (.ld none (.t 22)),
V 24 (.len (.t 23)),
V 25 (.mv (.k (.c (.i 0))))]) (.block 0 (.loop vf69b1))) (.seq (.rg [V 64 (.mv (.t 5)),
V 2 (.mv (.t 64))]) (.ret))))))
def vf69 : VF := ⟨vf69c,vf69v,[(2,none)]⟩
theorem ok69 : chkF Try.prog Try.f69 vf69 = true := by kernel_rfl
theorem dr69 : drawsB vf69.body = true := by kernel_rfl
/-- loop.example/g00192/spec.l3Has -/
def vf70v : List Nat := [0,1,4,5,9,17]
def vf70b0 : VC := .seq (.seq (.rg [V 6 (.mv (.t 5)),
V 7 (.mv (.t 0)),
V 8 (.len (.t 7)),
V 9 (.bin .lt (.t 6) (.t 8))]) (.cond (.t 9) (.skip) (.exit 0))) (.seq (.block 1 (.seq (.rg [V 12 (.mv (.t 0)),
V 13 (.mv (.t 5)),
V 14 (.idx 1 (.t 12) (.t 13)),
V 15 (.ld none (.t 14)),
V 16 (.mv (.t 1)),
V 17 (.bin .eq (.t 15) (.t 16))]) (.cond (.t 17) (.seq (.rg [V 4 (.mv (.k (.c (.b true))))]) (.ret)) (.skip)))) (.rg [V 10 (.mv (.t 5)),
V 11 (.bin .add (.t 10) (.k (.c (.i 1)))),
V 5 (.mv (.t 11))]))
def vf70c : VC := .seq (.rg [V 4 (.mv (.k (.c (.b false))))]) (.seq (.seq (.rg [V 5 (.mv (.k (.c (.i 0))))]) (.block 0 (.loop vf70b0))) (.seq (.rg [V 4 (.mv (.k (.c (.b false))))]) (.ret)))
def vf70 : VF := ⟨vf70c,vf70v,[(4,none)]⟩
theorem ok70 : chkF Try.prog Try.f70 vf70 = true := by kernel_rfl
theorem dr70 : drawsB vf70.body = true := by kernel_rfl
/-- loop.example/g00192/spec.l4Doms -/
def vf71v : List Nat := [0,1,2,3,4,5,6,7,24,34,53]
def vf71b0 : VC := .seq (.seq (.rg [V 30 (.mv (.t 7)),
V 31 (.fad 0 (.t 1)),
V 32 (.ld none (.t 31)),
V 33 (.len (.t 32)),
V 34 (.bin .lt (.t 30) (.t 33))]) (.cond (.t 34) (.skip) (.exit 2))) (.seq (.block 3 (.seq (.rg [V 37 (.mv (.t 4)),
V 38 (.mv (.t 5)),
V 39 (.idx 1 (.t 37) (.t 38)),
V 40 (.ld none (.t 39)),
V 41 (.mv (.t 40)),
Vg 42 41 true (.mv (.t 4)),
Vg 43 41 true (.mv (.t 7)),
Vg 44 41 true (.idx 1 (.t 42) (.t 43)),
Vg 45 41 true (.ld none (.t 44)),
V 46 (.pick (.t 41) (.t 45) (.k (.c (.b false)))),
V 47 (.mv (.t 46)),
Vg 48 47 true (.mv (.t 6)),
Vg 49 47 true (.mv (.t 7)),
Vg 50 47 true (.idx 1 (.t 48) (.t 49)),
Vg 51 47 true (.ld none (.t 50)),
Vg 52 47 true (.not (.t 51)),
V 53 (.pick (.t 47) (.t 52) (.k (.c (.b false))))]) (.cond (.t 53) (.rg [V 54 (.mv (.t 3)),
V 55 (.mv (.t 7)),
V 56 (.mv (.t 3)),
V 57 (.mv (.t 7)),
V 58 (.idx 1 (.t 56) (.t 57)),
V 59 (.ld none (.t 58)),
V 60 (.mv (.t 5)),
V 61 (.bsl 1 [.i 0] 1 [(0,1,(.t 60))]),
V 62 (.app 1 (.t 59) (.t 61)),
V 63 (.idx 1 (.t 54) (.t 55)),
Vn (.st 1 (.t 63) (.t 62))]) (.skip)))) (.rg [V 35 (.mv (.t 7)),
V 36 (.bin .add (.t 35) (.k (.c (.i 1)))),
V 7 (.mv (.t 36))]))
def vf71b1 : VC := .seq (.seq (.rg [V 20 (.mv (.t 5)),
V 21 (.fad 0 (.t 1)),
V 22 (.ld none (.t 21)),
V 23 (.len (.t 22)),
V 24 (.bin .lt (.t 20) (.t 23))]) (.cond (.t 24) (.skip) (.exit 0))) (.seq (.block 1 (.seq (.rg [V 27 (.ld (some 2) (.t 1)),
V 28 (.mv (.t 5)),
V 29 (.call 106 [(.t 27),(.t 28)]),
V 6 (.mv (.t 29))]) (.seq (.rg [V 7 (.mv (.k (.c (.i 0))))]) (.block 2 (.loop vf71b0))))) (.rg [V 25 (.mv (.t 5)),
V 26 (.bin .add (.t 25) (.k (.c (.i 1)))),
V 5 (.mv (.t 26))]))
def vf71c : VC := .seq (.rg [V 1 (.box (.t 0)),
V 2 (.mv (.k (.c .ns)))]) (.seq (.rg [V 8 (.fad 0 (.t 1)),
V 9 (.ld none (.t 8)),
V 10 (.len (.t 9)),
V 11 (.mks 1 [.ns] (.t 10)),
V 3 (.mv (.t 11))]) (.seq (.rg [V 12 (.fad 0 (.t 1)),
V 13 (.ld none (.t 12)),
V 14 (.len (.t 13)),
V 15 (.mks 1 [.b false] (.t 14)),
V 4 (.mv (.t 15))]) (.seq (.rg [V 16 (.ld (some 2) (.t 1)),
V 17 (.mv (.t 4)),
V 18 (.bsl 1 [.i 0] 0 []),
V 19 (.call 103 [(.t 16),(.k (.c (.i 0))),(.t 17),(.t 18)])]) (.seq (.seq (.rg [V 5 (.mv (.k (.c (.i 0))))]) (.block 0 (.loop vf71b1))) (.seq (.rg [V 64 (.mv (.t 3)),
V 2 (.mv (.t 64))]) (.ret))))))
def vf71 : VF := ⟨vf71c,vf71v,[(2,none)]⟩
theorem ok71 : chkF Try.prog Try.f71 vf71 = true := by kernel_rfl
theorem dr71 : drawsB vf71.body = true := by kernel_rfl
/-- loop.example/g00192/impl.in -/
def vf72v : List Nat := [0,1,2,6]
def vf72c : VC := .seq (.rg [V 6 (.mv (.k (.c (.b false))))]) (.seq (.rg [V 7 (.mv (.t 0)),
V 8 (.mv (.t 1)),
V 9 (.bin .ge (.t 7) (.t 8)),
V 10 (.mv (.t 9)),
Vg 11 10 true (.mv (.t 0)),
Vg 12 10 true (.mv (.t 2)),
Vg 13 10 true (.bin .le (.t 11) (.t 12)),
V 14 (.pick (.t 10) (.t 13) (.k (.c (.b false)))),
V 6 (.mv (.t 14))]) (.ret))
def vf72 : VF := ⟨vf72c,vf72v,[(6,none)]⟩
theorem ok72 : chkF Try.prog Try.f72 vf72 = true := by kernel_rfl
theorem dr72 : drawsB vf72.body = true := by kernel_rfl
/-- slices.DeleteFuncintint -/
def vf73v : List Nat := [0,1,4,5,6,7,12,19,29]
def vf73b0 : VC := .seq (.seq (.rg [V 16 (.mv (.t 6)),
V 17 (.mv (.t 0)),
V 18 (.len (.t 17)),
V 19 (.bin .lt (.t 16) (.t 18))]) (.cond (.t 19) (.skip) (.exit 0))) (.seq (.block 1 (.seq (.rg [V 22 (.mv (.t 0)),
V 23 (.mv (.t 6)),
V 24 (.idx 1 (.t 22) (.t 23)),
V 25 (.ld none (.t 24)),
V 7 (.mv (.t 25))]) (.seq (.rg [V 26 (.mv (.t 1)),
V 27 (.mv (.t 7)),
V 28 (.clv (.t 26) [(.t 27)]),
V 29 (.not (.t 28))]) (.cond (.t 29) (.seq (.rg [V 30 (.mv (.t 0)),
V 31 (.mv (.t 5)),
V 32 (.mv (.t 7)),
V 33 (.idx 1 (.t 30) (.t 31)),
Vn (.st 1 (.t 33) (.t 32))]) (.rg [V 34 (.mv (.t 5)),
V 35 (.bin .add (.t 34) (.k (.c (.i 1)))),
V 5 (.mv (.t 35))])) (.skip))))) (.rg [V 20 (.mv (.t 6)),
V 21 (.bin .add (.t 20) (.k (.c (.i 1)))),
V 6 (.mv (.t 21))]))
def vf73c : VC := .seq (.rg [V 4 (.mv (.k (.c .ns)))]) (.seq (.rg [V 8 (.mv (.t 0)),
V 9 (.mv (.t 1)),
V 10 (.call 107 [(.t 8),(.t 9)]),
V 5 (.mv (.t 10))]) (.seq (.seq (.rg [V 11 (.mv (.t 5)),
V 12 (.bin .eq (.t 11) (.k (.c (.i (-1)))))]) (.cond (.t 12) (.seq (.rg [V 13 (.mv (.t 0)),
V 4 (.mv (.t 13))]) (.ret)) (.skip))) (.seq (.seq (.rg [V 14 (.mv (.t 5)),
V 15 (.bin .add (.t 14) (.k (.c (.i 1)))),
V 6 (.mv (.t 15))]) (.block 0 (.loop vf73b0))) (.seq (.rg [V 36 (.mv (.t 0)),
V 37 (.mv (.t 5)),
V 38 (.slc 1 (.t 36) (some (.t 37)) none),
Vn (.clr 1 [.i 0] (.t 38))]) (.seq (.rg [V 39 (.mv (.t 0)),
V 40 (.mv (.t 5)),
V 41 (.slc 1 (.t 39) none (some (.t 40))),
V 4 (.mv (.t 41))]) (.ret))))))
def vf73 : VF := ⟨vf73c,vf73v,[(4,none)]⟩
theorem ok73 : chkF Try.prog Try.f73 vf73 = true := by kernel_rfl
theorem dr73 : drawsB vf73.body = true := by kernel_rfl
/-- slices.Cloneintint -/
def vf74v : List Nat := [0,2,4]
def vf74c : VC := .seq (.rg [V 2 (.mv (.k (.c .ns)))]) (.seq (.seq (.rg [V 3 (.mv (.t 0)),
V 4 (.eqn false (.t 3))]) (.cond (.t 4) (.seq (.rg [V 2 (.mv (.k (.c .ns)))]) (.ret)) (.skip))) (.seq (.rg [V 5 (.bsl 1 [.i 0] 0 []),
V 6 (.mv (.t 0)),
V 7 (.app 1 (.t 5) (.t 6)),
V 2 (.mv (.t 7))]) (.ret)))
def vf74 : VF := ⟨vf74c,vf74v,[(2,none)]⟩
theorem ok74 : chkF Try.prog Try.f74 vf74 = true := by kernel_rfl
theorem dr74 : drawsB vf74.body = true := by kernel_rfl
/-- loop.example/g00192/impl.Above$1 -/
def vf75v : List Nat := [0,1,3]
def vf75c : VC := .seq (.rg [V 3 (.mv (.k (.c (.b false))))]) (.seq (.rg [V 4 (.mv (.t 0)),
V 5 (.ld none (.t 1)),
V 6 (.bin .eq (.t 4) (.t 5)),
V 3 (.mv (.t 6))]) (.ret))
def vf75 : VF := ⟨vf75c,vf75v,[(3,none)]⟩
theorem ok75 : chkF Try.prog Try.f75 vf75 = true := by kernel_rfl
theorem dr75 : drawsB vf75.body = true := by kernel_rfl
/-- slices.ContainsFuncintint -/
def vf76v : List Nat := [0,1,4]
def vf76c : VC := .seq (.rg [V 4 (.mv (.k (.c (.b false))))]) (.seq (.rg [V 5 (.mv (.t 0)),
V 6 (.mv (.t 1)),
V 7 (.call 107 [(.t 5),(.t 6)]),
V 8 (.bin .ge (.t 7) (.k (.c (.i 0)))),
V 4 (.mv (.t 8))]) (.ret))
def vf76 : VF := ⟨vf76c,vf76v,[(4,none)]⟩
theorem ok76 : chkF Try.prog Try.f76 vf76 = true := by kernel_rfl
theorem dr76 : drawsB vf76.body = true := by kernel_rfl
/-- loop.example/g00192/impl.Above$2 -/
def vf77v : List Nat := [0,1,2,4]
def vf77c : VC := .seq (.rg [V 4 (.mv (.k (.c (.b false))))]) (.seq (.rg [V 5 (.ld none (.t 1)),
V 6 (.mv (.t 0)),
V 7 (.ld none (.t 2)),
V 8 (.call 68 [(.t 5),(.t 6),(.t 7)]),
V 9 (.not (.t 8)),
V 4 (.mv (.t 9))]) (.ret))
def vf77 : VF := ⟨vf77c,vf77v,[(4,none)]⟩
theorem ok77 : chkF Try.prog Try.f77 vf77 = true := by kernel_rfl
theorem dr77 : drawsB vf77.body = true := by kernel_rfl
/-- loop.example/g00192/spec.l6DrawAll -/
def vf78v : List Nat := [0,2,3,4,5,6,7]
def vf78c : VC := .seq (.rg [V 2 (.alloc [.ns,.i 0]),
V 3 (.mv (.k (.c .ns))),
V 4 (.mv (.k (.c (.i 0))))]) (.seq (.rg [V 8 (.mv (.t 0)),
V 9 (.call 52 [(.t 8)]),
V 5 (.mv (.t 9))]) (.seq (.rg [V 10 (.mv (.t 5)),
V 11 (.call 51 [(.t 10)]),
V 6 (.alloc [.ns,.i 0]),
Vn (.st 2 (.t 6) (.t 11))]) (.seq (.rg [V 12 (.mv (.t 5)),
V 13 (.call 108 [(.t 12)]),
V 7 (.mv (.t 13))]) (.seq (.rd [Vc [] [] true (V 14 (.ld (some 2) (.t 6))),
V 15 (.mv (.t 7)),
V 16 (.mv (.t 5)),
Vc [2] [0] false (V 17 (.call 109 [(.t 16)])),
Vd [0,3] (Vn (.st 2 (.t 2) (.t 14))),
Vd [1,4] (V 3 (.mv (.t 15))),
Vd [5] (V 4 (.mv (.t 17)))]) (.ret)))))
def vf78 : VF := ⟨vf78c,vf78v,[(2,(some (some 2))),(3,none),(4,none)]⟩
theorem ok78 : chkF Try.prog Try.f78 vf78 = true := by kernel_rfl
theorem dr78 : drawsB vf78.body = true := by kernel_rfl
/-- loop.example/g00192/impl.ran -/
def vf79v : List Nat := [0,1,2,3,6,7,8,9,18]
def vf79r0 : List VO := [V 20 (.ld (some 2) (.t 3)),V 21 (.fad 1 (.t 3)),Vd [1] (V 22 (.ld none (.t 21))),Vd [2] (V 23 (.mks 1 [.i 0] (.t 22))),V 24 (.mks 1 [.i 0] (.k (.c (.i 8)))),V 25 (.mv (.t 1)),V 26 (.mv (.t 2)),Vd [6] (V 27 (.mn (.t 26) (.k (.c (.i 5000))))),Vd [0,3,4,5,7] (V 28 (.build [.ns,.i 0,.ns,.ns,.ns,.i 0,.ns,.ns,.i 0] [(0,2,(.t 20)),(2,1,(.t 23)),(3,1,(.t 24)),(4,1,(.t 25)),(5,1,(.t 27))])),Vd [8] (V 29 (.box (.t 28))),Vd [9] (V 8 (.mv (.t 29)))]
def vf79t0 : VT := .split 3 4 (.leaf [(0,Vc [] [] true (V 20 (.ld (some 2) (.t 3)))),
(1,Vc [] [] false (V 21 (.fad 1 (.t 3)))),
(2,Vc [1] [] false (V 22 (.ld none (.t 21)))),
(3,Vc [2] [0] false (V 23 (.mks 1 [.i 0] (.t 22)))),
(4,Vc [] [0] false (V 24 (.mks 1 [.i 0] (.k (.c (.i 8)))))),
(5,Vc [] [] false (V 25 (.mv (.t 1)))),
(6,Vc [] [] false (V 26 (.mv (.t 2)))),
(7,Vc [6] [] false (V 27 (.mn (.t 26) (.k (.c (.i 5000)))))),
(8,Vc [0,3,4,5,7] [] false (V 28 (.build [.ns,.i 0,.ns,.ns,.ns,.i 0,.ns,.ns,.i 0] [(0,2,(.t 20)),(2,1,(.t 23)),(3,1,(.t 24)),(4,1,(.t 25)),(5,1,(.t 27))]))),
(9,Vc [8] [] false (V 29 (.box (.t 28)))),
(10,Vc [9] [] false (V 8 (.mv (.t 29))))]) (.leaf [(0,Vc [] [] true (V 20 (.ld (some 2) (.t 3)))),
(1,Vc [] [] false (V 21 (.fad 1 (.t 3)))),
(2,Vc [1] [] true (V 22 (.ld none (.t 21)))),
(4,Vc [] [0,2] false (V 24 (.mks 1 [.i 0] (.k (.c (.i 8)))))),
(3,Vc [2] [0] false (V 23 (.mks 1 [.i 0] (.t 22)))),
(5,Vc [] [] false (V 25 (.mv (.t 1)))),
(6,Vc [] [] false (V 26 (.mv (.t 2)))),
(7,Vc [6] [] false (V 27 (.mn (.t 26) (.k (.c (.i 5000)))))),
(8,Vc [0,3,4,5,7] [] false (V 28 (.build [.ns,.i 0,.ns,.ns,.ns,.i 0,.ns,.ns,.i 0] [(0,2,(.t 20)),(2,1,(.t 23)),(3,1,(.t 24)),(4,1,(.t 25)),(5,1,(.t 27))]))),
(9,Vc [8] [] false (V 29 (.box (.t 28)))),
(10,Vc [9] [] false (V 8 (.mv (.t 29))))])
def vf79c : VC := .seq (.rg [V 3 (.box (.t 0)),
V 6 (.mv (.k (.c .np))),
V 7 (.mv (.k (.c (.i 0))))]) (.seq (.rg [V 10 (.build [.ns,.i 0,.ns,.ns,.ns,.i 0,.ns,.ns,.i 0] []),
V 11 (.box (.t 10)),
V 8 (.mv (.t 11))]) (.seq (.seq (.rg [V 12 (.ld (some 2) (.t 3)),
V 13 (.call 39 [(.t 12)]),
V 14 (.not (.t 13)),
V 15 (.mv (.t 14)),
Vg 16 15 false (.mv (.t 2)),
Vg 17 15 false (.bin .lt (.t 16) (.k (.c (.i 0)))),
V 18 (.pick (.t 15) (.k (.c (.b true))) (.t 17))]) (.cond (.t 18) (.seq (.rg [V 19 (.mv (.t 8)),
V 6 (.mv (.t 19)),
V 7 (.mv (.k (.c (.i 3))))]) (.ret)) (.skip))) (.seq (.rx vf79r0 vf79t0) (.seq (.rg [V 30 (.mv (.t 8)),
V 31 (.call 110 [(.t 30)]),
V 9 (.mv (.t 31))]) (.seq (.rg [V 32 (.mv (.t 8)),
V 33 (.mv (.t 9)),
V 6 (.mv (.t 32)),
V 7 (.mv (.t 33))]) (.ret))))))
def vf79 : VF := ⟨vf79c,vf79v,[(6,none),(7,none)]⟩
theorem ok79 : chkF Try.prog Try.f79 vf79 = true := by kernel_rfl
theorem dr79 : drawsB vf79.body = true := by kernel_rfl
/-- loop.example/g00192/spec.l6New -/
def vf80v : List Nat := [0,1,2,6]
def vf80r0 : List VO := [V 7 (.mv (.t 0)),Vd [0] (V 8 (.mks 1 [.i 0] (.t 7))),V 9 (.mks 1 [.i 0] (.k (.c (.i 8)))),V 10 (.bsl 1 [.i 0] 0 []),V 11 (.mv (.t 1)),Vd [3,4] (V 12 (.app 1 (.t 10) (.t 11))),V 13 (.bsl 1 [.i 0] 0 []),V 14 (.bsl 1 [.i 0] 0 []),V 15 (.mv (.t 2)),Vd [5,8] (V 16 (.call 111 [(.t 15),(.k (.c (.i 5000)))])),Vd [1,2,6,7,9] (V 17 (.build [.ns,.ns,.ns,.ns,.ns,.i 0] [(0,1,(.t 8)),(1,1,(.t 9)),(2,1,(.t 12)),(3,1,(.t 13)),(4,1,(.t 14)),(5,1,(.t 16))])),Vd [10] (V 18 (.box (.t 17))),Vd [11] (V 6 (.mv (.t 18)))]
def vf80t0 : VT := .all vf80r0
def vf80c : VC := .seq (.rg [V 6 (.mv (.k (.c .np)))]) (.seq (.rx vf80r0 vf80t0) (.ret))
def vf80 : VF := ⟨vf80c,vf80v,[(6,none)]⟩
theorem ok80 : chkF Try.prog Try.f80 vf80 = true := by kernel_rfl
theorem dr80 : drawsB vf80.body = true := by kernel_rfl
end Go.Proofs.Ytnapgdlfeadhaaa.Vm
