/- The ideal machine's code for some of the program's functions, each checked against the translated one. No conditions. -/
import Derived.Test.YtnpbldjbfkpbcaaChecked
import Derived.Test.YtnpbldjbfkpbcaaVmQ
import Derived.Test.YtnpbldjbfkpbcaaVmC
namespace Go.Proofs.Ytnpbldjbfkpbcaa.Vm
set_option linter.unusedVariables false
set_option maxRecDepth 100000
/-- loop.example/g00192/spec.Word -/
def vf34v : List Nat := [0,1,2,6,7,8,13,18,23,28,33,38,44,50,56]
def vf34c : VC := .seq (.rg [V 6 (.mv (.k (.c (.i 0))))]) (.seq (.seq (.rg [V 7 (.mv (.t 0))]) (.block 0 (.seq (.rg [V 9 (.bin .eq (.t 7) (.k (.c (.i 1)))),
V 8 (.mv (.t 9))]) (.cond (.t 8) (.seq (.rg [V 10 (.mv (.t 1)),
V 11 (.mv (.t 2)),
V 12 (.bin .add (.t 10) (.t 11)),
V 6 (.mv (.t 12))]) (.ret)) (.seq (.rg [V 14 (.bin .eq (.t 7) (.k (.c (.i 2)))),
V 13 (.mv (.t 14))]) (.cond (.t 13) (.seq (.rg [V 15 (.mv (.t 1)),
V 16 (.mv (.t 2)),
V 17 (.bin .sub (.t 15) (.t 16)),
V 6 (.mv (.t 17))]) (.ret)) (.seq (.rg [V 19 (.bin .eq (.t 7) (.k (.c (.i 3)))),
V 18 (.mv (.t 19))]) (.cond (.t 18) (.seq (.rg [V 20 (.mv (.t 1)),
V 21 (.mv (.t 2)),
V 22 (.bin .mul (.t 20) (.t 21)),
V 6 (.mv (.t 22))]) (.ret)) (.seq (.rg [V 24 (.bin .eq (.t 7) (.k (.c (.i 4)))),
V 23 (.mv (.t 24))]) (.cond (.t 23) (.seq (.rg [V 25 (.mv (.t 1)),
V 26 (.mv (.t 2)),
V 27 (.bin .and (.t 25) (.t 26)),
V 6 (.mv (.t 27))]) (.ret)) (.seq (.rg [V 29 (.bin .eq (.t 7) (.k (.c (.i 5)))),
V 28 (.mv (.t 29))]) (.cond (.t 28) (.seq (.rg [V 30 (.mv (.t 1)),
V 31 (.mv (.t 2)),
V 32 (.bin .or (.t 30) (.t 31)),
V 6 (.mv (.t 32))]) (.ret)) (.seq (.rg [V 34 (.bin .eq (.t 7) (.k (.c (.i 6)))),
V 33 (.mv (.t 34))]) (.cond (.t 33) (.seq (.rg [V 35 (.mv (.t 1)),
V 36 (.mv (.t 2)),
V 37 (.bin .xor (.t 35) (.t 36)),
V 6 (.mv (.t 37))]) (.ret)) (.seq (.rg [V 39 (.bin .eq (.t 7) (.k (.c (.i 7)))),
V 38 (.mv (.t 39))]) (.cond (.t 38) (.seq (.rg [V 40 (.mv (.t 1)),
V 41 (.mv (.t 2)),
V 42 (.bin .lt (.t 40) (.t 41)),
V 43 (.call 92 [(.t 42)]),
V 6 (.mv (.t 43))]) (.ret)) (.seq (.rg [V 45 (.bin .eq (.t 7) (.k (.c (.i 8)))),
V 44 (.mv (.t 45))]) (.cond (.t 44) (.seq (.rg [V 46 (.mv (.t 1)),
V 47 (.mv (.t 2)),
V 48 (.bin .eq (.t 46) (.t 47)),
V 49 (.call 92 [(.t 48)]),
V 6 (.mv (.t 49))]) (.ret)) (.seq (.rg [V 51 (.bin .eq (.t 7) (.k (.c (.i 9)))),
V 50 (.mv (.t 51))]) (.cond (.t 50) (.seq (.rg [V 52 (.mv (.t 1)),
V 53 (.mv (.t 2)),
V 54 (.bin .and (.t 53) (.k (.c (.i 63)))),
V 55 (.bin .shl (.t 52) (.t 54)),
V 6 (.mv (.t 55))]) (.ret)) (.seq (.rg [V 57 (.bin .eq (.t 7) (.k (.c (.i 10)))),
V 56 (.mv (.t 57))]) (.cond (.t 56) (.seq (.rg [V 58 (.mv (.t 1)),
V 59 (.mv (.t 2)),
V 60 (.bin .and (.t 59) (.k (.c (.i 63)))),
V 61 (.bin .shr (.t 58) (.t 60)),
V 6 (.mv (.t 61))]) (.ret)) (.skip))))))))))))))))))))))) (.seq (.rg [V 6 (.mv (.k (.c (.i 0))))]) (.ret)))
def vf34 : VF := ⟨vf34c,vf34v,[(6,none)]⟩
theorem ok34 : chkF Try.prog Try.f34 vf34 = true := by kernel_rfl
theorem dr34 : drawsB vf34.body = true := by kernel_rfl
/-- loop.example/g00192/spec.WordOk -/
def vf35v : List Nat := [0,2]
def vf35c : VC := .seq (.rg [V 2 (.mv (.k (.c (.b false))))]) (.seq (.rg [V 3 (.mv (.t 0)),
V 4 (.call 93 [(.t 3),(.k (.c (.i 1))),(.k (.c (.i 10)))]),
V 2 (.mv (.t 4))]) (.ret))
def vf35 : VF := ⟨vf35c,vf35v,[(2,none)]⟩
theorem ok35 : chkF Try.prog Try.f35 vf35 = true := by kernel_rfl
theorem dr35 : drawsB vf35.body = true := by kernel_rfl
/-- loop.example/g00192/laws.szMoveS -/
def vf36v : List Nat := [0,1,4,10]
def vf36c : VC := .seq (.rg [V 4 (.mv (.k (.c (.i 0))))]) (.seq (.rg [V 5 (.mv (.t 1)),
V 6 (.mv (.t 0)),
V 7 (.len (.t 6)),
V 8 (.bin .sub (.t 5) (.t 7)),
V 1 (.mv (.t 8))]) (.seq (.seq (.rg [V 9 (.mv (.t 1)),
V 10 (.bin .lt (.t 9) (.k (.c (.i 0))))]) (.cond (.t 10) (.seq (.rg [V 4 (.mv (.k (.c (.i (-1)))))]) (.ret)) (.skip))) (.seq (.rg [V 11 (.mv (.t 1)),
V 4 (.mv (.t 11))]) (.ret))))
def vf36 : VF := ⟨vf36c,vf36v,[(4,none)]⟩
theorem ok36 : chkF Try.prog Try.f36 vf36 = true := by kernel_rfl
theorem dr36 : drawsB vf36.body = true := by kernel_rfl
/-- loop.example/g00192/spec.MovesEach -/
def vf37v : List Nat := [0,1,4,5,6,13,35]
def vf37b0 : VC := .seq (.seq (.rg [V 10 (.mv (.t 6)),
V 11 (.mv (.t 0)),
V 12 (.len (.t 11)),
V 13 (.bin .lt (.t 10) (.t 12))]) (.cond (.t 13) (.skip) (.exit 0))) (.seq (.block 1 (.seq (.rg [V 16 (.mv (.t 0)),
V 17 (.mv (.t 6)),
V 18 (.idx 2 (.t 16) (.t 17)),
V 19 (.fad 0 (.t 18)),
V 20 (.ld none (.t 19)),
V 21 (.mv (.t 1)),
V 22 (.len (.t 21)),
V 23 (.bin .sub (.t 22) (.k (.c (.i 1)))),
V 24 (.call 93 [(.t 20),(.k (.c (.i 0))),(.t 23)]),
V 25 (.mv (.t 24)),
Vg 26 25 true (.mv (.t 0)),
Vg 27 25 true (.mv (.t 6)),
Vg 28 25 true (.idx 2 (.t 26) (.t 27)),
Vg 29 25 true (.fad 1 (.t 28)),
Vg 30 25 true (.ld none (.t 29)),
Vg 31 25 true (.mv (.t 1)),
Vg 32 25 true (.len (.t 31)),
Vg 33 25 true (.bin .sub (.t 32) (.k (.c (.i 1)))),
Vg 34 25 true (.call 93 [(.t 30),(.k (.c (.i 0))),(.t 33)]),
V 35 (.pick (.t 25) (.t 34) (.k (.c (.b false))))]) (.cond (.t 35) (.rd [V 36 (.mv (.t 5)),
V 37 (.mv (.t 0)),
V 38 (.mv (.t 6)),
Vd [1,2] (V 39 (.idx 2 (.t 37) (.t 38))),
Vd [3] (V 40 (.fad 0 (.t 39))),
Vd [4] (V 41 (.ld none (.t 40))),
V 42 (.mv (.t 5)),
V 43 (.mv (.t 0)),
V 44 (.mv (.t 6)),
Vd [7,8] (V 45 (.idx 2 (.t 43) (.t 44))),
Vd [9] (V 46 (.fad 1 (.t 45))),
Vd [10] (V 47 (.ld none (.t 46))),
Vd [6,11] (V 48 (.idx 1 (.t 42) (.t 47))),
Vd [12] (V 49 (.ld none (.t 48))),
Vd [0,5,13] (V 50 (.idx 1 (.t 36) (.t 41))),
Vd [14] (Vn (.st 1 (.t 50) (.t 49)))]) (.skip)))) (.rg [V 14 (.mv (.t 6)),
V 15 (.bin .add (.t 14) (.k (.c (.i 1)))),
V 6 (.mv (.t 15))]))
def vf37c : VC := .seq (.rg [V 4 (.mv (.k (.c .ns)))]) (.seq (.rg [V 7 (.bsl 1 [.i 0] 0 []),
V 8 (.mv (.t 1)),
V 9 (.app 1 (.t 7) (.t 8)),
V 5 (.mv (.t 9))]) (.seq (.seq (.rg [V 6 (.mv (.k (.c (.i 0))))]) (.block 0 (.loop vf37b0))) (.seq (.rg [V 51 (.mv (.t 5)),
V 4 (.mv (.t 51))]) (.ret))))
def vf37 : VF := ⟨vf37c,vf37v,[(4,none)]⟩
theorem ok37 : chkF Try.prog Try.f37 vf37 = true := by kernel_rfl
theorem dr37 : drawsB vf37.body = true := by kernel_rfl
/-- loop.example/g00192/laws.toMoveS -/
def vf38v : List Nat := [0,2,3,4,11]
def vf38b0 : VC := .seq (.seq (.rg [V 8 (.mv (.t 4)),
V 9 (.mv (.t 0)),
V 10 (.len (.t 9)),
V 11 (.bin .lt (.t 8) (.t 10))]) (.cond (.t 11) (.skip) (.exit 0))) (.seq (.block 1 (.rg [V 14 (.mv (.t 3)),
V 15 (.mv (.t 4)),
V 16 (.mv (.t 0)),
V 17 (.mv (.t 4)),
V 18 (.idx 2 (.t 16) (.t 17)),
V 19 (.ld (some 2) (.t 18)),
V 20 (.call 94 [(.t 19)]),
V 21 (.idx 2 (.t 14) (.t 15)),
Vn (.st 2 (.t 21) (.t 20))])) (.rg [V 12 (.mv (.t 4)),
V 13 (.bin .add (.t 12) (.k (.c (.i 1)))),
V 4 (.mv (.t 13))]))
def vf38c : VC := .seq (.rg [V 2 (.mv (.k (.c .ns)))]) (.seq (.rg [V 5 (.mv (.t 0)),
V 6 (.len (.t 5)),
V 7 (.mks 2 [.i 0,.i 0] (.t 6)),
V 3 (.mv (.t 7))]) (.seq (.seq (.rg [V 4 (.mv (.k (.c (.i 0))))]) (.block 0 (.loop vf38b0))) (.seq (.rg [V 22 (.mv (.t 3)),
V 2 (.mv (.t 22))]) (.ret))))
def vf38 : VF := ⟨vf38c,vf38v,[(2,none)]⟩
theorem ok38 : chkF Try.prog Try.f38 vf38 = true := by kernel_rfl
theorem dr38 : drawsB vf38.body = true := by kernel_rfl
/-- loop.example/g00192/laws.toIntS -/
def vf39v : List Nat := [0,2,3,4,11]
def vf39b0 : VC := .seq (.seq (.rg [V 8 (.mv (.t 4)),
V 9 (.mv (.t 0)),
V 10 (.len (.t 9)),
V 11 (.bin .lt (.t 8) (.t 10))]) (.cond (.t 11) (.skip) (.exit 0))) (.seq (.block 1 (.rg [V 14 (.mv (.t 3)),
V 15 (.mv (.t 4)),
V 16 (.mv (.t 0)),
V 17 (.mv (.t 4)),
V 18 (.idx 1 (.t 16) (.t 17)),
V 19 (.ld none (.t 18)),
V 20 (.idx 1 (.t 14) (.t 15)),
Vn (.st 1 (.t 20) (.t 19))])) (.rg [V 12 (.mv (.t 4)),
V 13 (.bin .add (.t 12) (.k (.c (.i 1)))),
V 4 (.mv (.t 13))]))
def vf39c : VC := .seq (.rg [V 2 (.mv (.k (.c .ns)))]) (.seq (.rg [V 5 (.mv (.t 0)),
V 6 (.len (.t 5)),
V 7 (.mks 1 [.i 0] (.t 6)),
V 3 (.mv (.t 7))]) (.seq (.seq (.rg [V 4 (.mv (.k (.c (.i 0))))]) (.block 0 (.loop vf39b0))) (.seq (.rg [V 21 (.mv (.t 3)),
V 2 (.mv (.t 21))]) (.ret))))
def vf39 : VF := ⟨vf39c,vf39v,[(2,none)]⟩
theorem ok39 : chkF Try.prog Try.f39 vf39 = true := by kernel_rfl
theorem dr39 : drawsB vf39.body = true := by kernel_rfl
/-- loop.example/g00192/laws.eqIntS -/
def vf40v : List Nat := [0,1,4,5,10,14,25]
def vf40b0 : VC := .seq (.seq (.rg [V 11 (.mv (.t 5)),
V 12 (.mv (.t 0)),
V 13 (.len (.t 12)),
V 14 (.bin .lt (.t 11) (.t 13))]) (.cond (.t 14) (.skip) (.exit 0))) (.seq (.block 1 (.seq (.rd [V 17 (.mv (.t 0)),
V 18 (.mv (.t 5)),
Vd [0,1] (V 19 (.idx 1 (.t 17) (.t 18))),
Vd [2] (V 20 (.ld none (.t 19))),
V 21 (.mv (.t 1)),
V 22 (.mv (.t 5)),
Vd [4,5] (V 23 (.idx 1 (.t 21) (.t 22))),
Vd [6] (V 24 (.ld none (.t 23))),
Vd [3,7] (V 25 (.bin .ne (.t 20) (.t 24)))]) (.cond (.t 25) (.seq (.rg [V 4 (.mv (.k (.c (.b false))))]) (.ret)) (.skip)))) (.rg [V 15 (.mv (.t 5)),
V 16 (.bin .add (.t 15) (.k (.c (.i 1)))),
V 5 (.mv (.t 16))]))
def vf40c : VC := .seq (.rg [V 4 (.mv (.k (.c (.b false))))]) (.seq (.seq (.rg [V 6 (.mv (.t 0)),
V 7 (.len (.t 6)),
V 8 (.mv (.t 1)),
V 9 (.len (.t 8)),
V 10 (.bin .ne (.t 7) (.t 9))]) (.cond (.t 10) (.seq (.rg [V 4 (.mv (.k (.c (.b false))))]) (.ret)) (.skip))) (.seq (.seq (.rg [V 5 (.mv (.k (.c (.i 0))))]) (.block 0 (.loop vf40b0))) (.seq (.rg [V 4 (.mv (.k (.c (.b true))))]) (.ret))))
def vf40 : VF := ⟨vf40c,vf40v,[(4,none)]⟩
theorem ok40 : chkF Try.prog Try.f40 vf40 = true := by kernel_rfl
theorem dr40 : drawsB vf40.body = true := by kernel_rfl
/-- loop.example/g00192/laws.eqMoveS -/
def vf41v : List Nat := [0,1,4,5,10,14,26]
def vf41b0 : VC := .seq (.seq (.rg [V 11 (.mv (.t 5)),
V 12 (.mv (.t 0)),
V 13 (.len (.t 12)),
V 14 (.bin .lt (.t 11) (.t 13))]) (.cond (.t 14) (.skip) (.exit 0))) (.seq (.block 1 (.seq (.rd [V 17 (.mv (.t 0)),
V 18 (.mv (.t 5)),
Vd [0,1] (V 19 (.idx 2 (.t 17) (.t 18))),
Vd [2] (V 20 (.ld (some 2) (.t 19))),
V 21 (.mv (.t 1)),
V 22 (.mv (.t 5)),
Vd [4,5] (V 23 (.idx 2 (.t 21) (.t 22))),
Vd [6] (V 24 (.ld (some 2) (.t 23))),
Vd [3,7] (V 25 (.call 95 [(.t 20),(.t 24)])),
Vd [8] (V 26 (.not (.t 25)))]) (.cond (.t 26) (.seq (.rg [V 4 (.mv (.k (.c (.b false))))]) (.ret)) (.skip)))) (.rg [V 15 (.mv (.t 5)),
V 16 (.bin .add (.t 15) (.k (.c (.i 1)))),
V 5 (.mv (.t 16))]))
def vf41c : VC := .seq (.rg [V 4 (.mv (.k (.c (.b false))))]) (.seq (.seq (.rg [V 6 (.mv (.t 0)),
V 7 (.len (.t 6)),
V 8 (.mv (.t 1)),
V 9 (.len (.t 8)),
V 10 (.bin .ne (.t 7) (.t 9))]) (.cond (.t 10) (.seq (.rg [V 4 (.mv (.k (.c (.b false))))]) (.ret)) (.skip))) (.seq (.seq (.rg [V 5 (.mv (.k (.c (.i 0))))]) (.block 0 (.loop vf41b0))) (.seq (.rg [V 4 (.mv (.k (.c (.b true))))]) (.ret))))
def vf41 : VF := ⟨vf41c,vf41v,[(4,none)]⟩
theorem ok41 : chkF Try.prog Try.f41 vf41 = true := by kernel_rfl
theorem dr41 : drawsB vf41.body = true := by kernel_rfl
/-- loop.example/g00192/laws.markMoveS -/
def vf42v : List Nat := [0,1,4,5,9]
def vf42b0 : VC := .seq (.seq (.rg [V 6 (.mv (.t 5)),
V 7 (.mv (.t 0)),
V 8 (.len (.t 7)),
V 9 (.bin .lt (.t 6) (.t 8))]) (.cond (.t 9) (.skip) (.exit 0))) (.seq (.block 1 (.seq (.rg [V 12 (.mv (.t 0)),
V 13 (.mv (.t 5)),
V 14 (.mv (.t 1)),
V 15 (.idx 2 (.t 12) (.t 13)),
V 16 (.fad 0 (.t 15)),
Vn (.st 1 (.t 16) (.t 14))]) (.seq (.rg [V 17 (.mv (.t 1)),
V 18 (.bin .add (.t 17) (.k (.c (.i 1)))),
V 1 (.mv (.t 18))]) (.seq (.rg [V 19 (.mv (.t 0)),
V 20 (.mv (.t 5)),
V 21 (.mv (.t 1)),
V 22 (.idx 2 (.t 19) (.t 20)),
V 23 (.fad 1 (.t 22)),
Vn (.st 1 (.t 23) (.t 21))]) (.rg [V 24 (.mv (.t 1)),
V 25 (.bin .add (.t 24) (.k (.c (.i 1)))),
V 1 (.mv (.t 25))]))))) (.rg [V 10 (.mv (.t 5)),
V 11 (.bin .add (.t 10) (.k (.c (.i 1)))),
V 5 (.mv (.t 11))]))
def vf42c : VC := .seq (.rg [V 4 (.mv (.k (.c (.i 0))))]) (.seq (.seq (.rg [V 5 (.mv (.k (.c (.i 0))))]) (.block 0 (.loop vf42b0))) (.seq (.rg [V 26 (.mv (.t 1)),
V 4 (.mv (.t 26))]) (.ret)))
def vf42 : VF := ⟨vf42c,vf42v,[(4,none)]⟩
theorem ok42 : chkF Try.prog Try.f42 vf42 = true := by kernel_rfl
theorem dr42 : drawsB vf42.body = true := by kernel_rfl
/-- loop.example/g00192/laws.markIntS -/
def vf43v : List Nat := [0,1,4,5,9]
def vf43b0 : VC := .seq (.seq (.rg [V 6 (.mv (.t 5)),
V 7 (.mv (.t 0)),
V 8 (.len (.t 7)),
V 9 (.bin .lt (.t 6) (.t 8))]) (.cond (.t 9) (.skip) (.exit 0))) (.seq (.block 1 (.seq (.rg [V 12 (.mv (.t 0)),
V 13 (.mv (.t 5)),
V 14 (.mv (.t 1)),
V 15 (.idx 1 (.t 12) (.t 13)),
Vn (.st 1 (.t 15) (.t 14))]) (.rg [V 16 (.mv (.t 1)),
V 17 (.bin .add (.t 16) (.k (.c (.i 1)))),
V 1 (.mv (.t 17))]))) (.rg [V 10 (.mv (.t 5)),
V 11 (.bin .add (.t 10) (.k (.c (.i 1)))),
V 5 (.mv (.t 11))]))
def vf43c : VC := .seq (.rg [V 4 (.mv (.k (.c (.i 0))))]) (.seq (.seq (.rg [V 5 (.mv (.k (.c (.i 0))))]) (.block 0 (.loop vf43b0))) (.seq (.rg [V 18 (.mv (.t 1)),
V 4 (.mv (.t 18))]) (.ret)))
def vf43 : VF := ⟨vf43c,vf43v,[(4,none)]⟩
theorem ok43 : chkF Try.prog Try.f43 vf43 = true := by kernel_rfl
theorem dr43 : drawsB vf43.body = true := by kernel_rfl
/-- loop.example/g00192/laws.heldIntS -/
def vf44v : List Nat := [0,1,4,5,9,17]
def vf44b0 : VC := .seq (.seq (.rg [V 6 (.mv (.t 5)),
V 7 (.mv (.t 0)),
V 8 (.len (.t 7)),
V 9 (.bin .lt (.t 6) (.t 8))]) (.cond (.t 9) (.skip) (.exit 0))) (.seq (.block 1 (.seq (.seq (.rg [V 12 (.mv (.t 0)),
V 13 (.mv (.t 5)),
V 14 (.idx 1 (.t 12) (.t 13)),
V 15 (.ld none (.t 14)),
V 16 (.mv (.t 1)),
V 17 (.bin .ne (.t 15) (.t 16))]) (.cond (.t 17) (.seq (.rg [V 4 (.mv (.k (.c (.i (-1)))))]) (.ret)) (.skip))) (.rg [V 18 (.mv (.t 1)),
V 19 (.bin .add (.t 18) (.k (.c (.i 1)))),
V 1 (.mv (.t 19))]))) (.rg [V 10 (.mv (.t 5)),
V 11 (.bin .add (.t 10) (.k (.c (.i 1)))),
V 5 (.mv (.t 11))]))
def vf44c : VC := .seq (.rg [V 4 (.mv (.k (.c (.i 0))))]) (.seq (.seq (.rg [V 5 (.mv (.k (.c (.i 0))))]) (.block 0 (.loop vf44b0))) (.seq (.rg [V 20 (.mv (.t 1)),
V 4 (.mv (.t 20))]) (.ret)))
def vf44 : VF := ⟨vf44c,vf44v,[(4,none)]⟩
theorem ok44 : chkF Try.prog Try.f44 vf44 = true := by kernel_rfl
theorem dr44 : drawsB vf44.body = true := by kernel_rfl
/-- loop.example/g00192/spec.DrawDoms -/
def vf45v : List Nat := [0,2]
def vf45c : VC := .seq (.rg [V 2 (.alloc [.ns,.i 0])]) (.seq (.rg [V 3 (.mv (.t 0)),
V 4 (.call 84 [(.t 3)]),
V 5 (.call 96 [(.t 4)]),
Vn (.st 2 (.t 2) (.t 5))]) (.ret))
def vf45 : VF := ⟨vf45c,vf45v,[(2,(some (some 2)))]⟩
theorem ok45 : chkF Try.prog Try.f45 vf45 = true := by kernel_rfl
theorem dr45 : drawsB vf45.body = true := by kernel_rfl
/-- loop.example/g00192/impl.Doms -/
def vf46v : List Nat := [0,1,2,4,5,6,7,8,9,12,24,25,26,31,32,33,34,51]
def vf46b0 : VC := .seq (.rg [V 34 (.bin .lt (.t 33) (.t 32))]) (.seq (.cond (.t 34) (.skip) (.exit 2)) (.seq (.block 3 (.seq (.rg [V 35 (.mv (.t 33)),
V 36 (.idx 1 (.t 31) (.t 33)),
V 37 (.ld none (.t 36)),
V 8 (.mv (.t 35)),
V 9 (.mv (.t 37))]) (.seq (.rg [V 38 (.mv (.t 9)),
V 39 (.mv (.t 38)),
Vg 40 39 true (.mv (.t 7)),
Vg 41 39 true (.mv (.t 8)),
Vg 42 39 true (.idx 1 (.t 40) (.t 41)),
Vg 43 39 true (.ld none (.t 42)),
Vg 44 39 true (.not (.t 43)),
V 45 (.pick (.t 39) (.t 44) (.k (.c (.b false)))),
V 46 (.mv (.t 45)),
Vg 47 46 true (.mv (.t 4)),
Vg 48 46 true (.mv (.t 6)),
Vg 49 46 true (.idx 1 (.t 47) (.t 48)),
Vg 50 46 true (.ld none (.t 49)),
V 51 (.pick (.t 46) (.t 50) (.k (.c (.b false))))]) (.cond (.t 51) (.rg [V 52 (.mv (.t 5)),
V 53 (.mv (.t 8)),
V 54 (.mv (.t 5)),
V 55 (.mv (.t 8)),
V 56 (.idx 1 (.t 54) (.t 55)),
V 57 (.ld none (.t 56)),
V 58 (.mv (.t 6)),
V 59 (.bsl 1 [.i 0] 1 [(0,1,(.t 58))]),
V 60 (.app 1 (.t 57) (.t 59)),
V 61 (.idx 1 (.t 52) (.t 53)),
Vn (.st 1 (.t 61) (.t 60))]) (.skip))))) (.rg [V 62 (.bin .add (.t 33) (.k (.c (.i 1)))),
V 33 (.mv (.t 62))])))
def vf46b1 : VC := .seq (.rg [V 26 (.bin .lt (.t 25) (.t 24))]) (.seq (.cond (.t 26) (.skip) (.exit 0)) (.seq (.block 1 (.seq (.rg [V 27 (.mv (.t 25)),
V 6 (.mv (.t 27))]) (.seq (.rg [V 28 (.ld (some 2) (.t 1)),
V 29 (.mv (.t 6)),
V 30 (.call 99 [(.t 28),(.t 29)]),
V 7 (.mv (.t 30))]) (.seq (.rg [V 31 (.mv (.t 4)),
V 32 (.len (.t 31)),
V 33 (.mv (.k (.c (.i 0))))]) (.block 2 (.loop vf46b0)))))) (.rg [V 63 (.bin .add (.t 25) (.k (.c (.i 1)))),
V 25 (.mv (.t 63))])))
def vf46c : VC := .seq (.rg [V 1 (.box (.t 0)),
V 2 (.mv (.k (.c .ns)))]) (.seq (.seq (.rg [V 10 (.ld (some 2) (.t 1)),
V 11 (.call 97 [(.t 10)]),
V 12 (.not (.t 11))]) (.cond (.t 12) (.seq (.rg [V 2 (.mv (.k (.c .ns)))]) (.ret)) (.skip))) (.seq (.rg [V 14 (.ld (some 2) (.t 1)),
V 15 (.call 98 [(.t 14)]),
V 13 (.mv (.t 15)),
V 16 (.ext 0 (.t 13)),
V 17 (.ext 1 (.t 13)),
V 3 (.mv (.t 16)),
V 4 (.mv (.t 17))]) (.seq (.rg [V 18 (.fad 0 (.t 1)),
V 19 (.ld none (.t 18)),
V 20 (.len (.t 19)),
V 21 (.mks 1 [.ns] (.t 20)),
V 5 (.mv (.t 21))]) (.seq (.seq (.rg [V 22 (.fad 0 (.t 1)),
V 23 (.ld none (.t 22)),
V 24 (.len (.t 23)),
V 25 (.mv (.k (.c (.i 0))))]) (.block 0 (.loop vf46b1))) (.seq (.rg [V 64 (.mv (.t 5)),
V 2 (.mv (.t 64))]) (.ret))))))
def vf46 : VF := ⟨vf46c,vf46v,[(2,none)]⟩
theorem ok46 : chkF Try.prog Try.f46 vf46 = true := by kernel_rfl
theorem dr46 : drawsB vf46.body = true := by kernel_rfl
/-- loop.example/g00192/spec.Doms -/
def vf47v : List Nat := [0,1,2,5]
def vf47c : VC := .seq (.rg [V 1 (.box (.t 0)),
V 2 (.mv (.k (.c .ns)))]) (.seq (.seq (.rg [V 3 (.ld (some 2) (.t 1)),
V 4 (.call 100 [(.t 3)]),
V 5 (.not (.t 4))]) (.cond (.t 5) (.seq (.rg [V 6 (.bsl 1 [.ns] 0 []),
V 2 (.mv (.t 6))]) (.ret)) (.skip))) (.seq (.rg [V 7 (.ld (some 2) (.t 1)),
V 8 (.call 101 [(.t 7)]),
V 2 (.mv (.t 8))]) (.ret)))
def vf47 : VF := ⟨vf47c,vf47v,[(2,none)]⟩
theorem ok47 : chkF Try.prog Try.f47 vf47 = true := by kernel_rfl
theorem dr47 : drawsB vf47.body = true := by kernel_rfl
/-- loop.example/g00192/impl.Reached -/
def vf48v : List Nat := [0,1,2,4,7]
def vf48c : VC := .seq (.rg [V 1 (.box (.t 0)),
V 2 (.mv (.k (.c .ns)))]) (.seq (.seq (.rg [V 5 (.ld (some 2) (.t 1)),
V 6 (.call 97 [(.t 5)]),
V 7 (.not (.t 6))]) (.cond (.t 7) (.seq (.rg [V 2 (.mv (.k (.c .ns)))]) (.ret)) (.skip))) (.seq (.rg [V 9 (.ld (some 2) (.t 1)),
V 10 (.call 98 [(.t 9)]),
V 8 (.mv (.t 10)),
V 11 (.ext 0 (.t 8)),
V 12 (.ext 1 (.t 8)),
V 3 (.mv (.t 11)),
V 4 (.mv (.t 12))]) (.seq (.rg [V 13 (.mv (.t 4)),
V 2 (.mv (.t 13))]) (.ret))))
def vf48 : VF := ⟨vf48c,vf48v,[(2,none)]⟩
theorem ok48 : chkF Try.prog Try.f48 vf48 = true := by kernel_rfl
theorem dr48 : drawsB vf48.body = true := by kernel_rfl
/-- loop.example/g00192/laws.within -/
def vf49v : List Nat := [0,1,4,5,9,17]
def vf49b0 : VC := .seq (.seq (.rg [V 6 (.mv (.t 5)),
V 7 (.mv (.t 0)),
V 8 (.len (.t 7)),
V 9 (.bin .lt (.t 6) (.t 8))]) (.cond (.t 9) (.skip) (.exit 0))) (.seq (.block 1 (.seq (.rg [V 12 (.mv (.t 0)),
V 13 (.mv (.t 5)),
V 14 (.idx 1 (.t 12) (.t 13)),
V 15 (.ld none (.t 14)),
V 16 (.mv (.t 1)),
V 17 (.bin .eq (.t 15) (.t 16))]) (.cond (.t 17) (.seq (.rg [V 4 (.mv (.k (.c (.b true))))]) (.ret)) (.skip)))) (.rg [V 10 (.mv (.t 5)),
V 11 (.bin .add (.t 10) (.k (.c (.i 1)))),
V 5 (.mv (.t 11))]))
def vf49c : VC := .seq (.rg [V 4 (.mv (.k (.c (.b false))))]) (.seq (.seq (.rg [V 5 (.mv (.k (.c (.i 0))))]) (.block 0 (.loop vf49b0))) (.seq (.rg [V 4 (.mv (.k (.c (.b false))))]) (.ret)))
def vf49 : VF := ⟨vf49c,vf49v,[(4,none)]⟩
theorem ok49 : chkF Try.prog Try.f49 vf49 = true := by kernel_rfl
theorem dr49 : drawsB vf49.body = true := by kernel_rfl
/-- loop.example/g00192/impl.Preds -/
def vf50v : List Nat := [0,1,2,4,8]
def vf50c : VC := .seq (.rg [V 2 (.box (.t 0)),
V 4 (.mv (.k (.c .ns)))]) (.seq (.seq (.rg [V 5 (.ld (some 2) (.t 2)),
V 6 (.mv (.t 1)),
V 7 (.call 102 [(.t 5),(.t 6)]),
V 8 (.not (.t 7))]) (.cond (.t 8) (.seq (.rg [V 4 (.mv (.k (.c .ns)))]) (.ret)) (.skip))) (.seq (.rg [V 9 (.ld (some 2) (.t 2)),
V 10 (.mv (.t 1)),
V 11 (.call 103 [(.t 9),(.t 10)]),
V 4 (.mv (.t 11))]) (.ret)))
def vf50 : VF := ⟨vf50c,vf50v,[(4,none)]⟩
theorem ok50 : chkF Try.prog Try.f50 vf50 = true := by kernel_rfl
theorem dr50 : drawsB vf50.body = true := by kernel_rfl
/-- loop.example/g00192/spec.DrawMovesEach -/
def vf51v : List Nat := [0,2,3,4,5]
def vf51c : VC := .seq (.rg [V 2 (.mv (.k (.c .ns))),
V 3 (.mv (.k (.c .ns)))]) (.seq (.rg [V 7 (.mv (.t 0)),
V 8 (.call 72 [(.t 7)]),
V 6 (.mv (.t 8)),
V 9 (.ext 0 (.t 6)),
V 10 (.ext 1 (.t 6)),
V 4 (.mv (.t 9)),
V 5 (.mv (.t 10))]) (.seq (.rg [V 11 (.mv (.t 4)),
V 12 (.mv (.t 5)),
V 2 (.mv (.t 11)),
V 3 (.mv (.t 12))]) (.ret)))
def vf51 : VF := ⟨vf51c,vf51v,[(2,none),(3,none)]⟩
theorem ok51 : chkF Try.prog Try.f51 vf51 = true := by kernel_rfl
theorem dr51 : drawsB vf51.body = true := by kernel_rfl
/-- loop.example/g00192/laws.at -/
def vf52v : List Nat := [0,1,4,8]
def vf52c : VC := .seq (.rg [V 4 (.mv (.k (.c (.i 0))))]) (.seq (.seq (.rg [V 5 (.mv (.t 1)),
V 6 (.mv (.t 0)),
V 7 (.len (.t 6)),
V 8 (.bin .lt (.t 5) (.t 7))]) (.cond (.t 8) (.seq (.rg [V 9 (.mv (.t 0)),
V 10 (.mv (.t 1)),
V 11 (.idx 1 (.t 9) (.t 10)),
V 12 (.ld none (.t 11)),
V 13 (.b2i (.t 12)),
V 4 (.mv (.t 13))]) (.ret)) (.skip))) (.seq (.rg [V 14 (.mv (.t 1)),
V 15 (.bin .mul (.t 14) (.k (.c (.i 7)))),
V 16 (.mv (.t 0)),
V 17 (.len (.t 16)),
V 18 (.bin .add (.t 15) (.t 17)),
V 19 (.bin .rem (.t 18) (.k (.c (.i 256)))),
V 4 (.mv (.t 19))]) (.ret)))
def vf52 : VF := ⟨vf52c,vf52v,[(4,none)]⟩
theorem ok52 : chkF Try.prog Try.f52 vf52 = true := by kernel_rfl
theorem dr52 : drawsB vf52.body = true := by kernel_rfl
/-- loop.example/g00192/spec.DrawInsUses -/
def vf53v : List Nat := [0,2]
def vf53c : VC := .seq (.rg [V 2 (.alloc [.i 0,.i 0,.i 0,.i 0,.i 0])]) (.seq (.rg [V 3 (.mv (.t 0)),
V 4 (.call 84 [(.t 3)]),
V 5 (.call 104 [(.t 4)]),
Vn (.st 5 (.t 2) (.t 5))]) (.ret))
def vf53 : VF := ⟨vf53c,vf53v,[(2,(some (some 5)))]⟩
theorem ok53 : chkF Try.prog Try.f53 vf53 = true := by kernel_rfl
theorem dr53 : drawsB vf53.body = true := by kernel_rfl
/-- loop.example/g00192/impl.InsUses -/
def vf54v : List Nat := [0,1,2,3,7,15]
def vf54c : VC := .seq (.rg [V 1 (.box (.t 0)),
V 2 (.mv (.k (.c .ns)))]) (.seq (.rg [V 4 (.bsl 1 [.i 0] 0 []),
V 3 (.mv (.t 4))]) (.seq (.seq (.rg [V 5 (.fad 0 (.t 1)),
V 6 (.ld none (.t 5)),
V 7 (.call 105 [(.t 6),(.k (.c (.y 65)))])]) (.cond (.t 7) (.rg [V 8 (.mv (.t 3)),
V 9 (.fad 2 (.t 1)),
V 10 (.ld none (.t 9)),
V 11 (.bsl 1 [.i 0] 1 [(0,1,(.t 10))]),
V 12 (.app 1 (.t 8) (.t 11)),
V 3 (.mv (.t 12))]) (.skip))) (.seq (.seq (.rg [V 13 (.fad 0 (.t 1)),
V 14 (.ld none (.t 13)),
V 15 (.call 105 [(.t 14),(.k (.c (.y 66)))])]) (.cond (.t 15) (.rg [V 16 (.mv (.t 3)),
V 17 (.fad 3 (.t 1)),
V 18 (.ld none (.t 17)),
V 19 (.bsl 1 [.i 0] 1 [(0,1,(.t 18))]),
V 20 (.app 1 (.t 16) (.t 19)),
V 3 (.mv (.t 20))]) (.skip))) (.seq (.rg [V 21 (.mv (.t 3)),
V 2 (.mv (.t 21))]) (.ret)))))
def vf54 : VF := ⟨vf54c,vf54v,[(2,none)]⟩
theorem ok54 : chkF Try.prog Try.f54 vf54 = true := by kernel_rfl
theorem dr54 : drawsB vf54.body = true := by kernel_rfl
/-- loop.example/g00192/impl.InsDef -/
def vf55v : List Nat := [0,1,2,5]
def vf55c : VC := .seq (.rg [V 1 (.box (.t 0)),
V 2 (.mv (.k (.c (.i 0))))]) (.seq (.seq (.rg [V 3 (.fad 0 (.t 1)),
V 4 (.ld none (.t 3)),
V 5 (.call 105 [(.t 4),(.k (.c (.y 68)))])]) (.cond (.t 5) (.seq (.rg [V 6 (.fad 1 (.t 1)),
V 7 (.ld none (.t 6)),
V 2 (.mv (.t 7))]) (.ret)) (.skip))) (.seq (.rg [V 2 (.mv (.k (.c (.i (-1)))))]) (.ret)))
def vf55 : VF := ⟨vf55c,vf55v,[(2,none)]⟩
theorem ok55 : chkF Try.prog Try.f55 vf55 = true := by kernel_rfl
theorem dr55 : drawsB vf55.body = true := by kernel_rfl
/-- loop.example/g00192/spec.DrawTermUses -/
def vf56v : List Nat := [0,2,3]
def vf56c : VC := .seq (.rg [V 2 (.alloc [.i 0,.i 0,.i 0,.i 0])]) (.seq (.rg [V 4 (.mv (.t 0)),
V 5 (.call 84 [(.t 4)]),
V 3 (.mv (.t 5))]) (.seq (.rg [V 6 (.mv (.t 3)),
V 7 (.call 83 [(.t 6),(.k (.c (.i 5)))]),
V 8 (.mv (.t 3)),
V 9 (.call 83 [(.t 8),(.k (.c (.i 9)))]),
V 10 (.mv (.t 3)),
V 11 (.call 83 [(.t 10),(.k (.c (.i 5)))]),
V 12 (.mv (.t 3)),
V 13 (.call 83 [(.t 12),(.k (.c (.i 5)))]),
V 14 (.build [.i 0,.i 0,.i 0,.i 0] [(0,1,(.t 7)),(1,1,(.t 9)),(2,1,(.t 11)),(3,1,(.t 13))]),
Vn (.st 4 (.t 2) (.t 14))]) (.ret)))
def vf56 : VF := ⟨vf56c,vf56v,[(2,(some (some 4)))]⟩
theorem ok56 : chkF Try.prog Try.f56 vf56 = true := by kernel_rfl
theorem dr56 : drawsB vf56.body = true := by kernel_rfl
/-- loop.example/g00192/impl.TermUses -/
def vf57v : List Nat := [0,1,2,10]
def vf57c : VC := .seq (.rg [V 1 (.box (.t 0)),
V 2 (.mv (.k (.c .ns)))]) (.seq (.seq (.rg [V 3 (.fad 0 (.t 1)),
V 4 (.ld none (.t 3)),
V 5 (.bin .eq (.t 4) (.k (.c (.i 2)))),
V 6 (.mv (.t 5)),
Vg 7 6 false (.fad 0 (.t 1)),
Vg 8 6 false (.ld none (.t 7)),
Vg 9 6 false (.bin .eq (.t 8) (.k (.c (.i 3)))),
V 10 (.pick (.t 6) (.k (.c (.b true))) (.t 9))]) (.cond (.t 10) (.seq (.rg [V 11 (.fad 1 (.t 1)),
V 12 (.ld none (.t 11)),
V 13 (.bsl 1 [.i 0] 1 [(0,1,(.t 12))]),
V 2 (.mv (.t 13))]) (.ret)) (.skip))) (.seq (.rg [V 2 (.mv (.k (.c .ns)))]) (.ret)))
def vf57 : VF := ⟨vf57c,vf57v,[(2,none)]⟩
theorem ok57 : chkF Try.prog Try.f57 vf57 = true := by kernel_rfl
theorem dr57 : drawsB vf57.body = true := by kernel_rfl
/-- loop.example/g00192/spec.InsUses -/
def vf58v : List Nat := [0,1,2,3,17]
def vf58c : VC := .seq (.rg [V 1 (.box (.t 0)),
V 2 (.mv (.k (.c .ns)))]) (.seq (.block 0 (.seq (.rg [V 4 (.fad 0 (.t 1)),
V 5 (.ld none (.t 4)),
V 6 (.call 35 [(.t 5)]),
V 7 (.mv (.t 6)),
Vg 8 7 false (.fad 0 (.t 1)),
Vg 9 7 false (.ld none (.t 8)),
Vg 10 7 false (.bin .eq (.t 9) (.k (.c (.i 22)))),
V 11 (.pick (.t 7) (.k (.c (.b true))) (.t 10)),
V 3 (.mv (.t 11))]) (.cond (.t 3) (.seq (.rg [V 12 (.fad 2 (.t 1)),
V 13 (.ld none (.t 12)),
V 14 (.fad 3 (.t 1)),
V 15 (.ld none (.t 14)),
V 16 (.bsl 1 [.i 0] 2 [(0,1,(.t 13)),(1,1,(.t 15))]),
V 2 (.mv (.t 16))]) (.ret)) (.seq (.rg [V 18 (.fad 0 (.t 1)),
V 19 (.ld none (.t 18)),
V 20 (.bin .eq (.t 19) (.k (.c (.i 21)))),
V 21 (.mv (.t 20)),
Vg 22 21 false (.fad 0 (.t 1)),
Vg 23 21 false (.ld none (.t 22)),
Vg 24 21 false (.bin .eq (.t 23) (.k (.c (.i 23)))),
V 25 (.pick (.t 21) (.k (.c (.b true))) (.t 24)),
V 26 (.mv (.t 25)),
Vg 27 26 false (.fad 0 (.t 1)),
Vg 28 26 false (.ld none (.t 27)),
Vg 29 26 false (.bin .eq (.t 28) (.k (.c (.i 25)))),
V 30 (.pick (.t 26) (.k (.c (.b true))) (.t 29)),
V 17 (.mv (.t 30))]) (.cond (.t 17) (.seq (.rg [V 31 (.fad 2 (.t 1)),
V 32 (.ld none (.t 31)),
V 33 (.bsl 1 [.i 0] 1 [(0,1,(.t 32))]),
V 2 (.mv (.t 33))]) (.ret)) (.skip)))))) (.seq (.rg [V 34 (.bsl 1 [.i 0] 0 []),
V 2 (.mv (.t 34))]) (.ret)))
def vf58 : VF := ⟨vf58c,vf58v,[(2,none)]⟩
theorem ok58 : chkF Try.prog Try.f58 vf58 = true := by kernel_rfl
theorem dr58 : drawsB vf58.body = true := by kernel_rfl
/-- loop.example/g00192/spec.InsDef -/
def vf59v : List Nat := [0,1,2,5]
def vf59c : VC := .seq (.rg [V 1 (.box (.t 0)),
V 2 (.mv (.k (.c (.i 0))))]) (.seq (.seq (.rg [V 3 (.fad 0 (.t 1)),
V 4 (.ld none (.t 3)),
V 5 (.call 106 [(.t 4)])]) (.cond (.t 5) (.seq (.rg [V 6 (.fad 1 (.t 1)),
V 7 (.ld none (.t 6)),
V 2 (.mv (.t 7))]) (.ret)) (.skip))) (.seq (.rg [V 2 (.mv (.k (.c (.i (-1)))))]) (.ret)))
def vf59 : VF := ⟨vf59c,vf59v,[(2,none)]⟩
theorem ok59 : chkF Try.prog Try.f59 vf59 = true := by kernel_rfl
theorem dr59 : drawsB vf59.body = true := by kernel_rfl
/-- loop.example/g00192/spec.TermUses -/
def vf60v : List Nat := [0,1,2,10]
def vf60c : VC := .seq (.rg [V 1 (.box (.t 0)),
V 2 (.mv (.k (.c .ns)))]) (.seq (.seq (.rg [V 3 (.fad 0 (.t 1)),
V 4 (.ld none (.t 3)),
V 5 (.bin .eq (.t 4) (.k (.c (.i 2)))),
V 6 (.mv (.t 5)),
Vg 7 6 false (.fad 0 (.t 1)),
Vg 8 6 false (.ld none (.t 7)),
Vg 9 6 false (.bin .eq (.t 8) (.k (.c (.i 3)))),
V 10 (.pick (.t 6) (.k (.c (.b true))) (.t 9))]) (.cond (.t 10) (.seq (.rg [V 11 (.fad 1 (.t 1)),
V 12 (.ld none (.t 11)),
V 13 (.bsl 1 [.i 0] 1 [(0,1,(.t 12))]),
V 2 (.mv (.t 13))]) (.ret)) (.skip))) (.seq (.rg [V 14 (.bsl 1 [.i 0] 0 []),
V 2 (.mv (.t 14))]) (.ret)))
def vf60 : VF := ⟨vf60c,vf60v,[(2,none)]⟩
theorem ok60 : chkF Try.prog Try.f60 vf60 = true := by kernel_rfl
theorem dr60 : drawsB vf60.body = true := by kernel_rfl
/-- loop.example/g00192/laws.heldMoveS -/
def vf61v : List Nat := [0,1,4,5,9,18,27]
def vf61b0 : VC := .seq (.seq (.rg [V 6 (.mv (.t 5)),
V 7 (.mv (.t 0)),
V 8 (.len (.t 7)),
V 9 (.bin .lt (.t 6) (.t 8))]) (.cond (.t 9) (.skip) (.exit 0))) (.seq (.block 1 (.seq (.seq (.rg [V 12 (.mv (.t 0)),
V 13 (.mv (.t 5)),
V 14 (.idx 2 (.t 12) (.t 13)),
V 15 (.fad 0 (.t 14)),
V 16 (.ld none (.t 15)),
V 17 (.mv (.t 1)),
V 18 (.bin .ne (.t 16) (.t 17))]) (.cond (.t 18) (.seq (.rg [V 4 (.mv (.k (.c (.i (-1)))))]) (.ret)) (.skip))) (.seq (.rg [V 19 (.mv (.t 1)),
V 20 (.bin .add (.t 19) (.k (.c (.i 1)))),
V 1 (.mv (.t 20))]) (.seq (.seq (.rg [V 21 (.mv (.t 0)),
V 22 (.mv (.t 5)),
V 23 (.idx 2 (.t 21) (.t 22)),
V 24 (.fad 1 (.t 23)),
V 25 (.ld none (.t 24)),
V 26 (.mv (.t 1)),
V 27 (.bin .ne (.t 25) (.t 26))]) (.cond (.t 27) (.seq (.rg [V 4 (.mv (.k (.c (.i (-1)))))]) (.ret)) (.skip))) (.rg [V 28 (.mv (.t 1)),
V 29 (.bin .add (.t 28) (.k (.c (.i 1)))),
V 1 (.mv (.t 29))]))))) (.rg [V 10 (.mv (.t 5)),
V 11 (.bin .add (.t 10) (.k (.c (.i 1)))),
V 5 (.mv (.t 11))]))
def vf61c : VC := .seq (.rg [V 4 (.mv (.k (.c (.i 0))))]) (.seq (.seq (.rg [V 5 (.mv (.k (.c (.i 0))))]) (.block 0 (.loop vf61b0))) (.seq (.rg [V 30 (.mv (.t 1)),
V 4 (.mv (.t 30))]) (.ret)))
def vf61 : VF := ⟨vf61c,vf61v,[(4,none)]⟩
theorem ok61 : chkF Try.prog Try.f61 vf61 = true := by kernel_rfl
theorem dr61 : drawsB vf61.body = true := by kernel_rfl
/-- loop.example/g00192/spec.DrawDefAt -/
def vf62v : List Nat := [0,2,3,4,5]
def vf62c : VC := .seq (.rg [V 2 (.alloc [.ns,.i 0]),
V 3 (.mv (.k (.c (.i 0))))]) (.seq (.rg [V 6 (.mv (.t 0)),
V 7 (.call 84 [(.t 6)]),
V 4 (.mv (.t 7))]) (.seq (.rg [V 8 (.mv (.t 4)),
V 9 (.call 96 [(.t 8)]),
V 5 (.alloc [.ns,.i 0]),
Vn (.st 2 (.t 5) (.t 9))]) (.seq (.rd [Vc [] [] true (V 10 (.ld (some 2) (.t 5))),
V 11 (.mv (.t 4)),
V 12 (.fad 1 (.t 5)),
Vd [2] (V 13 (.ld none (.t 12))),
Vc [3] [0] false (V 14 (.call 107 [(.t 13),(.k (.c (.i 1)))])),
Vd [4] (V 15 (.bin .add (.t 14) (.k (.c (.i 2))))),
Vc [1,5] [0] false (V 16 (.call 83 [(.t 11),(.t 15)])),
Vd [6] (V 17 (.bin .sub (.t 16) (.k (.c (.i 1))))),
Vd [0,6] (Vn (.st 2 (.t 2) (.t 10))),
Vd [7,8] (V 3 (.mv (.t 17)))]) (.ret))))
def vf62 : VF := ⟨vf62c,vf62v,[(2,(some (some 2))),(3,none)]⟩
theorem ok62 : chkF Try.prog Try.f62 vf62 = true := by kernel_rfl
theorem dr62 : drawsB vf62.body = true := by kernel_rfl
/-- loop.example/g00192/impl.DefAt -/
def vf63v : List Nat := [0,1,2,3,4,5,6,7,8,11,13,14,15,16,23,30]
def vf63b0 : VC := .seq (.rg [V 16 (.bin .lt (.t 15) (.t 14))]) (.seq (.cond (.t 16) (.skip) (.exit 0)) (.seq (.block 1 (.seq (.rg [V 17 (.mv (.t 15)),
V 18 (.idx 6 (.t 13) (.t 15)),
V 19 (.ld (some 6) (.t 18)),
V 7 (.alloc [.ns,.ns,.i 0,.i 0,.i 0,.i 0]),
V 6 (.mv (.t 17)),
Vn (.st 6 (.t 7) (.t 19))]) (.seq (.seq (.rg [V 20 (.fad 0 (.t 7)),
V 21 (.ld none (.t 20)),
V 22 (.mkf 109 [(.t 3)]),
V 23 (.call 108 [(.t 21),(.t 22)])]) (.cond (.t 23) (.seq (.rg [V 24 (.mv (.t 6)),
V 4 (.mv (.t 24)),
V 5 (.mv (.k (.c (.i (-1)))))]) (.ret)) (.skip))) (.seq (.rg [V 25 (.fad 1 (.t 7)),
V 26 (.ld none (.t 25)),
V 27 (.mkf 111 [(.t 3)]),
V 28 (.call 110 [(.t 26),(.t 27)]),
V 8 (.mv (.t 28))]) (.seq (.rg [V 29 (.mv (.t 8)),
V 30 (.bin .ge (.t 29) (.k (.c (.i 0))))]) (.cond (.t 30) (.seq (.rg [V 31 (.mv (.t 6)),
V 32 (.mv (.t 8)),
V 4 (.mv (.t 31)),
V 5 (.mv (.t 32))]) (.ret)) (.skip))))))) (.rg [V 33 (.bin .add (.t 15) (.k (.c (.i 1)))),
V 15 (.mv (.t 33))])))
def vf63c : VC := .seq (.rg [V 2 (.box (.t 0)),
V 3 (.box (.t 1)),
V 4 (.mv (.k (.c (.i 0)))),
V 5 (.mv (.k (.c (.i 0))))]) (.seq (.seq (.rg [V 9 (.ld (some 2) (.t 2)),
V 10 (.call 97 [(.t 9)]),
V 11 (.not (.t 10))]) (.cond (.t 11) (.seq (.rg [V 4 (.mv (.k (.c (.i (-1))))),
V 5 (.mv (.k (.c (.i (-2)))))]) (.ret)) (.skip))) (.seq (.seq (.rg [V 12 (.fad 0 (.t 2)),
V 13 (.ld none (.t 12)),
V 14 (.len (.t 13)),
V 15 (.mv (.k (.c (.i 0))))]) (.block 0 (.loop vf63b0))) (.seq (.rg [V 4 (.mv (.k (.c (.i (-1))))),
V 5 (.mv (.k (.c (.i (-2)))))]) (.ret))))
def vf63 : VF := ⟨vf63c,vf63v,[(4,none),(5,none)]⟩
theorem ok63 : chkF Try.prog Try.f63 vf63 = true := by kernel_rfl
theorem dr63 : drawsB vf63.body = true := by kernel_rfl
/-- loop.example/g00192/spec.DefAt -/
def vf64v : List Nat := [0,1,2,4,5,8]
def vf64c : VC := .seq (.rg [V 2 (.box (.t 0)),
V 4 (.mv (.k (.c (.i 0)))),
V 5 (.mv (.k (.c (.i 0))))]) (.seq (.seq (.rg [V 6 (.ld (some 2) (.t 2)),
V 7 (.call 100 [(.t 6)]),
V 8 (.not (.t 7))]) (.cond (.t 8) (.seq (.rg [V 4 (.mv (.k (.c (.i (-1))))),
V 5 (.mv (.k (.c (.i (-2)))))]) (.ret)) (.skip))) (.seq (.rg [V 9 (.ld (some 2) (.t 2)),
V 10 (.mv (.t 1)),
V 11 (.call 112 [(.t 9),(.t 10)]),
V 12 (.ext 0 (.t 11)),
V 13 (.ext 1 (.t 11)),
V 4 (.mv (.t 12)),
V 5 (.mv (.t 13))]) (.ret)))
def vf64 : VF := ⟨vf64c,vf64v,[(4,none),(5,none)]⟩
theorem ok64 : chkF Try.prog Try.f64 vf64 = true := by kernel_rfl
theorem dr64 : drawsB vf64.body = true := by kernel_rfl
/-- loop.example/g00192/laws.szFn -/
def vf65v : List Nat := [0,1,2,4,10]
def vf65c : VC := .seq (.rg [V 2 (.box (.t 0)),
V 4 (.mv (.k (.c (.i 0))))]) (.seq (.rg [V 5 (.fad 0 (.t 2)),
V 6 (.ld none (.t 5)),
V 7 (.mv (.t 1)),
V 8 (.call 113 [(.t 6),(.t 7)]),
V 1 (.mv (.t 8))]) (.seq (.seq (.rg [V 9 (.mv (.t 1)),
V 10 (.bin .lt (.t 9) (.k (.c (.i 0))))]) (.cond (.t 10) (.seq (.rg [V 4 (.mv (.k (.c (.i (-1)))))]) (.ret)) (.skip))) (.seq (.rg [V 11 (.mv (.t 1)),
V 4 (.mv (.t 11))]) (.ret))))
def vf65 : VF := ⟨vf65c,vf65v,[(4,none)]⟩
theorem ok65 : chkF Try.prog Try.f65 vf65 = true := by kernel_rfl
theorem dr65 : drawsB vf65.body = true := by kernel_rfl
/-- loop.example/g00192/laws.toFn -/
def vf66v : List Nat := [0,1,2,3]
def vf66c : VC := .seq (.rg [V 1 (.box (.t 0)),
V 2 (.alloc [.ns,.i 0])]) (.seq (.rg [V 3 (.alloc [.ns,.i 0])]) (.seq (.rg [V 4 (.fad 0 (.t 1)),
V 5 (.ld none (.t 4)),
V 6 (.call 114 [(.t 5)]),
V 7 (.fad 0 (.t 3)),
Vn (.st 1 (.t 7) (.t 6))]) (.seq (.rg [V 8 (.fad 1 (.t 1)),
V 9 (.ld none (.t 8)),
V 10 (.fad 1 (.t 3)),
Vn (.st 1 (.t 10) (.t 9))]) (.seq (.rg [V 11 (.ld (some 2) (.t 3)),
Vn (.st 2 (.t 2) (.t 11))]) (.ret)))))
def vf66 : VF := ⟨vf66c,vf66v,[(2,(some (some 2)))]⟩
theorem ok66 : chkF Try.prog Try.f66 vf66 = true := by kernel_rfl
theorem dr66 : drawsB vf66.body = true := by kernel_rfl
/-- loop.example/g00192/laws.eqIntSS -/
def vf67v : List Nat := [0,1,4,5,10,14,26]
def vf67b0 : VC := .seq (.seq (.rg [V 11 (.mv (.t 5)),
V 12 (.mv (.t 0)),
V 13 (.len (.t 12)),
V 14 (.bin .lt (.t 11) (.t 13))]) (.cond (.t 14) (.skip) (.exit 0))) (.seq (.block 1 (.seq (.rd [V 17 (.mv (.t 0)),
V 18 (.mv (.t 5)),
Vd [0,1] (V 19 (.idx 1 (.t 17) (.t 18))),
Vd [2] (V 20 (.ld none (.t 19))),
V 21 (.mv (.t 1)),
V 22 (.mv (.t 5)),
Vd [4,5] (V 23 (.idx 1 (.t 21) (.t 22))),
Vd [6] (V 24 (.ld none (.t 23))),
Vd [3,7] (V 25 (.call 40 [(.t 20),(.t 24)])),
Vd [8] (V 26 (.not (.t 25)))]) (.cond (.t 26) (.seq (.rg [V 4 (.mv (.k (.c (.b false))))]) (.ret)) (.skip)))) (.rg [V 15 (.mv (.t 5)),
V 16 (.bin .add (.t 15) (.k (.c (.i 1)))),
V 5 (.mv (.t 16))]))
def vf67c : VC := .seq (.rg [V 4 (.mv (.k (.c (.b false))))]) (.seq (.seq (.rg [V 6 (.mv (.t 0)),
V 7 (.len (.t 6)),
V 8 (.mv (.t 1)),
V 9 (.len (.t 8)),
V 10 (.bin .ne (.t 7) (.t 9))]) (.cond (.t 10) (.seq (.rg [V 4 (.mv (.k (.c (.b false))))]) (.ret)) (.skip))) (.seq (.seq (.rg [V 5 (.mv (.k (.c (.i 0))))]) (.block 0 (.loop vf67b0))) (.seq (.rg [V 4 (.mv (.k (.c (.b true))))]) (.ret))))
def vf67 : VF := ⟨vf67c,vf67v,[(4,none)]⟩
theorem ok67 : chkF Try.prog Try.f67 vf67 = true := by kernel_rfl
theorem dr67 : drawsB vf67.body = true := by kernel_rfl
/-- loop.example/g00192/laws.eqFn -/
def vf68v : List Nat := [0,1,2,3,4,10,15]
def vf68c : VC := .seq (.rg [V 2 (.box (.t 0)),
V 3 (.box (.t 1)),
V 4 (.mv (.k (.c (.b false))))]) (.seq (.seq (.rg [V 5 (.fad 0 (.t 2)),
V 6 (.ld none (.t 5)),
V 7 (.fad 0 (.t 3)),
V 8 (.ld none (.t 7)),
V 9 (.call 115 [(.t 6),(.t 8)]),
V 10 (.not (.t 9))]) (.cond (.t 10) (.seq (.rg [V 4 (.mv (.k (.c (.b false))))]) (.ret)) (.skip))) (.seq (.seq (.rg [V 11 (.fad 1 (.t 2)),
V 12 (.ld none (.t 11)),
V 13 (.fad 1 (.t 3)),
V 14 (.ld none (.t 13)),
V 15 (.bin .ne (.t 12) (.t 14))]) (.cond (.t 15) (.seq (.rg [V 4 (.mv (.k (.c (.b false))))]) (.ret)) (.skip))) (.seq (.rg [V 4 (.mv (.k (.c (.b true))))]) (.ret))))
def vf68 : VF := ⟨vf68c,vf68v,[(4,none)]⟩
theorem ok68 : chkF Try.prog Try.f68 vf68 = true := by kernel_rfl
theorem dr68 : drawsB vf68.body = true := by kernel_rfl
/-- loop.example/g00192/laws.markFn -/
def vf69v : List Nat := [0,1,2,4]
def vf69c : VC := .seq (.rg [V 2 (.box (.t 0)),
V 4 (.mv (.k (.c (.i 0))))]) (.seq (.rg [V 5 (.fad 0 (.t 2)),
V 6 (.ld none (.t 5)),
V 7 (.mv (.t 1)),
V 8 (.call 116 [(.t 6),(.t 7)]),
V 1 (.mv (.t 8))]) (.seq (.rg [V 9 (.mv (.t 1)),
V 4 (.mv (.t 9))]) (.ret)))
def vf69 : VF := ⟨vf69c,vf69v,[(4,none)]⟩
theorem ok69 : chkF Try.prog Try.f69 vf69 = true := by kernel_rfl
theorem dr69 : drawsB vf69.body = true := by kernel_rfl
/-- loop.example/g00192/laws.markIntSS -/
def vf70v : List Nat := [0,1,4,5,9]
def vf70b0 : VC := .seq (.seq (.rg [V 6 (.mv (.t 5)),
V 7 (.mv (.t 0)),
V 8 (.len (.t 7)),
V 9 (.bin .lt (.t 6) (.t 8))]) (.cond (.t 9) (.skip) (.exit 0))) (.seq (.block 1 (.rg [V 12 (.mv (.t 0)),
V 13 (.mv (.t 5)),
V 14 (.idx 1 (.t 12) (.t 13)),
V 15 (.ld none (.t 14)),
V 16 (.mv (.t 1)),
V 17 (.call 43 [(.t 15),(.t 16)]),
V 1 (.mv (.t 17))])) (.rg [V 10 (.mv (.t 5)),
V 11 (.bin .add (.t 10) (.k (.c (.i 1)))),
V 5 (.mv (.t 11))]))
def vf70c : VC := .seq (.rg [V 4 (.mv (.k (.c (.i 0))))]) (.seq (.seq (.rg [V 5 (.mv (.k (.c (.i 0))))]) (.block 0 (.loop vf70b0))) (.seq (.rg [V 18 (.mv (.t 1)),
V 4 (.mv (.t 18))]) (.ret)))
def vf70 : VF := ⟨vf70c,vf70v,[(4,none)]⟩
theorem ok70 : chkF Try.prog Try.f70 vf70 = true := by kernel_rfl
theorem dr70 : drawsB vf70.body = true := by kernel_rfl
/-- loop.example/g00192/laws.heldIntSS -/
def vf71v : List Nat := [0,1,4,5,9,19]
def vf71b0 : VC := .seq (.seq (.rg [V 6 (.mv (.t 5)),
V 7 (.mv (.t 0)),
V 8 (.len (.t 7)),
V 9 (.bin .lt (.t 6) (.t 8))]) (.cond (.t 9) (.skip) (.exit 0))) (.seq (.block 1 (.seq (.rg [V 12 (.mv (.t 0)),
V 13 (.mv (.t 5)),
V 14 (.idx 1 (.t 12) (.t 13)),
V 15 (.ld none (.t 14)),
V 16 (.mv (.t 1)),
V 17 (.call 44 [(.t 15),(.t 16)]),
V 1 (.mv (.t 17))]) (.seq (.rg [V 18 (.mv (.t 1)),
V 19 (.bin .lt (.t 18) (.k (.c (.i 0))))]) (.cond (.t 19) (.seq (.rg [V 4 (.mv (.k (.c (.i (-1)))))]) (.ret)) (.skip))))) (.rg [V 10 (.mv (.t 5)),
V 11 (.bin .add (.t 10) (.k (.c (.i 1)))),
V 5 (.mv (.t 11))]))
def vf71c : VC := .seq (.rg [V 4 (.mv (.k (.c (.i 0))))]) (.seq (.seq (.rg [V 5 (.mv (.k (.c (.i 0))))]) (.block 0 (.loop vf71b0))) (.seq (.rg [V 20 (.mv (.t 1)),
V 4 (.mv (.t 20))]) (.ret)))
def vf71 : VF := ⟨vf71c,vf71v,[(4,none)]⟩
theorem ok71 : chkF Try.prog Try.f71 vf71 = true := by kernel_rfl
theorem dr71 : drawsB vf71.body = true := by kernel_rfl
/-- loop.example/g00192/spec.l9DrawVals -/
def vf72v : List Nat := [0,2,3,4,5,6,7,8,19,31]
def vf72b0 : VC := .seq (.seq (.rg [V 17 (.mv (.t 8)),
V 18 (.mv (.t 6)),
V 19 (.bin .lt (.t 17) (.t 18))]) (.cond (.t 19) (.skip) (.exit 0))) (.seq (.block 1 (.rg [V 22 (.mv (.t 7)),
V 23 (.mv (.t 8)),
V 24 (.bin .mul (.k (.c (.i 10))) (.t 23)),
V 25 (.mv (.t 4)),
V 26 (.call 83 [(.t 25),(.k (.c (.i 5)))]),
V 27 (.bin .add (.t 24) (.t 26)),
V 28 (.bsl 1 [.i 0] 1 [(0,1,(.t 27))]),
V 29 (.app 1 (.t 22) (.t 28)),
V 7 (.mv (.t 29))])) (.rg [V 20 (.mv (.t 8)),
V 21 (.bin .add (.t 20) (.k (.c (.i 1)))),
V 8 (.mv (.t 21))]))
def vf72c : VC := .seq (.rg [V 2 (.mv (.k (.c .ns))),
V 3 (.mv (.k (.c .ns)))]) (.seq (.rg [V 9 (.mv (.t 0)),
V 10 (.call 84 [(.t 9)]),
V 4 (.mv (.t 10))]) (.seq (.rg [V 12 (.mv (.t 4)),
V 13 (.call 117 [(.t 12)]),
V 11 (.mv (.t 13)),
V 14 (.ext 0 (.t 11)),
V 15 (.ext 1 (.t 11)),
V 5 (.mv (.t 14)),
V 6 (.mv (.t 15))]) (.seq (.rg [V 16 (.bsl 1 [.i 0] 0 []),
V 7 (.mv (.t 16))]) (.seq (.seq (.rg [V 8 (.mv (.k (.c (.i 0))))]) (.block 0 (.loop vf72b0))) (.seq (.seq (.rg [V 30 (.mv (.t 4)),
V 31 (.call 85 [(.t 30),(.k (.c (.i 9)))])]) (.cond (.t 31) (.rg [V 32 (.mv (.t 7)),
V 33 (.mv (.t 4)),
V 34 (.mv (.t 6)),
V 35 (.bin .add (.t 34) (.k (.c (.i 1)))),
V 36 (.call 83 [(.t 33),(.t 35)]),
V 37 (.slc 1 (.t 32) none (some (.t 36))),
V 7 (.mv (.t 37))]) (.skip))) (.seq (.rg [V 38 (.mv (.t 5)),
V 39 (.mv (.t 7)),
V 2 (.mv (.t 38)),
V 3 (.mv (.t 39))]) (.ret)))))))
def vf72 : VF := ⟨vf72c,vf72v,[(2,none),(3,none)]⟩
theorem ok72 : chkF Try.prog Try.f72 vf72 = true := by kernel_rfl
theorem dr72 : drawsB vf72.body = true := by kernel_rfl
/-- slices.ContainsFuncloop.example/g00192/impl.Moveloop.example/g00192/impl.Move -/
def vf73v : List Nat := [0,1,4]
def vf73c : VC := .seq (.rg [V 4 (.mv (.k (.c (.b false))))]) (.seq (.rg [V 5 (.mv (.t 0)),
V 6 (.mv (.t 1)),
V 7 (.call 118 [(.t 5),(.t 6)]),
V 8 (.bin .ge (.t 7) (.k (.c (.i 0)))),
V 4 (.mv (.t 8))]) (.ret))
def vf73 : VF := ⟨vf73c,vf73v,[(4,none)]⟩
theorem ok73 : chkF Try.prog Try.f73 vf73 = true := by kernel_rfl
theorem dr73 : drawsB vf73.body = true := by kernel_rfl
/-- loop.example/g00192/impl.MovesOk$1 -/
def vf74v : List Nat := [0,1,2,3]
def vf74c : VC := .seq (.rg [V 2 (.box (.t 0)),
V 3 (.mv (.k (.c (.b false))))]) (.seq (.rg [V 4 (.fad 0 (.t 2)),
V 5 (.ld none (.t 4)),
V 6 (.fad 0 (.t 1)),
V 7 (.ld none (.t 6)),
V 8 (.bin .eq (.t 5) (.t 7)),
V 3 (.mv (.t 8))]) (.ret))
def vf74 : VF := ⟨vf74c,vf74v,[(3,none)]⟩
theorem ok74 : chkF Try.prog Try.f74 vf74 = true := by kernel_rfl
theorem dr74 : drawsB vf74.body = true := by kernel_rfl
/-- slices.DeleteFuncloop.example/g00192/impl.Moveloop.example/g00192/impl.Move -/
def vf75v : List Nat := [0,1,4,5,6,7,12,19,29]
def vf75b0 : VC := .seq (.seq (.rg [V 16 (.mv (.t 6)),
V 17 (.mv (.t 0)),
V 18 (.len (.t 17)),
V 19 (.bin .lt (.t 16) (.t 18))]) (.cond (.t 19) (.skip) (.exit 0))) (.seq (.block 1 (.seq (.rg [V 22 (.mv (.t 0)),
V 23 (.mv (.t 6)),
V 24 (.idx 2 (.t 22) (.t 23)),
V 25 (.ld (some 2) (.t 24)),
V 7 (.alloc [.i 0,.i 0]),
Vn (.st 2 (.t 7) (.t 25))]) (.seq (.rg [V 26 (.mv (.t 1)),
V 27 (.ld (some 2) (.t 7)),
V 28 (.clv (.t 26) [(.t 27)]),
V 29 (.not (.t 28))]) (.cond (.t 29) (.seq (.rg [V 30 (.mv (.t 0)),
V 31 (.mv (.t 5)),
V 32 (.ld (some 2) (.t 7)),
V 33 (.idx 2 (.t 30) (.t 31)),
Vn (.st 2 (.t 33) (.t 32))]) (.rg [V 34 (.mv (.t 5)),
V 35 (.bin .add (.t 34) (.k (.c (.i 1)))),
V 5 (.mv (.t 35))])) (.skip))))) (.rg [V 20 (.mv (.t 6)),
V 21 (.bin .add (.t 20) (.k (.c (.i 1)))),
V 6 (.mv (.t 21))]))
def vf75c : VC := .seq (.rg [V 4 (.mv (.k (.c .ns)))]) (.seq (.rg [V 8 (.mv (.t 0)),
V 9 (.mv (.t 1)),
V 10 (.call 118 [(.t 8),(.t 9)]),
V 5 (.mv (.t 10))]) (.seq (.seq (.rg [V 11 (.mv (.t 5)),
V 12 (.bin .eq (.t 11) (.k (.c (.i (-1)))))]) (.cond (.t 12) (.seq (.rg [V 13 (.mv (.t 0)),
V 4 (.mv (.t 13))]) (.ret)) (.skip))) (.seq (.seq (.rg [V 14 (.mv (.t 5)),
V 15 (.bin .add (.t 14) (.k (.c (.i 1)))),
V 6 (.mv (.t 15))]) (.block 0 (.loop vf75b0))) (.seq (.rg [V 36 (.mv (.t 0)),
V 37 (.mv (.t 5)),
V 38 (.slc 2 (.t 36) (some (.t 37)) none),
Vn (.clr 2 [.i 0,.i 0] (.t 38))]) (.seq (.rg [V 39 (.mv (.t 0)),
V 40 (.mv (.t 5)),
V 41 (.slc 2 (.t 39) none (some (.t 40))),
V 4 (.mv (.t 41))]) (.ret))))))
def vf75 : VF := ⟨vf75c,vf75v,[(4,none)]⟩
theorem ok75 : chkF Try.prog Try.f75 vf75 = true := by kernel_rfl
theorem dr75 : drawsB vf75.body = true := by kernel_rfl
/-- slices.Cloneloop.example/g00192/impl.Moveloop.example/g00192/impl.Move -/
def vf76v : List Nat := [0,2,4]
def vf76c : VC := .seq (.rg [V 2 (.mv (.k (.c .ns)))]) (.seq (.seq (.rg [V 3 (.mv (.t 0)),
V 4 (.eqn false (.t 3))]) (.cond (.t 4) (.seq (.rg [V 2 (.mv (.k (.c .ns)))]) (.ret)) (.skip))) (.seq (.rg [V 5 (.bsl 2 [.i 0,.i 0] 0 []),
V 6 (.mv (.t 0)),
V 7 (.app 2 (.t 5) (.t 6)),
V 2 (.mv (.t 7))]) (.ret)))
def vf76 : VF := ⟨vf76c,vf76v,[(2,none)]⟩
theorem ok76 : chkF Try.prog Try.f76 vf76 = true := by kernel_rfl
theorem dr76 : drawsB vf76.body = true := by kernel_rfl
/-- loop.example/g00192/impl.Sequence$1 -/
def vf77v : List Nat := [0,1,2]
def vf77c : VC := .seq (.rg [V 1 (.box (.t 0)),
V 2 (.mv (.k (.c (.b false))))]) (.seq (.rg [V 3 (.fad 0 (.t 1)),
V 4 (.ld none (.t 3)),
V 5 (.fad 1 (.t 1)),
V 6 (.ld none (.t 5)),
V 7 (.bin .eq (.t 4) (.t 6)),
V 2 (.mv (.t 7))]) (.ret))
def vf77 : VF := ⟨vf77c,vf77v,[(2,none)]⟩
theorem ok77 : chkF Try.prog Try.f77 vf77 = true := by kernel_rfl
theorem dr77 : drawsB vf77.body = true := by kernel_rfl
/-- loop.example/g00192/impl.freeMove -/
def vf78v : List Nat := [0,1,2]
def vf78c : VC := .seq (.rg [V 1 (.box (.t 0)),
V 2 (.mv (.k (.c (.i 0))))]) (.seq (.rg [V 3 (.ld none (.t 1)),
V 4 (.mkf 119 [(.t 1)]),
V 5 (.call 118 [(.t 3),(.t 4)]),
V 2 (.mv (.t 5))]) (.ret))
def vf78 : VF := ⟨vf78c,vf78v,[(2,none)]⟩
theorem ok78 : chkF Try.prog Try.f78 vf78 = true := by kernel_rfl
theorem dr78 : drawsB vf78.body = true := by kernel_rfl
/-- slices.Deleteloop.example/g00192/impl.Moveloop.example/g00192/impl.Move -/
def vf79v : List Nat := [0,1,2,6,7,16]
def vf79c : VC := .seq (.rg [V 6 (.mv (.k (.c .ns)))]) (.seq (.rg [V 8 (.mv (.t 0)),
V 9 (.mv (.t 1)),
V 10 (.mv (.t 2)),
V 11 (.mv (.t 0)),
V 12 (.len (.t 11)),
V 13 (.bck (.t 8) (.t 9) (.t 10) (.t 12))]) (.seq (.seq (.rg [V 14 (.mv (.t 1)),
V 15 (.mv (.t 2)),
V 16 (.bin .eq (.t 14) (.t 15))]) (.cond (.t 16) (.seq (.rg [V 17 (.mv (.t 0)),
V 6 (.mv (.t 17))]) (.ret)) (.skip))) (.seq (.rg [V 18 (.mv (.t 0)),
V 19 (.len (.t 18)),
V 7 (.mv (.t 19))]) (.seq (.rd [V 20 (.mv (.t 0)),
V 21 (.mv (.t 1)),
Vd [0,1] (V 22 (.slc 2 (.t 20) none (some (.t 21)))),
V 23 (.mv (.t 0)),
V 24 (.mv (.t 2)),
Vd [3,4] (V 25 (.slc 2 (.t 23) (some (.t 24)) none)),
Vd [2,5] (V 26 (.app 2 (.t 22) (.t 25))),
Vd [6] (V 0 (.mv (.t 26)))]) (.seq (.rg [V 27 (.mv (.t 0)),
V 28 (.mv (.t 0)),
V 29 (.len (.t 28)),
V 30 (.mv (.t 7)),
V 31 (.slc 2 (.t 27) (some (.t 29)) (some (.t 30))),
Vn (.clr 2 [.i 0,.i 0] (.t 31))]) (.seq (.rg [V 32 (.mv (.t 0)),
V 6 (.mv (.t 32))]) (.ret)))))))
def vf79 : VF := ⟨vf79c,vf79v,[(6,none)]⟩
theorem ok79 : chkF Try.prog Try.f79 vf79 = true := by kernel_rfl
theorem dr79 : drawsB vf79.body = true := by kernel_rfl
/-- loop.example/g00192/spec.l9Sequence -/
def vf80v : List Nat := [0,1,4,5,6,7,8,9,10,15,28,39,43,57,66]
def vf80b0 : VC := .seq (.seq (.rg [V 12 (.mv (.t 6)),
V 13 (.mv (.t 0)),
V 14 (.len (.t 13)),
V 15 (.bin .lt (.t 12) (.t 14))]) (.cond (.t 15) (.skip) (.exit 0))) (.seq (.block 1 (.seq (.rd [V 18 (.mv (.t 0)),
V 19 (.mv (.t 6)),
Vd [0,1] (V 20 (.idx 2 (.t 18) (.t 19))),
Vd [2] (V 21 (.fad 0 (.t 20))),
Vd [3] (V 22 (.ld none (.t 21))),
V 23 (.mv (.t 0)),
V 24 (.mv (.t 6)),
Vd [5,6] (V 25 (.idx 2 (.t 23) (.t 24))),
Vd [7] (V 26 (.fad 1 (.t 25))),
Vd [8] (V 27 (.ld none (.t 26))),
Vd [4,9] (V 28 (.bin .ne (.t 22) (.t 27)))]) (.cond (.t 28) (.rg [V 29 (.mv (.t 5)),
V 30 (.mv (.t 0)),
V 31 (.mv (.t 6)),
V 32 (.idx 2 (.t 30) (.t 31)),
V 33 (.ld (some 2) (.t 32)),
V 34 (.bsl 2 [.i 0,.i 0] 1 [(0,2,(.t 33))]),
V 35 (.app 2 (.t 29) (.t 34)),
V 5 (.mv (.t 35))]) (.skip)))) (.rg [V 16 (.mv (.t 6)),
V 17 (.bin .add (.t 16) (.k (.c (.i 1)))),
V 6 (.mv (.t 17))]))
def vf80b1 : VC := .seq (.seq (.rg [V 54 (.mv (.t 10)),
V 55 (.mv (.t 5)),
V 56 (.len (.t 55)),
V 57 (.bin .lt (.t 54) (.t 56))]) (.cond (.t 57) (.skip) (.exit 4))) (.seq (.block 5 (.seq (.rg [V 60 (.mv (.t 5)),
V 61 (.mv (.t 10)),
V 62 (.idx 2 (.t 60) (.t 61)),
V 63 (.fad 1 (.t 62)),
V 64 (.ld none (.t 63)),
V 65 (.mv (.t 9)),
V 66 (.bin .eq (.t 64) (.t 65))]) (.cond (.t 66) (.rg [V 67 (.mv (.t 5)),
V 68 (.mv (.t 10)),
V 69 (.mv (.t 1)),
V 70 (.idx 2 (.t 67) (.t 68)),
V 71 (.fad 1 (.t 70)),
Vn (.st 1 (.t 71) (.t 69))]) (.skip)))) (.rg [V 58 (.mv (.t 10)),
V 59 (.bin .add (.t 58) (.k (.c (.i 1)))),
V 10 (.mv (.t 59))]))
def vf80b2 : VC := .seq (.seq (.rg [V 37 (.mv (.t 5)),
V 38 (.len (.t 37)),
V 39 (.bin .gt (.t 38) (.k (.c (.i 0))))]) (.cond (.t 39) (.skip) (.exit 2))) (.block 3 (.seq (.rg [V 40 (.mv (.t 5)),
V 41 (.call 121 [(.t 40)]),
V 8 (.mv (.t 41))]) (.seq (.seq (.rg [V 42 (.mv (.t 8)),
V 43 (.bin .lt (.t 42) (.k (.c (.i 0))))]) (.cond (.t 43) (.seq (.rg [V 44 (.mv (.t 5)),
V 45 (.idx 2 (.t 44) (.k (.c (.i 0)))),
V 46 (.fad 0 (.t 45)),
V 47 (.ld none (.t 46)),
V 9 (.mv (.t 47))]) (.seq (.rg [V 48 (.mv (.t 7)),
V 49 (.mv (.t 1)),
V 50 (.mv (.t 9)),
V 51 (.build [.i 0,.i 0] [(0,1,(.t 49)),(1,1,(.t 50))]),
V 52 (.bsl 2 [.i 0,.i 0] 1 [(0,2,(.t 51))]),
V 53 (.app 2 (.t 48) (.t 52)),
V 7 (.mv (.t 53))]) (.seq (.seq (.rg [V 10 (.mv (.k (.c (.i 0))))]) (.block 4 (.loop vf80b1))) (.exit 3)))) (.skip))) (.seq (.rg [V 72 (.mv (.t 7)),
V 73 (.mv (.t 5)),
V 74 (.mv (.t 8)),
V 75 (.idx 2 (.t 73) (.t 74)),
V 76 (.ld (some 2) (.t 75)),
V 77 (.bsl 2 [.i 0,.i 0] 1 [(0,2,(.t 76))]),
V 78 (.app 2 (.t 72) (.t 77)),
V 7 (.mv (.t 78))]) (.rd [Vc [] [] true (V 79 (.bsl 2 [.i 0,.i 0] 0 [])),
V 80 (.mv (.t 5)),
V 81 (.mv (.t 8)),
Vc [1,2] [0] false (V 82 (.slc 2 (.t 80) none (some (.t 81)))),
Vc [0,3] [] true (V 83 (.app 2 (.t 79) (.t 82))),
V 84 (.mv (.t 5)),
V 85 (.mv (.t 8)),
Vd [6] (V 86 (.bin .add (.t 85) (.k (.c (.i 1))))),
Vc [5,7] [0,4] false (V 87 (.slc 2 (.t 84) (some (.t 86)) none)),
Vd [4,8] (V 88 (.app 2 (.t 83) (.t 87))),
Vd [9] (V 5 (.mv (.t 88)))])))))
def vf80c : VC := .seq (.rg [V 4 (.mv (.k (.c .ns)))]) (.seq (.rg [V 11 (.bsl 2 [.i 0,.i 0] 0 []),
V 5 (.mv (.t 11))]) (.seq (.seq (.rg [V 6 (.mv (.k (.c (.i 0))))]) (.block 0 (.loop vf80b0))) (.seq (.rg [V 36 (.bsl 2 [.i 0,.i 0] 0 []),
V 7 (.mv (.t 36))]) (.seq (.block 2 (.loop vf80b2)) (.seq (.rg [V 89 (.mv (.t 7)),
V 4 (.mv (.t 89))]) (.ret))))))
def vf80 : VF := ⟨vf80c,vf80v,[(4,none)]⟩
theorem ok80 : chkF Try.prog Try.f80 vf80 = true := by kernel_rfl
theorem dr80 : drawsB vf80.body = true := by kernel_rfl
/-- slices.Cloneintint -/
def vf81v : List Nat := [0,2,4]
def vf81c : VC := .seq (.rg [V 2 (.mv (.k (.c .ns)))]) (.seq (.seq (.rg [V 3 (.mv (.t 0)),
V 4 (.eqn false (.t 3))]) (.cond (.t 4) (.seq (.rg [V 2 (.mv (.k (.c .ns)))]) (.ret)) (.skip))) (.seq (.rg [V 5 (.bsl 1 [.i 0] 0 []),
V 6 (.mv (.t 0)),
V 7 (.app 1 (.t 5) (.t 6)),
V 2 (.mv (.t 7))]) (.ret)))
def vf81 : VF := ⟨vf81c,vf81v,[(2,none)]⟩
theorem ok81 : chkF Try.prog Try.f81 vf81 = true := by kernel_rfl
theorem dr81 : drawsB vf81.body = true := by kernel_rfl
/-- loop.example/g00192/impl.in -/
def vf82v : List Nat := [0,1,2,6]
def vf82c : VC := .seq (.rg [V 6 (.mv (.k (.c (.b false))))]) (.seq (.rg [V 7 (.mv (.t 0)),
V 8 (.mv (.t 1)),
V 9 (.bin .ge (.t 7) (.t 8)),
V 10 (.mv (.t 9)),
Vg 11 10 true (.mv (.t 0)),
Vg 12 10 true (.mv (.t 2)),
Vg 13 10 true (.bin .le (.t 11) (.t 12)),
V 14 (.pick (.t 10) (.t 13) (.k (.c (.b false)))),
V 6 (.mv (.t 14))]) (.ret))
def vf82 : VF := ⟨vf82c,vf82v,[(6,none)]⟩
theorem ok82 : chkF Try.prog Try.f82 vf82 = true := by kernel_rfl
theorem dr82 : drawsB vf82.body = true := by kernel_rfl
/-- loop.example/g00192/spec.l1Below -/
def vf83v : List Nat := [0,1,4,5,6,7,8,10,12]
def vf83c : VC := .seq (.rg [V 4 (.mv (.k (.c (.i 0))))]) (.seq (.seq (.rg [V 9 (.mv (.t 1)),
V 10 (.bin .le (.t 9) (.k (.c (.i 0))))]) (.cond (.t 10) (.seq (.rg [V 4 (.mv (.k (.c (.i 0))))]) (.ret)) (.skip))) (.seq (.seq (.rg [V 11 (.mv (.t 1)),
V 12 (.bin .le (.t 11) (.k (.c (.i 256))))]) (.cond (.t 12) (.seq (.rg [V 13 (.mv (.t 0)),
V 14 (.call 122 [(.t 13)]),
V 15 (.mv (.t 1)),
V 16 (.bin .rem (.t 14) (.t 15)),
V 4 (.mv (.t 16))]) (.ret)) (.skip))) (.seq (.rg [V 17 (.mv (.t 0)),
V 18 (.call 122 [(.t 17)]),
V 5 (.mv (.t 18))]) (.seq (.rg [V 19 (.mv (.t 0)),
V 20 (.call 122 [(.t 19)]),
V 6 (.mv (.t 20))]) (.seq (.rg [V 21 (.mv (.t 0)),
V 22 (.call 122 [(.t 21)]),
V 7 (.mv (.t 22))]) (.seq (.rg [V 23 (.mv (.t 0)),
V 24 (.call 122 [(.t 23)]),
V 8 (.mv (.t 24))]) (.seq (.rg [V 25 (.mv (.t 5)),
V 26 (.bin .mul (.t 25) (.k (.c (.i 16777216)))),
V 27 (.mv (.t 6)),
V 28 (.bin .mul (.t 27) (.k (.c (.i 65536)))),
V 29 (.bin .add (.t 26) (.t 28)),
V 30 (.mv (.t 7)),
V 31 (.bin .mul (.t 30) (.k (.c (.i 256)))),
V 32 (.bin .add (.t 29) (.t 31)),
V 33 (.mv (.t 8)),
V 34 (.bin .add (.t 32) (.t 33)),
V 35 (.mv (.t 1)),
V 36 (.bin .rem (.t 34) (.t 35)),
V 4 (.mv (.t 36))]) (.ret))))))))
def vf83 : VF := ⟨vf83c,vf83v,[(4,none)]⟩
theorem ok83 : chkF Try.prog Try.f83 vf83 = true := by kernel_rfl
theorem dr83 : drawsB vf83.body = true := by kernel_rfl
/-- loop.example/g00192/spec.l1New -/
def vf84v : List Nat := [0,2,3,4,15]
def vf84b0 : VC := .seq (.seq (.rg [V 8 (.mv (.t 4)),
V 9 (.mv (.t 0)),
V 10 (.len (.t 9)),
V 11 (.bin .lt (.t 8) (.t 10)),
V 12 (.mv (.t 11)),
Vg 13 12 true (.mv (.t 4)),
Vg 14 12 true (.bin .lt (.t 13) (.k (.c (.i 4000)))),
V 15 (.pick (.t 12) (.t 14) (.k (.c (.b false))))]) (.cond (.t 15) (.skip) (.exit 0))) (.seq (.block 1 (.rg [V 18 (.mv (.t 3)),
V 19 (.bin .mul (.t 18) (.k (.c (.i 131)))),
V 20 (.mv (.t 0)),
V 21 (.mv (.t 4)),
V 22 (.idx 1 (.t 20) (.t 21)),
V 23 (.ld none (.t 22)),
V 24 (.b2i (.t 23)),
V 25 (.bin .add (.t 19) (.t 24)),
V 26 (.bin .add (.t 25) (.k (.c (.i 7)))),
V 27 (.bin .and (.t 26) (.k (.c (.i 1073741823)))),
V 3 (.mv (.t 27))])) (.rg [V 16 (.mv (.t 4)),
V 17 (.bin .add (.t 16) (.k (.c (.i 1)))),
V 4 (.mv (.t 17))]))
def vf84c : VC := .seq (.rg [V 2 (.mv (.k (.c .np)))]) (.seq (.rg [V 5 (.mv (.t 0)),
V 6 (.len (.t 5)),
V 7 (.bin .add (.k (.c (.i 17111))) (.t 6)),
V 3 (.mv (.t 7))]) (.seq (.seq (.rg [V 4 (.mv (.k (.c (.i 0))))]) (.block 0 (.loop vf84b0))) (.seq (.rg [V 28 (.mv (.t 0)),
V 29 (.mv (.t 3)),
V 30 (.build [.ns,.i 0,.i 0] [(0,1,(.t 28)),(2,1,(.t 29))]),
V 31 (.box (.t 30)),
V 2 (.mv (.t 31))]) (.ret))))
def vf84 : VF := ⟨vf84c,vf84v,[(2,none)]⟩
theorem ok84 : chkF Try.prog Try.f84 vf84 = true := by kernel_rfl
theorem dr84 : drawsB vf84.body = true := by kernel_rfl
/-- loop.example/g00192/spec.l1Once -/
def vf85v : List Nat := [0,1,4]
def vf85c : VC := .seq (.rg [V 4 (.mv (.k (.c (.b false))))]) (.seq (.rg [V 5 (.mv (.t 0)),
V 6 (.mv (.t 1)),
V 7 (.call 83 [(.t 5),(.t 6)]),
V 8 (.bin .eq (.t 7) (.k (.c (.i 0)))),
V 4 (.mv (.t 8))]) (.ret))
def vf85 : VF := ⟨vf85c,vf85v,[(4,none)]⟩
theorem ok85 : chkF Try.prog Try.f85 vf85 = true := by kernel_rfl
theorem dr85 : drawsB vf85.body = true := by kernel_rfl
/-- loop.example/g00192/spec.l1Pick -/
def vf86v : List Nat := [0,1,4]
def vf86c : VC := .seq (.rg [V 4 (.mv (.k (.c (.s ⟨#[]⟩))))]) (.seq (.rg [V 5 (.mv (.t 1)),
V 6 (.mv (.t 0)),
V 7 (.mv (.t 1)),
V 8 (.len (.t 7)),
V 9 (.call 83 [(.t 6),(.t 8)]),
V 10 (.idx 1 (.t 5) (.t 9)),
V 11 (.ld none (.t 10)),
V 4 (.mv (.t 11))]) (.ret))
def vf86 : VF := ⟨vf86c,vf86v,[(4,none)]⟩
theorem ok86 : chkF Try.prog Try.f86 vf86 = true := by kernel_rfl
theorem dr86 : drawsB vf86.body = true := by kernel_rfl
/-- loop.example/g00192/spec.l1Names -/
def vf87v : List Nat := [0]
def vf87c : VC := .seq (.rg [V 0 (.mv (.k (.c .ns)))]) (.seq (.rg [V 1 (.bsl 1 [.s ⟨#[]⟩] 11 [(0,1,(.k (.c (.s ⟨#[]⟩)))),(1,1,(.k (.c (.s ⟨#[97,100,100]⟩)))),(2,1,(.k (.c (.s ⟨#[115,117,98]⟩)))),(3,1,(.k (.c (.s ⟨#[109,117,108]⟩)))),(4,1,(.k (.c (.s ⟨#[97,110,100]⟩)))),(5,1,(.k (.c (.s ⟨#[111,114]⟩)))),(6,1,(.k (.c (.s ⟨#[120,111,114]⟩)))),(7,1,(.k (.c (.s ⟨#[108,101,115,115]⟩)))),(8,1,(.k (.c (.s ⟨#[115,97,109,101]⟩)))),(9,1,(.k (.c (.s ⟨#[108,101,102,116]⟩)))),(10,1,(.k (.c (.s ⟨#[114,105,103,104,116]⟩))))]),
V 0 (.mv (.t 1))]) (.ret))
def vf87 : VF := ⟨vf87c,vf87v,[(0,none)]⟩
theorem ok87 : chkF Try.prog Try.f87 vf87 = true := by kernel_rfl
theorem dr87 : drawsB vf87.body = true := by kernel_rfl
/-- slices.Indexstringstring -/
def vf88v : List Nat := [0,1,4,5,7,8,9,16]
def vf88b0 : VC := .seq (.rg [V 9 (.bin .lt (.t 8) (.t 7))]) (.seq (.cond (.t 9) (.skip) (.exit 0)) (.seq (.block 1 (.seq (.rg [V 10 (.mv (.t 8)),
V 5 (.mv (.t 10))]) (.seq (.rg [V 11 (.mv (.t 1)),
V 12 (.mv (.t 0)),
V 13 (.mv (.t 5)),
V 14 (.idx 1 (.t 12) (.t 13)),
V 15 (.ld none (.t 14)),
V 16 (.bin .eq (.t 11) (.t 15))]) (.cond (.t 16) (.seq (.rg [V 17 (.mv (.t 5)),
V 4 (.mv (.t 17))]) (.ret)) (.skip))))) (.rg [V 18 (.bin .add (.t 8) (.k (.c (.i 1)))),
V 8 (.mv (.t 18))])))
def vf88c : VC := .seq (.rg [V 4 (.mv (.k (.c (.i 0))))]) (.seq (.seq (.rg [V 6 (.mv (.t 0)),
V 7 (.len (.t 6)),
V 8 (.mv (.k (.c (.i 0))))]) (.block 0 (.loop vf88b0))) (.seq (.rg [V 4 (.mv (.k (.c (.i (-1)))))]) (.ret)))
def vf88 : VF := ⟨vf88c,vf88v,[(4,none)]⟩
theorem ok88 : chkF Try.prog Try.f88 vf88 = true := by kernel_rfl
theorem dr88 : drawsB vf88.body = true := by kernel_rfl
/-- loop.example/g00192/impl.wordNames -/
def vf89v : List Nat := [0]
def vf89c : VC := .seq (.rg [V 0 (.mv (.k (.c .ns)))]) (.seq (.rg [V 1 (.bsl 1 [.s ⟨#[]⟩] 11 [(0,1,(.k (.c (.s ⟨#[]⟩)))),(1,1,(.k (.c (.s ⟨#[97,100,100]⟩)))),(2,1,(.k (.c (.s ⟨#[115,117,98]⟩)))),(3,1,(.k (.c (.s ⟨#[109,117,108]⟩)))),(4,1,(.k (.c (.s ⟨#[97,110,100]⟩)))),(5,1,(.k (.c (.s ⟨#[111,114]⟩)))),(6,1,(.k (.c (.s ⟨#[120,111,114]⟩)))),(7,1,(.k (.c (.s ⟨#[108,101,115,115]⟩)))),(8,1,(.k (.c (.s ⟨#[115,97,109,101]⟩)))),(9,1,(.k (.c (.s ⟨#[108,101,102,116]⟩)))),(10,1,(.k (.c (.s ⟨#[114,105,103,104,116]⟩))))]),
V 0 (.mv (.t 1))]) (.ret))
def vf89 : VF := ⟨vf89c,vf89v,[(0,none)]⟩
theorem ok89 : chkF Try.prog Try.f89 vf89 = true := by kernel_rfl
theorem dr89 : drawsB vf89.body = true := by kernel_rfl
/-- loop.example/g00192/spec.l1DrawNum -/
def vf90v : List Nat := [0,2,4]
def vf90c : VC := .seq (.rg [V 2 (.mv (.k (.c (.i 0))))]) (.seq (.seq (.rg [V 3 (.mv (.t 0)),
V 4 (.call 85 [(.t 3),(.k (.c (.i 8)))])]) (.cond (.t 4) (.seq (.rg [V 5 (.mv (.t 0)),
V 6 (.bsl 1 [.i 0] 7 [(0,1,(.k (.c (.i 9223372036854775807)))),(1,1,(.k (.c (.i (-9223372036854775808))))),(2,1,(.k (.c (.i 4294967296)))),(3,1,(.k (.c (.i (-1))))),(4,1,(.k (.c (.i 63)))),(5,1,(.k (.c (.i 64)))),(6,1,(.k (.c (.i 1000000007))))]),
V 7 (.call 123 [(.t 5),(.t 6)]),
V 2 (.mv (.t 7))]) (.ret)) (.skip))) (.seq (.rg [V 8 (.mv (.t 0)),
V 9 (.call 83 [(.t 8),(.k (.c (.i 20)))]),
V 10 (.bin .sub (.t 9) (.k (.c (.i 6)))),
V 2 (.mv (.t 10))]) (.ret)))
def vf90 : VF := ⟨vf90c,vf90v,[(2,none)]⟩
theorem ok90 : chkF Try.prog Try.f90 vf90 = true := by kernel_rfl
theorem dr90 : drawsB vf90.body = true := by kernel_rfl
/-- loop.example/g00192/impl.bit -/
def vf91v : List Nat := [0,2,3]
def vf91c : VC := .seq (.rg [V 2 (.mv (.k (.c (.i 0))))]) (.seq (.seq (.rg [V 3 (.mv (.t 0))]) (.cond (.t 3) (.seq (.rg [V 2 (.mv (.k (.c (.i 1))))]) (.ret)) (.skip))) (.seq (.rg [V 2 (.mv (.k (.c (.i 0))))]) (.ret)))
def vf91 : VF := ⟨vf91c,vf91v,[(2,none)]⟩
theorem ok91 : chkF Try.prog Try.f91 vf91 = true := by kernel_rfl
theorem dr91 : drawsB vf91.body = true := by kernel_rfl
/-- loop.example/g00192/spec.l1Bit -/
def vf92v : List Nat := [0,2,3]
def vf92c : VC := .seq (.rg [V 2 (.mv (.k (.c (.i 0))))]) (.seq (.seq (.rg [V 3 (.mv (.t 0))]) (.cond (.t 3) (.seq (.rg [V 2 (.mv (.k (.c (.i 1))))]) (.ret)) (.skip))) (.seq (.rg [V 2 (.mv (.k (.c (.i 0))))]) (.ret)))
def vf92 : VF := ⟨vf92c,vf92v,[(2,none)]⟩
theorem ok92 : chkF Try.prog Try.f92 vf92 = true := by kernel_rfl
theorem dr92 : drawsB vf92.body = true := by kernel_rfl
/-- loop.example/g00192/spec.l1In -/
def vf93v : List Nat := [0,1,2,6]
def vf93c : VC := .seq (.rg [V 6 (.mv (.k (.c (.b false))))]) (.seq (.rg [V 7 (.mv (.t 0)),
V 8 (.mv (.t 1)),
V 9 (.bin .ge (.t 7) (.t 8)),
V 10 (.mv (.t 9)),
Vg 11 10 true (.mv (.t 0)),
Vg 12 10 true (.mv (.t 2)),
Vg 13 10 true (.bin .le (.t 11) (.t 12)),
V 14 (.pick (.t 10) (.t 13) (.k (.c (.b false)))),
V 6 (.mv (.t 14))]) (.ret))
def vf93 : VF := ⟨vf93c,vf93v,[(6,none)]⟩
theorem ok93 : chkF Try.prog Try.f93 vf93 = true := by kernel_rfl
theorem dr93 : drawsB vf93.body = true := by kernel_rfl
/-- loop.example/g00192/laws.toMove -/
def vf94v : List Nat := [0,1,2,3]
def vf94c : VC := .seq (.rg [V 1 (.box (.t 0)),
V 2 (.alloc [.i 0,.i 0])]) (.seq (.rg [V 3 (.alloc [.i 0,.i 0])]) (.seq (.rg [V 4 (.fad 0 (.t 1)),
V 5 (.ld none (.t 4)),
V 6 (.fad 0 (.t 3)),
Vn (.st 1 (.t 6) (.t 5))]) (.seq (.rg [V 7 (.fad 1 (.t 1)),
V 8 (.ld none (.t 7)),
V 9 (.fad 1 (.t 3)),
Vn (.st 1 (.t 9) (.t 8))]) (.seq (.rg [V 10 (.ld (some 2) (.t 3)),
Vn (.st 2 (.t 2) (.t 10))]) (.ret)))))
def vf94 : VF := ⟨vf94c,vf94v,[(2,(some (some 2)))]⟩
theorem ok94 : chkF Try.prog Try.f94 vf94 = true := by kernel_rfl
theorem dr94 : drawsB vf94.body = true := by kernel_rfl
/-- loop.example/g00192/laws.eqMove -/
def vf95v : List Nat := [0,1,2,3,4,9,14]
def vf95c : VC := .seq (.rg [V 2 (.box (.t 0)),
V 3 (.box (.t 1)),
V 4 (.mv (.k (.c (.b false))))]) (.seq (.seq (.rg [V 5 (.fad 0 (.t 2)),
V 6 (.ld none (.t 5)),
V 7 (.fad 0 (.t 3)),
V 8 (.ld none (.t 7)),
V 9 (.bin .ne (.t 6) (.t 8))]) (.cond (.t 9) (.seq (.rg [V 4 (.mv (.k (.c (.b false))))]) (.ret)) (.skip))) (.seq (.seq (.rg [V 10 (.fad 1 (.t 2)),
V 11 (.ld none (.t 10)),
V 12 (.fad 1 (.t 3)),
V 13 (.ld none (.t 12)),
V 14 (.bin .ne (.t 11) (.t 13))]) (.cond (.t 14) (.seq (.rg [V 4 (.mv (.k (.c (.b false))))]) (.ret)) (.skip))) (.seq (.rg [V 4 (.mv (.k (.c (.b true))))]) (.ret))))
def vf95 : VF := ⟨vf95c,vf95v,[(4,none)]⟩
theorem ok95 : chkF Try.prog Try.f95 vf95 = true := by kernel_rfl
theorem dr95 : drawsB vf95.body = true := by kernel_rfl
/-- loop.example/g00192/spec.l2Draw -/
def vf96v : List Nat := [0,2,3,4,5,21,22,31,42,64,67,84,87,105,108,123,132,151]
def vf96r0 : List VO := [V 109 (.fad 0 (.t 3)),Vd [0] (V 110 (.ld none (.t 109))),V 111 (.mv (.t 4)),Vd [1,2] (V 112 (.idx 6 (.t 110) (.t 111))),Vd [3] (V 113 (.fad 1 (.t 112))),Vd [4] (V 114 (.ld none (.t 113))),V 115 (.mv (.t 0)),V 116 (.mv (.t 5)),Vd [6,7] (V 117 (.call 83 [(.t 115),(.t 116)])),V 118 (.mv (.t 0)),V 119 (.bsl 1 [.i 0] 10 [(0,1,(.k (.c (.i 0)))),(1,1,(.k (.c (.i 1)))),(2,1,(.k (.c (.i 11)))),(3,1,(.k (.c (.i 20)))),(4,1,(.k (.c (.i 21)))),(5,1,(.k (.c (.i 22)))),(6,1,(.k (.c (.i 23)))),(7,1,(.k (.c (.i 24)))),(8,1,(.k (.c (.i 25)))),(9,1,(.k (.c (.i 26))))]),Vd [8,9,10] (V 120 (.call 123 [(.t 118),(.t 119)])),Vd [5,11] (V 121 (.idx 5 (.t 114) (.t 117))),Vd [12] (V 122 (.fad 0 (.t 121))),Vd [13] (Vn (.st 1 (.t 122) (.t 120)))]
def vf96t0 : VT := .split 8 10 (.leaf [(0,Vc [] [] false (V 109 (.fad 0 (.t 3)))),
(1,Vc [0] [] true (V 110 (.ld none (.t 109)))),
(2,Vc [] [] false (V 111 (.mv (.t 4)))),
(3,Vc [1,2] [] false (V 112 (.idx 6 (.t 110) (.t 111)))),
(4,Vc [3] [] false (V 113 (.fad 1 (.t 112)))),
(5,Vc [4] [] true (V 114 (.ld none (.t 113)))),
(6,Vc [] [] false (V 115 (.mv (.t 0)))),
(7,Vc [] [] false (V 116 (.mv (.t 5)))),
(8,Vc [6,7] [1,5] false (V 117 (.call 83 [(.t 115),(.t 116)]))),
(9,Vc [] [] false (V 118 (.mv (.t 0)))),
(10,Vc [] [1,5] false (V 119 (.bsl 1 [.i 0] 10 [(0,1,(.k (.c (.i 0)))),(1,1,(.k (.c (.i 1)))),(2,1,(.k (.c (.i 11)))),(3,1,(.k (.c (.i 20)))),(4,1,(.k (.c (.i 21)))),(5,1,(.k (.c (.i 22)))),(6,1,(.k (.c (.i 23)))),(7,1,(.k (.c (.i 24)))),(8,1,(.k (.c (.i 25)))),(9,1,(.k (.c (.i 26))))]))),
(11,Vc [8,9,10] [1,5] false (V 120 (.call 123 [(.t 118),(.t 119)]))),
(12,Vc [5,11] [] false (V 121 (.idx 5 (.t 114) (.t 117)))),
(13,Vc [12] [] false (V 122 (.fad 0 (.t 121)))),
(14,Vc [13] [] false (Vn (.st 1 (.t 122) (.t 120))))]) (.leaf [(0,Vc [] [] false (V 109 (.fad 0 (.t 3)))),
(1,Vc [0] [] true (V 110 (.ld none (.t 109)))),
(2,Vc [] [] false (V 111 (.mv (.t 4)))),
(3,Vc [1,2] [] false (V 112 (.idx 6 (.t 110) (.t 111)))),
(4,Vc [3] [] false (V 113 (.fad 1 (.t 112)))),
(5,Vc [4] [] true (V 114 (.ld none (.t 113)))),
(6,Vc [] [] false (V 115 (.mv (.t 0)))),
(7,Vc [] [] false (V 116 (.mv (.t 5)))),
(9,Vc [] [] false (V 118 (.mv (.t 0)))),
(10,Vc [] [1,5] false (V 119 (.bsl 1 [.i 0] 10 [(0,1,(.k (.c (.i 0)))),(1,1,(.k (.c (.i 1)))),(2,1,(.k (.c (.i 11)))),(3,1,(.k (.c (.i 20)))),(4,1,(.k (.c (.i 21)))),(5,1,(.k (.c (.i 22)))),(6,1,(.k (.c (.i 23)))),(7,1,(.k (.c (.i 24)))),(8,1,(.k (.c (.i 25)))),(9,1,(.k (.c (.i 26))))]))),
(8,Vc [6,7] [1,5] false (V 117 (.call 83 [(.t 115),(.t 116)]))),
(11,Vc [8,9,10] [1,5] false (V 120 (.call 123 [(.t 118),(.t 119)]))),
(12,Vc [5,11] [] false (V 121 (.idx 5 (.t 114) (.t 117)))),
(13,Vc [12] [] false (V 122 (.fad 0 (.t 121)))),
(14,Vc [13] [] false (Vn (.st 1 (.t 122) (.t 120))))])
def vf96c : VC := .seq (.rg [V 2 (.alloc [.ns,.i 0])]) (.seq (.rg [V 6 (.mv (.t 0)),
V 7 (.call 124 [(.t 6)]),
V 3 (.alloc [.ns,.i 0]),
Vn (.st 2 (.t 3) (.t 7))]) (.seq (.rg [V 8 (.mv (.t 0)),
V 9 (.fad 0 (.t 3)),
V 10 (.ld none (.t 9)),
V 11 (.len (.t 10)),
V 12 (.call 83 [(.t 8),(.t 11)]),
V 4 (.mv (.t 12))]) (.seq (.rg [V 13 (.fad 0 (.t 3)),
V 14 (.ld none (.t 13)),
V 15 (.mv (.t 4)),
V 16 (.idx 6 (.t 14) (.t 15)),
V 17 (.fad 1 (.t 16)),
V 18 (.ld none (.t 17)),
V 19 (.len (.t 18)),
V 5 (.mv (.t 19))]) (.seq (.seq (.rg [V 20 (.mv (.t 0)),
V 21 (.call 83 [(.t 20),(.k (.c (.i 16)))])]) (.block 0 (.seq (.rg [V 23 (.bin .eq (.t 21) (.k (.c (.i 0)))),
V 22 (.mv (.t 23))]) (.cond (.t 22) (.rg [V 24 (.mv (.t 0)),
V 25 (.fad 1 (.t 3)),
V 26 (.ld none (.t 25)),
V 27 (.bin .sub (.t 26) (.k (.c (.i 1)))),
V 28 (.bsl 1 [.i 0] 5 [(0,1,(.k (.c (.i (-1))))),(1,1,(.k (.c (.i 0)))),(2,1,(.t 27)),(3,1,(.k (.c (.i 80)))),(4,1,(.k (.c (.i 81))))]),
V 29 (.call 123 [(.t 24),(.t 28)]),
V 30 (.fad 1 (.t 3)),
Vn (.st 1 (.t 30) (.t 29))]) (.seq (.rg [V 32 (.bin .eq (.t 21) (.k (.c (.i 1)))),
V 31 (.mv (.t 32))]) (.cond (.t 31) (.rd [V 33 (.fad 0 (.t 3)),
Vc [0] [] true (V 34 (.ld none (.t 33))),
V 35 (.mv (.t 4)),
V 36 (.mv (.t 0)),
Vc [3] [1] false (V 37 (.call 83 [(.t 36),(.k (.c (.i 18)))])),
Vd [4] (V 38 (.bin .sub (.t 37) (.k (.c (.i 1))))),
Vd [1,2,5] (V 39 (.idx 6 (.t 34) (.t 35))),
Vd [6] (V 40 (.fad 2 (.t 39))),
Vd [7] (V 41 (.fad 2 (.t 40))),
Vd [8] (Vn (.st 1 (.t 41) (.t 38)))]) (.seq (.rg [V 43 (.bin .eq (.t 21) (.k (.c (.i 2)))),
V 42 (.mv (.t 43))]) (.cond (.t 42) (.rd [V 44 (.fad 0 (.t 3)),
Vc [0] [] true (V 45 (.ld none (.t 44))),
V 46 (.mv (.t 4)),
V 47 (.mv (.t 0)),
Vc [3] [1] true (V 48 (.call 83 [(.t 47),(.k (.c (.i 5)))])),
V 49 (.mv (.t 0)),
Vc [4,5] [1] true (V 50 (.call 83 [(.t 49),(.k (.c (.i 5)))])),
V 51 (.mv (.t 0)),
V 52 (.fad 0 (.t 3)),
Vc [8] [4,6] false (V 53 (.ld none (.t 52))),
Vd [9] (V 54 (.len (.t 53))),
Vc [6,7,10] [1] true (V 55 (.call 83 [(.t 51),(.t 54)])),
V 56 (.mv (.t 0)),
V 57 (.fad 0 (.t 3)),
Vc [13] [4,6,11] false (V 58 (.ld none (.t 57))),
Vd [14] (V 59 (.len (.t 58))),
Vc [11,12,15] [1] false (V 60 (.call 83 [(.t 56),(.t 59)])),
Vd [16] (V 61 (.build [.i 0,.i 0,.i 0,.i 0] [(0,1,(.t 48)),(1,1,(.t 50)),(2,1,(.t 55)),(3,1,(.t 60))])),
Vd [1,2,17] (V 62 (.idx 6 (.t 45) (.t 46))),
Vd [18] (V 63 (.fad 2 (.t 62))),
Vd [19] (Vn (.st 4 (.t 63) (.t 61)))]) (.seq (.rg [V 65 (.bin .eq (.t 21) (.k (.c (.i 3)))),
V 64 (.mv (.t 65))]) (.cond (.t 64) (.seq (.rg [V 66 (.mv (.t 5)),
V 67 (.bin .gt (.t 66) (.k (.c (.i 0))))]) (.cond (.t 67) (.rd [V 68 (.fad 0 (.t 3)),
Vc [0] [] true (V 69 (.ld none (.t 68))),
V 70 (.mv (.t 4)),
Vd [1,2] (V 71 (.idx 6 (.t 69) (.t 70))),
Vd [3] (V 72 (.fad 1 (.t 71))),
Vc [4] [] true (V 73 (.ld none (.t 72))),
V 74 (.mv (.t 0)),
V 75 (.mv (.t 5)),
Vc [6,7] [1,5] true (V 76 (.call 83 [(.t 74),(.t 75)])),
V 77 (.mv (.t 0)),
V 78 (.fad 1 (.t 3)),
Vc [10] [8] false (V 79 (.ld none (.t 78))),
Vd [11] (V 80 (.bin .add (.t 79) (.k (.c (.i 1))))),
Vc [8,9,12] [1,5] false (V 81 (.call 83 [(.t 77),(.t 80)])),
Vd [5,13] (V 82 (.idx 5 (.t 73) (.t 76))),
Vd [14] (V 83 (.fad 2 (.t 82))),
Vd [15] (Vn (.st 1 (.t 83) (.t 81)))]) (.skip))) (.seq (.rg [V 85 (.bin .eq (.t 21) (.k (.c (.i 4)))),
V 84 (.mv (.t 85))]) (.cond (.t 84) (.seq (.rg [V 86 (.mv (.t 5)),
V 87 (.bin .gt (.t 86) (.k (.c (.i 0))))]) (.cond (.t 87) (.rd [V 88 (.fad 0 (.t 3)),
Vc [0] [] true (V 89 (.ld none (.t 88))),
V 90 (.mv (.t 4)),
Vd [1,2] (V 91 (.idx 6 (.t 89) (.t 90))),
Vd [3] (V 92 (.fad 1 (.t 91))),
Vc [4] [] true (V 93 (.ld none (.t 92))),
V 94 (.mv (.t 0)),
V 95 (.mv (.t 5)),
Vc [6,7] [1,5] true (V 96 (.call 83 [(.t 94),(.t 95)])),
V 97 (.mv (.t 0)),
V 98 (.fad 1 (.t 3)),
Vc [10] [8] false (V 99 (.ld none (.t 98))),
Vd [11] (V 100 (.bin .add (.t 99) (.k (.c (.i 1))))),
Vc [8,9,12] [1,5] false (V 101 (.call 83 [(.t 97),(.t 100)])),
Vd [13] (V 102 (.bin .sub (.t 101) (.k (.c (.i 1))))),
Vd [5,14] (V 103 (.idx 5 (.t 93) (.t 96))),
Vd [15] (V 104 (.fad 1 (.t 103))),
Vd [16] (Vn (.st 1 (.t 104) (.t 102)))]) (.skip))) (.seq (.rg [V 106 (.bin .eq (.t 21) (.k (.c (.i 5)))),
V 105 (.mv (.t 106))]) (.cond (.t 105) (.seq (.rg [V 107 (.mv (.t 5)),
V 108 (.bin .gt (.t 107) (.k (.c (.i 0))))]) (.cond (.t 108) (.rx vf96r0 vf96t0) (.skip))) (.seq (.rg [V 124 (.bin .eq (.t 21) (.k (.c (.i 6)))),
V 123 (.mv (.t 124))]) (.cond (.t 123) (.seq (.rg [V 125 (.fad 0 (.t 3)),
V 126 (.ld none (.t 125)),
V 127 (.mv (.t 4)),
V 128 (.idx 6 (.t 126) (.t 127)),
V 129 (.fad 0 (.t 128)),
V 130 (.ld none (.t 129)),
V 131 (.len (.t 130)),
V 132 (.bin .gt (.t 131) (.k (.c (.i 0))))]) (.cond (.t 132) (.rd [V 133 (.fad 0 (.t 3)),
Vd [0] (V 134 (.ld none (.t 133))),
V 135 (.mv (.t 4)),
Vd [1,2] (V 136 (.idx 6 (.t 134) (.t 135))),
Vd [3] (V 137 (.fad 0 (.t 136))),
Vd [4] (V 138 (.ld none (.t 137))),
V 139 (.fad 0 (.t 3)),
Vd [6] (V 140 (.ld none (.t 139))),
V 141 (.mv (.t 4)),
Vd [7,8] (V 142 (.idx 6 (.t 140) (.t 141))),
Vd [9] (V 143 (.fad 0 (.t 142))),
Vd [10] (V 144 (.ld none (.t 143))),
Vd [11] (V 145 (.idx 2 (.t 144) (.k (.c (.i 0))))),
Vd [12] (V 146 (.fad 1 (.t 145))),
Vd [13] (V 147 (.ld none (.t 146))),
Vd [14] (V 148 (.slc 2 (.t 147) (some (.k (.c (.i 1)))) none)),
Vd [5,15] (V 149 (.idx 2 (.t 138) (.k (.c (.i 0))))),
Vd [16] (V 150 (.fad 1 (.t 149))),
Vd [17] (Vn (.st 1 (.t 150) (.t 148)))]) (.skip))) (.seq (.rg [V 152 (.bin .eq (.t 21) (.k (.c (.i 7)))),
V 151 (.mv (.t 152))]) (.cond (.t 151) (.rd [V 153 (.fad 0 (.t 3)),
Vc [0] [] true (V 154 (.ld none (.t 153))),
V 155 (.mv (.t 4)),
V 156 (.fad 0 (.t 3)),
Vc [3] [] true (V 157 (.ld none (.t 156))),
V 158 (.mv (.t 4)),
Vd [4,5] (V 159 (.idx 6 (.t 157) (.t 158))),
Vd [6] (V 160 (.fad 0 (.t 159))),
Vc [7] [] true (V 161 (.ld none (.t 160))),
V 162 (.mv (.t 0)),
V 163 (.fad 1 (.t 3)),
Vd [10] (V 164 (.ld none (.t 163))),
Vc [11] [1,4,8] false (V 165 (.call 107 [(.t 164),(.k (.c (.i 1)))])),
Vc [9,12] [1,4,8] false (V 166 (.call 83 [(.t 162),(.t 165)])),
Vd [13] (V 167 (.build [.i 0,.ns] [(0,1,(.t 166))])),
Vc [14] [1,4,8] false (V 168 (.bsl 2 [.i 0,.ns] 1 [(0,2,(.t 167))])),
Vc [8,15] [1] false (V 169 (.app 2 (.t 161) (.t 168))),
Vd [1,2,16] (V 170 (.idx 6 (.t 154) (.t 155))),
Vd [17] (V 171 (.fad 0 (.t 170))),
Vd [18] (Vn (.st 1 (.t 171) (.t 169)))]) (.skip))))))))))))))))))) (.seq (.rg [V 172 (.ld (some 2) (.t 3)),
Vn (.st 2 (.t 2) (.t 172))]) (.ret))))))
def vf96 : VF := ⟨vf96c,vf96v,[(2,(some (some 2)))]⟩
theorem ok96 : chkF Try.prog Try.f96 vf96 = true := by kernel_rfl
theorem dr96 : drawsB vf96.body = true := by kernel_rfl
/-- loop.example/g00192/impl.ShapeOk -/
def vf97v : List Nat := [0,1,2,3,15]
def vf97c : VC := .seq (.rg [V 1 (.box (.t 0)),
V 2 (.mv (.k (.c (.b false))))]) (.seq (.rg [V 4 (.fad 0 (.t 1)),
V 5 (.ld none (.t 4)),
V 6 (.len (.t 5)),
V 3 (.alloc [.i 0]),
Vn (.st 1 (.t 3) (.t 6))]) (.seq (.seq (.rg [V 7 (.ld none (.t 3)),
V 8 (.call 82 [(.t 7),(.k (.c (.i 1))),(.k (.c (.i 16)))]),
V 9 (.not (.t 8)),
V 10 (.mv (.t 9)),
Vg 11 10 false (.fad 1 (.t 1)),
Vg 12 10 false (.ld none (.t 11)),
Vg 13 10 false (.call 82 [(.t 12),(.k (.c (.i 0))),(.k (.c (.i 80)))]),
Vg 14 10 false (.not (.t 13)),
V 15 (.pick (.t 10) (.k (.c (.b true))) (.t 14))]) (.cond (.t 15) (.seq (.rg [V 2 (.mv (.k (.c (.b false))))]) (.ret)) (.skip))) (.seq (.rg [V 16 (.fad 0 (.t 1)),
V 17 (.ld none (.t 16)),
V 18 (.mkf 126 [(.t 3),(.t 1)]),
V 19 (.call 125 [(.t 17),(.t 18)]),
V 20 (.not (.t 19)),
V 2 (.mv (.t 20))]) (.ret))))
def vf97 : VF := ⟨vf97c,vf97v,[(2,none)]⟩
theorem ok97 : chkF Try.prog Try.f97 vf97 = true := by kernel_rfl
theorem dr97 : drawsB vf97.body = true := by kernel_rfl
end Go.Proofs.Ytnpbldjbfkpbcaa.Vm
