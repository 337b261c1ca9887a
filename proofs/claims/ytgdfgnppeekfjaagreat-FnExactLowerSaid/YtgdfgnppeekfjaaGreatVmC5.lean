/- The ideal machine's code for some of the program's functions, each checked against the translated one. No conditions. -/
import Derived.Test.YtgdfgnppeekfjaaGreatChecked
import Derived.Test.YtgdfgnppeekfjaaGreatVmQ
import Derived.Test.YtgdfgnppeekfjaaGreatVmC
namespace Go.Proofs.YtgdfgnppeekfjaaGreat.Vm
set_option linter.unusedVariables false
set_option maxRecDepth 100000
def vf197v : List Nat := [0,1,4,5,7,8,9,16]
def vf197b0 : VC := .seq (.rg [V 9 (.bin .lt (.t 8) (.t 7))]) (.seq (.cond (.t 9) (.skip) (.exit 0)) (.seq (.block 1 (.seq (.rg [V 10 (.mv (.t 8)),
V 5 (.mv (.t 10))]) (.seq (.rg [V 11 (.mv (.t 1)),
V 12 (.mv (.t 0)),
V 13 (.mv (.t 5)),
V 14 (.idx 2 (.t 12) (.t 13)),
V 15 (.ld (some 2) (.t 14)),
V 16 (.clv (.t 11) [(.t 15)])]) (.cond (.t 16) (.seq (.rg [V 17 (.mv (.t 5)),
V 4 (.mv (.t 17))]) (.ret)) (.skip))))) (.rg [V 18 (.bin .add (.t 8) (.k (.c (.i 1)))),
V 8 (.mv (.t 18))])))
def vf197c : VC := .seq (.rg [V 4 (.mv (.k (.c (.i 0))))]) (.seq (.seq (.rg [V 6 (.mv (.t 0)),
V 7 (.len (.t 6)),
V 8 (.mv (.k (.c (.i 0))))]) (.block 0 (.loop vf197b0))) (.seq (.rg [V 4 (.mv (.k (.c (.i (-1)))))]) (.ret)))
def vf197 : VF := ⟨vf197c,vf197v,[(4,none)]⟩
theorem ok197 : chkF Tryz.prog Tryz.f197 vf197 = true := by kernel_rfl
theorem dr197 : drawsB vf197.body = true := by kernel_rfl
def vf201v : List Nat := [0,1,4,5,7,8,9,16]
def vf201b0 : VC := .seq (.rg [V 9 (.bin .lt (.t 8) (.t 7))]) (.seq (.cond (.t 9) (.skip) (.exit 0)) (.seq (.block 1 (.seq (.rg [V 10 (.mv (.t 8)),
V 5 (.mv (.t 10))]) (.seq (.rg [V 11 (.mv (.t 1)),
V 12 (.mv (.t 0)),
V 13 (.mv (.t 5)),
V 14 (.idx 1 (.t 12) (.t 13)),
V 15 (.ld none (.t 14)),
V 16 (.bin .eq (.t 11) (.t 15))]) (.cond (.t 16) (.seq (.rg [V 17 (.mv (.t 5)),
V 4 (.mv (.t 17))]) (.ret)) (.skip))))) (.rg [V 18 (.bin .add (.t 8) (.k (.c (.i 1)))),
V 8 (.mv (.t 18))])))
def vf201c : VC := .seq (.rg [V 4 (.mv (.k (.c (.i 0))))]) (.seq (.seq (.rg [V 6 (.mv (.t 0)),
V 7 (.len (.t 6)),
V 8 (.mv (.k (.c (.i 0))))]) (.block 0 (.loop vf201b0))) (.seq (.rg [V 4 (.mv (.k (.c (.i (-1)))))]) (.ret)))
def vf201 : VF := ⟨vf201c,vf201v,[(4,none)]⟩
theorem ok201 : chkF Tryz.prog Tryz.f201 vf201 = true := by kernel_rfl
theorem dr201 : drawsB vf201.body = true := by kernel_rfl
def vf202v : List Nat := [0,1,2,3,5]
def vf202c : VC := .seq (.rg [V 5 (.mv (.k (.c (.b false))))]) (.seq (.rg [V 6 (.ld (some 3) (.t 1)),
V 7 (.mv (.t 0)),
V 8 (.ld none (.t 2)),
V 9 (.ld none (.t 3)),
V 10 (.call 203 [(.t 6),(.t 7),(.t 8),(.t 9)]),
V 11 (.not (.t 10)),
V 5 (.mv (.t 11))]) (.ret))
def vf202 : VF := ⟨vf202c,vf202v,[(5,none)]⟩
theorem ok202 : chkF Tryz.prog Tryz.f202 vf202 = true := by kernel_rfl
theorem dr202 : drawsB vf202.body = true := by kernel_rfl
def vf203v : List Nat := [0,1,2,3,4,8,9,10,20]
def vf203c : VC := .seq (.rg [V 4 (.box (.t 0)),
V 8 (.mv (.k (.c (.b false))))]) (.seq (.rg [V 12 (.fad 0 (.t 4)),
V 13 (.ld (some 2) (.t 12)),
V 14 (.mv (.t 1)),
V 15 (.call 31 [(.t 13),(.t 14)]),
V 11 (.mv (.t 15)),
V 16 (.ext 0 (.t 11)),
V 17 (.ext 1 (.t 11)),
V 9 (.mv (.t 16)),
V 10 (.mv (.t 17))]) (.seq (.seq (.rg [V 18 (.mv (.t 9)),
V 19 (.mv (.t 2)),
V 20 (.bin .eq (.t 18) (.t 19))]) (.cond (.t 20) (.seq (.rg [V 21 (.mv (.t 10)),
V 22 (.mv (.t 3)),
V 23 (.bin .lt (.t 21) (.t 22)),
V 8 (.mv (.t 23))]) (.ret)) (.skip))) (.seq (.rg [V 24 (.fad 2 (.t 4)),
V 25 (.ld none (.t 24)),
V 26 (.mv (.t 9)),
V 27 (.mv (.t 2)),
V 28 (.call 103 [(.t 25),(.t 26),(.t 27)]),
V 8 (.mv (.t 28))]) (.ret))))
def vf203 : VF := ⟨vf203c,vf203v,[(8,none)]⟩
theorem ok203 : chkF Tryz.prog Tryz.f203 vf203 = true := by kernel_rfl
theorem dr203 : drawsB vf203.body = true := by kernel_rfl
def vf204v : List Nat := [0,1,2,3,5]
def vf204c : VC := .seq (.rg [V 5 (.mv (.k (.c (.b false))))]) (.seq (.rg [V 6 (.ld (some 3) (.t 1)),
V 7 (.mv (.t 0)),
V 8 (.ld none (.t 2)),
V 9 (.fad 1 (.t 3)),
V 10 (.ld none (.t 9)),
V 11 (.len (.t 10)),
V 12 (.call 203 [(.t 6),(.t 7),(.t 8),(.t 11)]),
V 13 (.not (.t 12)),
V 5 (.mv (.t 13))]) (.ret))
def vf204 : VF := ⟨vf204c,vf204v,[(5,none)]⟩
theorem ok204 : chkF Tryz.prog Tryz.f204 vf204 = true := by kernel_rfl
theorem dr204 : drawsB vf204.body = true := by kernel_rfl
def vf205v : List Nat := [0,1,2,4,5,11]
def vf205c : VC := .seq (.rg [V 2 (.box (.t 0)),
V 4 (.mv (.k (.c .ns)))]) (.seq (.rg [V 6 (.fad 0 (.t 2)),
V 7 (.ld none (.t 6)),
V 8 (.len (.t 7)),
V 9 (.mks 1 [.b false] (.t 8)),
V 5 (.mv (.t 9))]) (.seq (.seq (.rg [V 10 (.mv (.t 1)),
V 11 (.bin .eq (.t 10) (.k (.c (.i 0))))]) (.cond (.t 11) (.seq (.rg [V 12 (.mv (.t 5)),
V 4 (.mv (.t 12))]) (.ret)) (.skip))) (.seq (.rg [V 13 (.mv (.t 5)),
V 14 (.mv (.t 1)),
V 15 (.idx 1 (.t 13) (.t 14)),
Vn (.st 1 (.t 15) (.k (.c (.b true))))]) (.seq (.rg [V 16 (.ld (some 2) (.t 2)),
V 17 (.mv (.t 5)),
V 18 (.bsl 1 [.i 0] 0 []),
V 19 (.call 156 [(.t 16),(.k (.c (.i 0))),(.t 17),(.t 18)])]) (.seq (.rg [V 20 (.mv (.t 5)),
V 21 (.mv (.t 1)),
V 22 (.idx 1 (.t 20) (.t 21)),
Vn (.st 1 (.t 22) (.k (.c (.b false))))]) (.seq (.rg [V 23 (.mv (.t 5)),
V 4 (.mv (.t 23))]) (.ret)))))))
def vf205 : VF := ⟨vf205c,vf205v,[(4,none)]⟩
theorem ok205 : chkF Tryz.prog Tryz.f205 vf205 = true := by kernel_rfl
theorem dr205 : drawsB vf205.body = true := by kernel_rfl
def vf206v : List Nat := [0,1,2,4,5,6,7,8,13,24,38,48,66]
def vf206b0 : VC := .seq (.seq (.rg [V 16 (.mv (.t 7)),
V 17 (.fad 0 (.t 2)),
V 18 (.ld none (.t 17)),
V 19 (.mv (.t 6)),
V 20 (.idx 6 (.t 18) (.t 19)),
V 21 (.fad 0 (.t 20)),
V 22 (.ld none (.t 21)),
V 23 (.len (.t 22)),
V 24 (.bin .lt (.t 16) (.t 23))]) (.cond (.t 24) (.skip) (.exit 2))) (.seq (.block 3 (.seq (.rg [V 27 (.fad 0 (.t 2)),
V 28 (.ld none (.t 27)),
V 29 (.mv (.t 6)),
V 30 (.idx 6 (.t 28) (.t 29)),
V 31 (.fad 0 (.t 30)),
V 32 (.ld none (.t 31)),
V 33 (.mv (.t 7)),
V 34 (.idx 2 (.t 32) (.t 33)),
V 35 (.fad 0 (.t 34)),
V 36 (.ld none (.t 35)),
V 37 (.mv (.t 1)),
V 38 (.bin .eq (.t 36) (.t 37))]) (.cond (.t 38) (.seq (.rg [V 39 (.mv (.t 6)),
V 4 (.mv (.t 39)),
V 5 (.mv (.k (.c (.i (-1)))))]) (.ret)) (.skip)))) (.rg [V 25 (.mv (.t 7)),
V 26 (.bin .add (.t 25) (.k (.c (.i 1)))),
V 7 (.mv (.t 26))]))
def vf206b1 : VC := .seq (.seq (.rg [V 40 (.mv (.t 8)),
V 41 (.fad 0 (.t 2)),
V 42 (.ld none (.t 41)),
V 43 (.mv (.t 6)),
V 44 (.idx 6 (.t 42) (.t 43)),
V 45 (.fad 1 (.t 44)),
V 46 (.ld none (.t 45)),
V 47 (.len (.t 46)),
V 48 (.bin .lt (.t 40) (.t 47))]) (.cond (.t 48) (.skip) (.exit 4))) (.seq (.block 5 (.seq (.rg [V 51 (.mv (.t 1)),
V 52 (.bin .ge (.t 51) (.k (.c (.i 0)))),
V 53 (.mv (.t 52)),
Vg 54 53 true (.fad 0 (.t 2)),
Vg 55 53 true (.ld none (.t 54)),
Vg 56 53 true (.mv (.t 6)),
Vg 57 53 true (.idx 6 (.t 55) (.t 56)),
Vg 58 53 true (.fad 1 (.t 57)),
Vg 59 53 true (.ld none (.t 58)),
Vg 60 53 true (.mv (.t 8)),
Vg 61 53 true (.idx 5 (.t 59) (.t 60)),
Vg 62 53 true (.ld (some 5) (.t 61)),
Vg 63 53 true (.call 121 [(.t 62)]),
Vg 64 53 true (.mv (.t 1)),
Vg 65 53 true (.bin .eq (.t 63) (.t 64)),
V 66 (.pick (.t 53) (.t 65) (.k (.c (.b false))))]) (.cond (.t 66) (.seq (.rg [V 67 (.mv (.t 6)),
V 68 (.mv (.t 8)),
V 4 (.mv (.t 67)),
V 5 (.mv (.t 68))]) (.ret)) (.skip)))) (.rg [V 49 (.mv (.t 8)),
V 50 (.bin .add (.t 49) (.k (.c (.i 1)))),
V 8 (.mv (.t 50))]))
def vf206b2 : VC := .seq (.seq (.rg [V 9 (.mv (.t 6)),
V 10 (.fad 0 (.t 2)),
V 11 (.ld none (.t 10)),
V 12 (.len (.t 11)),
V 13 (.bin .lt (.t 9) (.t 12))]) (.cond (.t 13) (.skip) (.exit 0))) (.seq (.block 1 (.seq (.seq (.rg [V 7 (.mv (.k (.c (.i 0))))]) (.block 2 (.loop vf206b0))) (.seq (.rg [V 8 (.mv (.k (.c (.i 0))))]) (.block 4 (.loop vf206b1))))) (.rg [V 14 (.mv (.t 6)),
V 15 (.bin .add (.t 14) (.k (.c (.i 1)))),
V 6 (.mv (.t 15))]))
def vf206c : VC := .seq (.rg [V 2 (.box (.t 0)),
V 4 (.mv (.k (.c (.i 0)))),
V 5 (.mv (.k (.c (.i 0))))]) (.seq (.seq (.rg [V 6 (.mv (.k (.c (.i 0))))]) (.block 0 (.loop vf206b2))) (.seq (.rg [V 4 (.mv (.k (.c (.i (-1))))),
V 5 (.mv (.k (.c (.i (-2)))))]) (.ret)))
def vf206 : VF := ⟨vf206c,vf206v,[(4,none),(5,none)]⟩
theorem ok206 : chkF Tryz.prog Tryz.f206 vf206 = true := by kernel_rfl
theorem dr206 : drawsB vf206.body = true := by kernel_rfl
def vf207v : List Nat := [0,1,4,5,7,8,9,16]
def vf207b0 : VC := .seq (.rg [V 9 (.bin .lt (.t 8) (.t 7))]) (.seq (.cond (.t 9) (.skip) (.exit 0)) (.seq (.block 1 (.seq (.rg [V 10 (.mv (.t 8)),
V 5 (.mv (.t 10))]) (.seq (.rg [V 11 (.mv (.t 1)),
V 12 (.mv (.t 0)),
V 13 (.mv (.t 5)),
V 14 (.idx 1 (.t 12) (.t 13)),
V 15 (.ld none (.t 14)),
V 16 (.bin .eq (.t 11) (.t 15))]) (.cond (.t 16) (.seq (.rg [V 17 (.mv (.t 5)),
V 4 (.mv (.t 17))]) (.ret)) (.skip))))) (.rg [V 18 (.bin .add (.t 8) (.k (.c (.i 1)))),
V 8 (.mv (.t 18))])))
def vf207c : VC := .seq (.rg [V 4 (.mv (.k (.c (.i 0))))]) (.seq (.seq (.rg [V 6 (.mv (.t 0)),
V 7 (.len (.t 6)),
V 8 (.mv (.k (.c (.i 0))))]) (.block 0 (.loop vf207b0))) (.seq (.rg [V 4 (.mv (.k (.c (.i (-1)))))]) (.ret)))
def vf207 : VF := ⟨vf207c,vf207v,[(4,none)]⟩
theorem ok207 : chkF Tryz.prog Tryz.f207 vf207 = true := by kernel_rfl
theorem dr207 : drawsB vf207.body = true := by kernel_rfl
def vf208v : List Nat := [0,1,4,5,11,15,25]
def vf208b0 : VC := .seq (.seq (.rg [V 12 (.mv (.t 5)),
V 13 (.mv (.t 0)),
V 14 (.len (.t 13)),
V 15 (.bin .lt (.t 12) (.t 14))]) (.cond (.t 15) (.skip) (.exit 0))) (.seq (.block 1 (.seq (.rg [V 18 (.mv (.t 0)),
V 19 (.mv (.t 5)),
V 20 (.idx 2 (.t 18) (.t 19)),
V 21 (.ld (some 2) (.t 20)),
V 22 (.mv (.t 1)),
V 23 (.call 244 [(.t 21),(.t 22)]),
V 1 (.mv (.t 23))]) (.seq (.rg [V 24 (.mv (.t 1)),
V 25 (.bin .lt (.t 24) (.k (.c (.i 0))))]) (.cond (.t 25) (.seq (.rg [V 4 (.mv (.k (.c (.i (-1)))))]) (.ret)) (.skip))))) (.rg [V 16 (.mv (.t 5)),
V 17 (.bin .add (.t 16) (.k (.c (.i 1)))),
V 5 (.mv (.t 17))]))
def vf208c : VC := .seq (.rg [V 4 (.mv (.k (.c (.i 0))))]) (.seq (.rg [V 6 (.mv (.t 1)),
V 7 (.mv (.t 0)),
V 8 (.len (.t 7)),
V 9 (.bin .sub (.t 6) (.t 8)),
V 1 (.mv (.t 9))]) (.seq (.seq (.rg [V 10 (.mv (.t 1)),
V 11 (.bin .lt (.t 10) (.k (.c (.i 0))))]) (.cond (.t 11) (.seq (.rg [V 4 (.mv (.k (.c (.i (-1)))))]) (.ret)) (.skip))) (.seq (.seq (.rg [V 5 (.mv (.k (.c (.i 0))))]) (.block 0 (.loop vf208b0))) (.seq (.rg [V 26 (.mv (.t 1)),
V 4 (.mv (.t 26))]) (.ret)))))
def vf208 : VF := ⟨vf208c,vf208v,[(4,none)]⟩
theorem ok208 : chkF Tryz.prog Tryz.f208 vf208 = true := by kernel_rfl
theorem dr208 : drawsB vf208.body = true := by kernel_rfl
def vf209v : List Nat := [0,1,4,10]
def vf209c : VC := .seq (.rg [V 4 (.mv (.k (.c (.i 0))))]) (.seq (.rg [V 5 (.mv (.t 1)),
V 6 (.mv (.t 0)),
V 7 (.len (.t 6)),
V 8 (.bin .sub (.t 5) (.t 7)),
V 1 (.mv (.t 8))]) (.seq (.seq (.rg [V 9 (.mv (.t 1)),
V 10 (.bin .lt (.t 9) (.k (.c (.i 0))))]) (.cond (.t 10) (.seq (.rg [V 4 (.mv (.k (.c (.i (-1)))))]) (.ret)) (.skip))) (.seq (.rg [V 11 (.mv (.t 1)),
V 4 (.mv (.t 11))]) (.ret))))
def vf209 : VF := ⟨vf209c,vf209v,[(4,none)]⟩
theorem ok209 : chkF Tryz.prog Tryz.f209 vf209 = true := by kernel_rfl
theorem dr209 : drawsB vf209.body = true := by kernel_rfl
def vf210v : List Nat := [0,2,3,4,11]
def vf210b0 : VC := .seq (.seq (.rg [V 8 (.mv (.t 4)),
V 9 (.mv (.t 0)),
V 10 (.len (.t 9)),
V 11 (.bin .lt (.t 8) (.t 10))]) (.cond (.t 11) (.skip) (.exit 0))) (.seq (.block 1 (.rg [V 14 (.mv (.t 3)),
V 15 (.mv (.t 4)),
V 16 (.mv (.t 0)),
V 17 (.mv (.t 4)),
V 18 (.idx 2 (.t 16) (.t 17)),
V 19 (.ld (some 2) (.t 18)),
V 20 (.call 245 [(.t 19)]),
V 21 (.idx 2 (.t 14) (.t 15)),
Vn (.st 2 (.t 21) (.t 20))])) (.rg [V 12 (.mv (.t 4)),
V 13 (.bin .add (.t 12) (.k (.c (.i 1)))),
V 4 (.mv (.t 13))]))
def vf210c : VC := .seq (.rg [V 2 (.mv (.k (.c .ns)))]) (.seq (.rg [V 5 (.mv (.t 0)),
V 6 (.len (.t 5)),
V 7 (.mks 2 [.i 0,.ns] (.t 6)),
V 3 (.mv (.t 7))]) (.seq (.seq (.rg [V 4 (.mv (.k (.c (.i 0))))]) (.block 0 (.loop vf210b0))) (.seq (.rg [V 22 (.mv (.t 3)),
V 2 (.mv (.t 22))]) (.ret))))
def vf210 : VF := ⟨vf210c,vf210v,[(2,none)]⟩
theorem ok210 : chkF Tryz.prog Tryz.f210 vf210 = true := by kernel_rfl
theorem dr210 : drawsB vf210.body = true := by kernel_rfl
def vf211v : List Nat := [0,2,3,4,11]
def vf211b0 : VC := .seq (.seq (.rg [V 8 (.mv (.t 4)),
V 9 (.mv (.t 0)),
V 10 (.len (.t 9)),
V 11 (.bin .lt (.t 8) (.t 10))]) (.cond (.t 11) (.skip) (.exit 0))) (.seq (.block 1 (.rg [V 14 (.mv (.t 3)),
V 15 (.mv (.t 4)),
V 16 (.mv (.t 0)),
V 17 (.mv (.t 4)),
V 18 (.idx 5 (.t 16) (.t 17)),
V 19 (.ld (some 5) (.t 18)),
V 20 (.call 246 [(.t 19)]),
V 21 (.idx 5 (.t 14) (.t 15)),
Vn (.st 5 (.t 21) (.t 20))])) (.rg [V 12 (.mv (.t 4)),
V 13 (.bin .add (.t 12) (.k (.c (.i 1)))),
V 4 (.mv (.t 13))]))
def vf211c : VC := .seq (.rg [V 2 (.mv (.k (.c .ns)))]) (.seq (.rg [V 5 (.mv (.t 0)),
V 6 (.len (.t 5)),
V 7 (.mks 5 [.i 0,.i 0,.i 0,.i 0,.i 0] (.t 6)),
V 3 (.mv (.t 7))]) (.seq (.seq (.rg [V 4 (.mv (.k (.c (.i 0))))]) (.block 0 (.loop vf211b0))) (.seq (.rg [V 22 (.mv (.t 3)),
V 2 (.mv (.t 22))]) (.ret))))
def vf211 : VF := ⟨vf211c,vf211v,[(2,none)]⟩
theorem ok211 : chkF Tryz.prog Tryz.f211 vf211 = true := by kernel_rfl
theorem dr211 : drawsB vf211.body = true := by kernel_rfl
def vf212v : List Nat := [0,1,2,3]
def vf212c : VC := .seq (.rg [V 1 (.box (.t 0)),
V 2 (.alloc [.i 0,.i 0,.i 0,.i 0])]) (.seq (.rg [V 3 (.alloc [.i 0,.i 0,.i 0,.i 0])]) (.seq (.rg [V 4 (.fad 0 (.t 1)),
V 5 (.ld none (.t 4)),
V 6 (.fad 0 (.t 3)),
Vn (.st 1 (.t 6) (.t 5))]) (.seq (.rg [V 7 (.fad 1 (.t 1)),
V 8 (.ld none (.t 7)),
V 9 (.fad 1 (.t 3)),
Vn (.st 1 (.t 9) (.t 8))]) (.seq (.rg [V 10 (.fad 2 (.t 1)),
V 11 (.ld none (.t 10)),
V 12 (.fad 2 (.t 3)),
Vn (.st 1 (.t 12) (.t 11))]) (.seq (.rg [V 13 (.fad 3 (.t 1)),
V 14 (.ld none (.t 13)),
V 15 (.fad 3 (.t 3)),
Vn (.st 1 (.t 15) (.t 14))]) (.seq (.rg [V 16 (.ld (some 4) (.t 3)),
Vn (.st 4 (.t 2) (.t 16))]) (.ret)))))))
def vf212 : VF := ⟨vf212c,vf212v,[(2,(some (some 4)))]⟩
theorem ok212 : chkF Tryz.prog Tryz.f212 vf212 = true := by kernel_rfl
theorem dr212 : drawsB vf212.body = true := by kernel_rfl
def vf213v : List Nat := [0,1,4,5,10,14,26]
def vf213b0 : VC := .seq (.seq (.rg [V 11 (.mv (.t 5)),
V 12 (.mv (.t 0)),
V 13 (.len (.t 12)),
V 14 (.bin .lt (.t 11) (.t 13))]) (.cond (.t 14) (.skip) (.exit 0))) (.seq (.block 1 (.seq (.rd [V 17 (.mv (.t 0)),
V 18 (.mv (.t 5)),
Vd [0,1] (V 19 (.idx 2 (.t 17) (.t 18))),
Vd [2] (V 20 (.ld (some 2) (.t 19))),
V 21 (.mv (.t 1)),
V 22 (.mv (.t 5)),
Vd [4,5] (V 23 (.idx 2 (.t 21) (.t 22))),
Vd [6] (V 24 (.ld (some 2) (.t 23))),
Vd [3,7] (V 25 (.call 247 [(.t 20),(.t 24)])),
Vd [8] (V 26 (.not (.t 25)))]) (.cond (.t 26) (.seq (.rg [V 4 (.mv (.k (.c (.b false))))]) (.ret)) (.skip)))) (.rg [V 15 (.mv (.t 5)),
V 16 (.bin .add (.t 15) (.k (.c (.i 1)))),
V 5 (.mv (.t 16))]))
def vf213c : VC := .seq (.rg [V 4 (.mv (.k (.c (.b false))))]) (.seq (.seq (.rg [V 6 (.mv (.t 0)),
V 7 (.len (.t 6)),
V 8 (.mv (.t 1)),
V 9 (.len (.t 8)),
V 10 (.bin .ne (.t 7) (.t 9))]) (.cond (.t 10) (.seq (.rg [V 4 (.mv (.k (.c (.b false))))]) (.ret)) (.skip))) (.seq (.seq (.rg [V 5 (.mv (.k (.c (.i 0))))]) (.block 0 (.loop vf213b0))) (.seq (.rg [V 4 (.mv (.k (.c (.b true))))]) (.ret))))
def vf213 : VF := ⟨vf213c,vf213v,[(4,none)]⟩
theorem ok213 : chkF Tryz.prog Tryz.f213 vf213 = true := by kernel_rfl
theorem dr213 : drawsB vf213.body = true := by kernel_rfl
def vf214v : List Nat := [0,1,4,5,10,14,26]
def vf214b0 : VC := .seq (.seq (.rg [V 11 (.mv (.t 5)),
V 12 (.mv (.t 0)),
V 13 (.len (.t 12)),
V 14 (.bin .lt (.t 11) (.t 13))]) (.cond (.t 14) (.skip) (.exit 0))) (.seq (.block 1 (.seq (.rd [V 17 (.mv (.t 0)),
V 18 (.mv (.t 5)),
Vd [0,1] (V 19 (.idx 5 (.t 17) (.t 18))),
Vd [2] (V 20 (.ld (some 5) (.t 19))),
V 21 (.mv (.t 1)),
V 22 (.mv (.t 5)),
Vd [4,5] (V 23 (.idx 5 (.t 21) (.t 22))),
Vd [6] (V 24 (.ld (some 5) (.t 23))),
Vd [3,7] (V 25 (.call 248 [(.t 20),(.t 24)])),
Vd [8] (V 26 (.not (.t 25)))]) (.cond (.t 26) (.seq (.rg [V 4 (.mv (.k (.c (.b false))))]) (.ret)) (.skip)))) (.rg [V 15 (.mv (.t 5)),
V 16 (.bin .add (.t 15) (.k (.c (.i 1)))),
V 5 (.mv (.t 16))]))
def vf214c : VC := .seq (.rg [V 4 (.mv (.k (.c (.b false))))]) (.seq (.seq (.rg [V 6 (.mv (.t 0)),
V 7 (.len (.t 6)),
V 8 (.mv (.t 1)),
V 9 (.len (.t 8)),
V 10 (.bin .ne (.t 7) (.t 9))]) (.cond (.t 10) (.seq (.rg [V 4 (.mv (.k (.c (.b false))))]) (.ret)) (.skip))) (.seq (.seq (.rg [V 5 (.mv (.k (.c (.i 0))))]) (.block 0 (.loop vf214b0))) (.seq (.rg [V 4 (.mv (.k (.c (.b true))))]) (.ret))))
def vf214 : VF := ⟨vf214c,vf214v,[(4,none)]⟩
theorem ok214 : chkF Tryz.prog Tryz.f214 vf214 = true := by kernel_rfl
theorem dr214 : drawsB vf214.body = true := by kernel_rfl
def vf215v : List Nat := [0,1,2,3,4,9,14,19,24]
def vf215c : VC := .seq (.rg [V 2 (.box (.t 0)),
V 3 (.box (.t 1)),
V 4 (.mv (.k (.c (.b false))))]) (.seq (.seq (.rg [V 5 (.fad 0 (.t 2)),
V 6 (.ld none (.t 5)),
V 7 (.fad 0 (.t 3)),
V 8 (.ld none (.t 7)),
V 9 (.bin .ne (.t 6) (.t 8))]) (.cond (.t 9) (.seq (.rg [V 4 (.mv (.k (.c (.b false))))]) (.ret)) (.skip))) (.seq (.seq (.rg [V 10 (.fad 1 (.t 2)),
V 11 (.ld none (.t 10)),
V 12 (.fad 1 (.t 3)),
V 13 (.ld none (.t 12)),
V 14 (.bin .ne (.t 11) (.t 13))]) (.cond (.t 14) (.seq (.rg [V 4 (.mv (.k (.c (.b false))))]) (.ret)) (.skip))) (.seq (.seq (.rg [V 15 (.fad 2 (.t 2)),
V 16 (.ld none (.t 15)),
V 17 (.fad 2 (.t 3)),
V 18 (.ld none (.t 17)),
V 19 (.bin .ne (.t 16) (.t 18))]) (.cond (.t 19) (.seq (.rg [V 4 (.mv (.k (.c (.b false))))]) (.ret)) (.skip))) (.seq (.seq (.rg [V 20 (.fad 3 (.t 2)),
V 21 (.ld none (.t 20)),
V 22 (.fad 3 (.t 3)),
V 23 (.ld none (.t 22)),
V 24 (.bin .ne (.t 21) (.t 23))]) (.cond (.t 24) (.seq (.rg [V 4 (.mv (.k (.c (.b false))))]) (.ret)) (.skip))) (.seq (.rg [V 4 (.mv (.k (.c (.b true))))]) (.ret))))))
def vf215 : VF := ⟨vf215c,vf215v,[(4,none)]⟩
theorem ok215 : chkF Tryz.prog Tryz.f215 vf215 = true := by kernel_rfl
theorem dr215 : drawsB vf215.body = true := by kernel_rfl
def vf217v : List Nat := [0,1,4,5,9]
def vf217b0 : VC := .seq (.seq (.rg [V 6 (.mv (.t 5)),
V 7 (.mv (.t 0)),
V 8 (.len (.t 7)),
V 9 (.bin .lt (.t 6) (.t 8))]) (.cond (.t 9) (.skip) (.exit 0))) (.seq (.block 1 (.seq (.rg [V 12 (.mv (.t 0)),
V 13 (.mv (.t 5)),
V 14 (.mv (.t 1)),
V 15 (.idx 2 (.t 12) (.t 13)),
V 16 (.fad 0 (.t 15)),
Vn (.st 1 (.t 16) (.t 14))]) (.seq (.rg [V 17 (.mv (.t 1)),
V 18 (.bin .add (.t 17) (.k (.c (.i 1)))),
V 1 (.mv (.t 18))]) (.seq (.rg [V 19 (.mv (.t 0)),
V 20 (.mv (.t 5)),
V 21 (.mv (.t 1)),
V 22 (.idx 2 (.t 19) (.t 20)),
V 23 (.fad 1 (.t 22)),
Vn (.st 1 (.t 23) (.t 21))]) (.rg [V 24 (.mv (.t 1)),
V 25 (.bin .add (.t 24) (.k (.c (.i 1)))),
V 1 (.mv (.t 25))]))))) (.rg [V 10 (.mv (.t 5)),
V 11 (.bin .add (.t 10) (.k (.c (.i 1)))),
V 5 (.mv (.t 11))]))
def vf217c : VC := .seq (.rg [V 4 (.mv (.k (.c (.i 0))))]) (.seq (.seq (.rg [V 5 (.mv (.k (.c (.i 0))))]) (.block 0 (.loop vf217b0))) (.seq (.rg [V 26 (.mv (.t 1)),
V 4 (.mv (.t 26))]) (.ret)))
def vf217 : VF := ⟨vf217c,vf217v,[(4,none)]⟩
theorem ok217 : chkF Tryz.prog Tryz.f217 vf217 = true := by kernel_rfl
theorem dr217 : drawsB vf217.body = true := by kernel_rfl
def vf218v : List Nat := [0,1,4,5,9,18,27]
def vf218b0 : VC := .seq (.seq (.rg [V 6 (.mv (.t 5)),
V 7 (.mv (.t 0)),
V 8 (.len (.t 7)),
V 9 (.bin .lt (.t 6) (.t 8))]) (.cond (.t 9) (.skip) (.exit 0))) (.seq (.block 1 (.seq (.seq (.rg [V 12 (.mv (.t 0)),
V 13 (.mv (.t 5)),
V 14 (.idx 2 (.t 12) (.t 13)),
V 15 (.fad 0 (.t 14)),
V 16 (.ld none (.t 15)),
V 17 (.mv (.t 1)),
V 18 (.bin .ne (.t 16) (.t 17))]) (.cond (.t 18) (.seq (.rg [V 4 (.mv (.k (.c (.i (-1)))))]) (.ret)) (.skip))) (.seq (.rg [V 19 (.mv (.t 1)),
V 20 (.bin .add (.t 19) (.k (.c (.i 1)))),
V 1 (.mv (.t 20))]) (.seq (.seq (.rg [V 21 (.mv (.t 0)),
V 22 (.mv (.t 5)),
V 23 (.idx 2 (.t 21) (.t 22)),
V 24 (.fad 1 (.t 23)),
V 25 (.ld none (.t 24)),
V 26 (.mv (.t 1)),
V 27 (.bin .ne (.t 25) (.t 26))]) (.cond (.t 27) (.seq (.rg [V 4 (.mv (.k (.c (.i (-1)))))]) (.ret)) (.skip))) (.rg [V 28 (.mv (.t 1)),
V 29 (.bin .add (.t 28) (.k (.c (.i 1)))),
V 1 (.mv (.t 29))]))))) (.rg [V 10 (.mv (.t 5)),
V 11 (.bin .add (.t 10) (.k (.c (.i 1)))),
V 5 (.mv (.t 11))]))
def vf218c : VC := .seq (.rg [V 4 (.mv (.k (.c (.i 0))))]) (.seq (.seq (.rg [V 5 (.mv (.k (.c (.i 0))))]) (.block 0 (.loop vf218b0))) (.seq (.rg [V 30 (.mv (.t 1)),
V 4 (.mv (.t 30))]) (.ret)))
def vf218 : VF := ⟨vf218c,vf218v,[(4,none)]⟩
theorem ok218 : chkF Tryz.prog Tryz.f218 vf218 = true := by kernel_rfl
theorem dr218 : drawsB vf218.body = true := by kernel_rfl
def vf220v : List Nat := [0,1,4]
def vf220c : VC := .seq (.rg [V 4 (.mv (.k (.c (.b false))))]) (.seq (.rg [V 5 (.mv (.t 0)),
V 6 (.mv (.t 1)),
V 7 (.call 222 [(.t 5),(.t 6)]),
V 8 (.bin .ge (.t 7) (.k (.c (.i 0)))),
V 4 (.mv (.t 8))]) (.ret))
def vf220 : VF := ⟨vf220c,vf220v,[(4,none)]⟩
theorem ok220 : chkF Tryz.prog Tryz.f220 vf220 = true := by kernel_rfl
theorem dr220 : drawsB vf220.body = true := by kernel_rfl
def vf221v : List Nat := [0,1,2,3]
def vf221c : VC := .seq (.rg [V 2 (.box (.t 0)),
V 3 (.mv (.k (.c (.b false))))]) (.seq (.rg [V 4 (.fad 0 (.t 2)),
V 5 (.ld none (.t 4)),
V 6 (.fad 0 (.t 1)),
V 7 (.ld none (.t 6)),
V 8 (.bin .eq (.t 5) (.t 7)),
V 3 (.mv (.t 8))]) (.ret))
def vf221 : VF := ⟨vf221c,vf221v,[(3,none)]⟩
theorem ok221 : chkF Tryz.prog Tryz.f221 vf221 = true := by kernel_rfl
theorem dr221 : drawsB vf221.body = true := by kernel_rfl
def vf222v : List Nat := [0,1,4,5,7,8,9,16]
def vf222b0 : VC := .seq (.rg [V 9 (.bin .lt (.t 8) (.t 7))]) (.seq (.cond (.t 9) (.skip) (.exit 0)) (.seq (.block 1 (.seq (.rg [V 10 (.mv (.t 8)),
V 5 (.mv (.t 10))]) (.seq (.rg [V 11 (.mv (.t 1)),
V 12 (.mv (.t 0)),
V 13 (.mv (.t 5)),
V 14 (.idx 2 (.t 12) (.t 13)),
V 15 (.ld (some 2) (.t 14)),
V 16 (.clv (.t 11) [(.t 15)])]) (.cond (.t 16) (.seq (.rg [V 17 (.mv (.t 5)),
V 4 (.mv (.t 17))]) (.ret)) (.skip))))) (.rg [V 18 (.bin .add (.t 8) (.k (.c (.i 1)))),
V 8 (.mv (.t 18))])))
def vf222c : VC := .seq (.rg [V 4 (.mv (.k (.c (.i 0))))]) (.seq (.seq (.rg [V 6 (.mv (.t 0)),
V 7 (.len (.t 6)),
V 8 (.mv (.k (.c (.i 0))))]) (.block 0 (.loop vf222b0))) (.seq (.rg [V 4 (.mv (.k (.c (.i (-1)))))]) (.ret)))
def vf222 : VF := ⟨vf222c,vf222v,[(4,none)]⟩
theorem ok222 : chkF Tryz.prog Tryz.f222 vf222 = true := by kernel_rfl
theorem dr222 : drawsB vf222.body = true := by kernel_rfl
def vf223v : List Nat := [0,1,2,3]
def vf223c : VC := .seq (.rg [V 2 (.box (.t 0)),
V 3 (.mv (.k (.c (.b false))))]) (.seq (.rg [V 4 (.ld none (.t 1)),
V 5 (.mkf 224 [(.t 2)]),
V 6 (.call 220 [(.t 4),(.t 5)]),
V 7 (.not (.t 6)),
V 3 (.mv (.t 7))]) (.ret))
def vf223 : VF := ⟨vf223c,vf223v,[(3,none)]⟩
theorem ok223 : chkF Tryz.prog Tryz.f223 vf223 = true := by kernel_rfl
theorem dr223 : drawsB vf223.body = true := by kernel_rfl
def vf224v : List Nat := [0,1,2,3]
def vf224c : VC := .seq (.rg [V 2 (.box (.t 0)),
V 3 (.mv (.k (.c (.b false))))]) (.seq (.rg [V 4 (.ld (some 2) (.t 2)),
V 5 (.ld (some 2) (.t 1)),
V 6 (.eqa 2 true (.t 4) (.t 5)),
V 7 (.mv (.t 6)),
Vg 8 7 true (.fad 1 (.t 2)),
Vg 9 7 true (.ld none (.t 8)),
Vg 10 7 true (.fad 0 (.t 1)),
Vg 11 7 true (.ld none (.t 10)),
Vg 12 7 true (.bin .eq (.t 9) (.t 11)),
V 13 (.pick (.t 7) (.t 12) (.k (.c (.b false)))),
V 3 (.mv (.t 13))]) (.ret))
def vf224 : VF := ⟨vf224c,vf224v,[(3,none)]⟩
theorem ok224 : chkF Tryz.prog Tryz.f224 vf224 = true := by kernel_rfl
theorem dr224 : drawsB vf224.body = true := by kernel_rfl
def vf244v : List Nat := [0,1,2,4,10]
def vf244c : VC := .seq (.rg [V 2 (.box (.t 0)),
V 4 (.mv (.k (.c (.i 0))))]) (.seq (.rg [V 5 (.fad 1 (.t 2)),
V 6 (.ld none (.t 5)),
V 7 (.mv (.t 1)),
V 8 (.call 255 [(.t 6),(.t 7)]),
V 1 (.mv (.t 8))]) (.seq (.seq (.rg [V 9 (.mv (.t 1)),
V 10 (.bin .lt (.t 9) (.k (.c (.i 0))))]) (.cond (.t 10) (.seq (.rg [V 4 (.mv (.k (.c (.i (-1)))))]) (.ret)) (.skip))) (.seq (.rg [V 11 (.mv (.t 1)),
V 4 (.mv (.t 11))]) (.ret))))
def vf244 : VF := ⟨vf244c,vf244v,[(4,none)]⟩
theorem ok244 : chkF Tryz.prog Tryz.f244 vf244 = true := by kernel_rfl
theorem dr244 : drawsB vf244.body = true := by kernel_rfl
def vf245v : List Nat := [0,1,2,3]
def vf245c : VC := .seq (.rg [V 1 (.box (.t 0)),
V 2 (.alloc [.i 0,.ns])]) (.seq (.rg [V 3 (.alloc [.i 0,.ns])]) (.seq (.rg [V 4 (.fad 0 (.t 1)),
V 5 (.ld none (.t 4)),
V 6 (.fad 0 (.t 3)),
Vn (.st 1 (.t 6) (.t 5))]) (.seq (.rg [V 7 (.fad 1 (.t 1)),
V 8 (.ld none (.t 7)),
V 9 (.call 256 [(.t 8)]),
V 10 (.fad 1 (.t 3)),
Vn (.st 1 (.t 10) (.t 9))]) (.seq (.rg [V 11 (.ld (some 2) (.t 3)),
Vn (.st 2 (.t 2) (.t 11))]) (.ret)))))
def vf245 : VF := ⟨vf245c,vf245v,[(2,(some (some 2)))]⟩
theorem ok245 : chkF Tryz.prog Tryz.f245 vf245 = true := by kernel_rfl
theorem dr245 : drawsB vf245.body = true := by kernel_rfl
end Go.Proofs.YtgdfgnppeekfjaaGreat.Vm
