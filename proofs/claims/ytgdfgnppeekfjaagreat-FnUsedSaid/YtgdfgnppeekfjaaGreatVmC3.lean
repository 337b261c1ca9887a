/- The ideal machine's code for some of the program's functions, each checked against the translated one. No conditions. -/
import Derived.Test.YtgdfgnppeekfjaaGreatChecked
import Derived.Test.YtgdfgnppeekfjaaGreatVmQ
import Derived.Test.YtgdfgnppeekfjaaGreatVmC
namespace Go.Proofs.YtgdfgnppeekfjaaGreat.Vm
set_option linter.unusedVariables false
set_option maxRecDepth 100000
/-- loop.example/g00192/spec.l5Taken -/
def vf98v : List Nat := [0,1,2,3,4,5,6,7,8,9,10,11,12,13,20,32,44,56,63,77,82,93,120]
def vf98b0 : VC := .seq (.seq (.rg [V 41 (.mv (.t 8)),
V 42 (.mv (.t 7)),
V 43 (.len (.t 42)),
V 44 (.bin .lt (.t 41) (.t 43))]) (.cond (.t 44) (.skip) (.exit 4))) (.seq (.block 5 (.seq (.rd [V 47 (.ld (some 2) (.t 1)),
V 48 (.mv (.t 3)),
V 49 (.mv (.t 7)),
V 50 (.mv (.t 8)),
Vd [2,3] (V 51 (.idx 1 (.t 49) (.t 50))),
Vd [4] (V 52 (.ld none (.t 51))),
V 53 (.mv (.t 4)),
V 54 (.mv (.t 6)),
Vd [0,1,5,6,7] (V 55 (.call 160 [(.t 47),(.t 48),(.t 52),(.t 53),(.t 54)])),
Vd [8] (V 56 (.not (.t 55)))]) (.cond (.t 56) (.seq (.rg [V 2 (.mv (.k (.c (.b false))))]) (.ret)) (.skip)))) (.rg [V 45 (.mv (.t 8)),
V 46 (.bin .add (.t 45) (.k (.c (.i 1)))),
V 8 (.mv (.t 46))]))
def vf98b1 : VC := .seq (.seq (.rg [V 28 (.mv (.t 6)),
V 29 (.fad 1 (.t 5)),
V 30 (.ld none (.t 29)),
V 31 (.len (.t 30)),
V 32 (.bin .lt (.t 28) (.t 31))]) (.cond (.t 32) (.skip) (.exit 2))) (.seq (.block 3 (.seq (.rg [V 35 (.fad 1 (.t 5)),
V 36 (.ld none (.t 35)),
V 37 (.mv (.t 6)),
V 38 (.idx 5 (.t 36) (.t 37)),
V 39 (.ld (some 5) (.t 38)),
V 40 (.call 159 [(.t 39)]),
V 7 (.mv (.t 40))]) (.seq (.rg [V 8 (.mv (.k (.c (.i 0))))]) (.block 4 (.loop vf98b0))))) (.rg [V 33 (.mv (.t 6)),
V 34 (.bin .add (.t 33) (.k (.c (.i 1)))),
V 6 (.mv (.t 34))]))
def vf98b2 : VC := .seq (.seq (.rg [V 60 (.mv (.t 10)),
V 61 (.mv (.t 9)),
V 62 (.len (.t 61)),
V 63 (.bin .lt (.t 60) (.t 62))]) (.cond (.t 63) (.skip) (.exit 6))) (.seq (.block 7 (.seq (.rd [V 66 (.ld (some 2) (.t 1)),
V 67 (.mv (.t 3)),
V 68 (.mv (.t 9)),
V 69 (.mv (.t 10)),
Vd [2,3] (V 70 (.idx 1 (.t 68) (.t 69))),
Vd [4] (V 71 (.ld none (.t 70))),
V 72 (.mv (.t 4)),
V 73 (.fad 1 (.t 5)),
Vd [7] (V 74 (.ld none (.t 73))),
Vd [8] (V 75 (.len (.t 74))),
Vd [0,1,5,6,9] (V 76 (.call 160 [(.t 66),(.t 67),(.t 71),(.t 72),(.t 75)])),
Vd [10] (V 77 (.not (.t 76)))]) (.cond (.t 77) (.seq (.rg [V 2 (.mv (.k (.c (.b false))))]) (.ret)) (.skip)))) (.rg [V 64 (.mv (.t 10)),
V 65 (.bin .add (.t 64) (.k (.c (.i 1)))),
V 10 (.mv (.t 65))]))
def vf98b3 : VC := .seq (.seq (.rg [V 85 (.mv (.t 12)),
V 86 (.fad 0 (.t 5)),
V 87 (.ld none (.t 86)),
V 88 (.mv (.t 11)),
V 89 (.idx 2 (.t 87) (.t 88)),
V 90 (.fad 1 (.t 89)),
V 91 (.ld none (.t 90)),
V 92 (.len (.t 91)),
V 93 (.bin .lt (.t 85) (.t 92))]) (.cond (.t 93) (.skip) (.exit 10))) (.seq (.block 11 (.seq (.rg [V 96 (.fad 0 (.t 5)),
V 97 (.ld none (.t 96)),
V 98 (.mv (.t 11)),
V 99 (.idx 2 (.t 97) (.t 98)),
V 100 (.fad 1 (.t 99)),
V 101 (.ld none (.t 100)),
V 102 (.mv (.t 12)),
V 103 (.idx 2 (.t 101) (.t 102)),
V 104 (.ld (some 2) (.t 103)),
V 13 (.alloc [.i 0,.i 0]),
Vn (.st 2 (.t 13) (.t 104))]) (.seq (.rd [V 105 (.ld (some 2) (.t 1)),
V 106 (.mv (.t 3)),
V 107 (.fad 1 (.t 13)),
Vd [2] (V 108 (.ld none (.t 107))),
V 109 (.fad 0 (.t 13)),
Vd [4] (V 110 (.ld none (.t 109))),
V 111 (.fad 0 (.t 1)),
Vd [6] (V 112 (.ld none (.t 111))),
V 113 (.fad 0 (.t 13)),
Vd [8] (V 114 (.ld none (.t 113))),
Vd [7,9] (V 115 (.idx 6 (.t 112) (.t 114))),
Vd [10] (V 116 (.fad 1 (.t 115))),
Vd [11] (V 117 (.ld none (.t 116))),
Vd [12] (V 118 (.len (.t 117))),
Vd [0,1,3,5,13] (V 119 (.call 160 [(.t 105),(.t 106),(.t 108),(.t 110),(.t 118)])),
Vd [14] (V 120 (.not (.t 119)))]) (.cond (.t 120) (.seq (.rg [V 2 (.mv (.k (.c (.b false))))]) (.ret)) (.skip))))) (.rg [V 94 (.mv (.t 12)),
V 95 (.bin .add (.t 94) (.k (.c (.i 1)))),
V 12 (.mv (.t 95))]))
def vf98b4 : VC := .seq (.seq (.rg [V 78 (.mv (.t 11)),
V 79 (.fad 0 (.t 5)),
V 80 (.ld none (.t 79)),
V 81 (.len (.t 80)),
V 82 (.bin .lt (.t 78) (.t 81))]) (.cond (.t 82) (.skip) (.exit 8))) (.seq (.block 9 (.seq (.rg [V 12 (.mv (.k (.c (.i 0))))]) (.block 10 (.loop vf98b3)))) (.rg [V 83 (.mv (.t 11)),
V 84 (.bin .add (.t 83) (.k (.c (.i 1)))),
V 11 (.mv (.t 84))]))
def vf98b5 : VC := .seq (.seq (.rg [V 16 (.mv (.t 4)),
V 17 (.fad 0 (.t 1)),
V 18 (.ld none (.t 17)),
V 19 (.len (.t 18)),
V 20 (.bin .lt (.t 16) (.t 19))]) (.cond (.t 20) (.skip) (.exit 0))) (.seq (.block 1 (.seq (.rg [V 23 (.fad 0 (.t 1)),
V 24 (.ld none (.t 23)),
V 25 (.mv (.t 4)),
V 26 (.idx 6 (.t 24) (.t 25)),
V 27 (.ld (some 6) (.t 26)),
V 5 (.alloc [.ns,.ns,.i 0,.i 0,.i 0,.i 0]),
Vn (.st 6 (.t 5) (.t 27))]) (.seq (.seq (.rg [V 6 (.mv (.k (.c (.i 0))))]) (.block 2 (.loop vf98b1))) (.seq (.rg [V 57 (.fad 2 (.t 5)),
V 58 (.ld (some 4) (.t 57)),
V 59 (.call 161 [(.t 58)]),
V 9 (.mv (.t 59))]) (.seq (.seq (.rg [V 10 (.mv (.k (.c (.i 0))))]) (.block 6 (.loop vf98b2))) (.seq (.rg [V 11 (.mv (.k (.c (.i 0))))]) (.block 8 (.loop vf98b4)))))))) (.rg [V 21 (.mv (.t 4)),
V 22 (.bin .add (.t 21) (.k (.c (.i 1)))),
V 4 (.mv (.t 22))]))
def vf98c : VC := .seq (.rg [V 1 (.box (.t 0)),
V 2 (.mv (.k (.c (.b false))))]) (.seq (.rg [V 14 (.ld (some 2) (.t 1)),
V 15 (.call 158 [(.t 14)]),
V 3 (.mv (.t 15))]) (.seq (.seq (.rg [V 4 (.mv (.k (.c (.i 0))))]) (.block 0 (.loop vf98b5))) (.seq (.rg [V 2 (.mv (.k (.c (.b true))))]) (.ret))))
def vf98 : VF := ⟨vf98c,vf98v,[(2,none)]⟩
theorem ok98 : chkF Tryz.prog Tryz.f98 vf98 = true := by kernel_rfl
theorem dr98 : drawsB vf98.body = true := by kernel_rfl
/-- loop.example/g00192/impl.has -/
def vf99v : List Nat := [0,1,4,5,6]
def vf99c : VC := .seq (.rg [V 4 (.mv (.k (.c (.b false))))]) (.seq (.rg [V 8 (.mv (.t 0)),
V 9 (.call 144 [(.t 8)]),
V 7 (.mv (.t 9)),
V 10 (.ext 0 (.t 7)),
V 11 (.ext 1 (.t 7)),
V 5 (.mv (.t 10)),
V 6 (.mv (.t 11))]) (.seq (.rg [V 12 (.mv (.t 6)),
V 13 (.mv (.t 12)),
Vg 14 13 true (.mv (.t 5)),
Vg 15 13 true (.s2b (.t 14)),
Vg 16 13 true (.mv (.t 1)),
Vg 17 13 true (.call 162 [(.t 15),(.t 16)]),
V 18 (.pick (.t 13) (.t 17) (.k (.c (.b false)))),
V 4 (.mv (.t 18))]) (.ret)))
def vf99 : VF := ⟨vf99c,vf99v,[(4,none)]⟩
theorem ok99 : chkF Tryz.prog Tryz.f99 vf99 = true := by kernel_rfl
theorem dr99 : drawsB vf99.body = true := by kernel_rfl
/-- loop.example/g00192/impl.DefAt$1 -/
def vf100v : List Nat := [0,1,2,3]
def vf100c : VC := .seq (.rg [V 2 (.box (.t 0)),
V 3 (.mv (.k (.c (.b false))))]) (.seq (.rg [V 4 (.fad 0 (.t 2)),
V 5 (.ld none (.t 4)),
V 6 (.ld none (.t 1)),
V 7 (.bin .eq (.t 5) (.t 6)),
V 3 (.mv (.t 7))]) (.ret))
def vf100 : VF := ⟨vf100c,vf100v,[(3,none)]⟩
theorem ok100 : chkF Tryz.prog Tryz.f100 vf100 = true := by kernel_rfl
theorem dr100 : drawsB vf100.body = true := by kernel_rfl
/-- slices.IndexFuncloop.example/g00192/impl.Insloop.example/g00192/impl.Ins -/
def vf101v : List Nat := [0,1,4,5,7,8,9,16]
def vf101b0 : VC := .seq (.rg [V 9 (.bin .lt (.t 8) (.t 7))]) (.seq (.cond (.t 9) (.skip) (.exit 0)) (.seq (.block 1 (.seq (.rg [V 10 (.mv (.t 8)),
V 5 (.mv (.t 10))]) (.seq (.rg [V 11 (.mv (.t 1)),
V 12 (.mv (.t 0)),
V 13 (.mv (.t 5)),
V 14 (.idx 5 (.t 12) (.t 13)),
V 15 (.ld (some 5) (.t 14)),
V 16 (.clv (.t 11) [(.t 15)])]) (.cond (.t 16) (.seq (.rg [V 17 (.mv (.t 5)),
V 4 (.mv (.t 17))]) (.ret)) (.skip))))) (.rg [V 18 (.bin .add (.t 8) (.k (.c (.i 1)))),
V 8 (.mv (.t 18))])))
def vf101c : VC := .seq (.rg [V 4 (.mv (.k (.c (.i 0))))]) (.seq (.seq (.rg [V 6 (.mv (.t 0)),
V 7 (.len (.t 6)),
V 8 (.mv (.k (.c (.i 0))))]) (.block 0 (.loop vf101b0))) (.seq (.rg [V 4 (.mv (.k (.c (.i (-1)))))]) (.ret)))
def vf101 : VF := ⟨vf101c,vf101v,[(4,none)]⟩
theorem ok101 : chkF Tryz.prog Tryz.f101 vf101 = true := by kernel_rfl
theorem dr101 : drawsB vf101.body = true := by kernel_rfl
/-- loop.example/g00192/impl.DefAt$2 -/
def vf102v : List Nat := [0,1,2,3]
def vf102c : VC := .seq (.rg [V 2 (.box (.t 0)),
V 3 (.mv (.k (.c (.b false))))]) (.seq (.rg [V 4 (.fad 0 (.t 2)),
V 5 (.ld none (.t 4)),
V 6 (.call 99 [(.t 5),(.k (.c (.y 68)))]),
V 7 (.mv (.t 6)),
Vg 8 7 true (.fad 1 (.t 2)),
Vg 9 7 true (.ld none (.t 8)),
Vg 10 7 true (.ld none (.t 1)),
Vg 11 7 true (.bin .eq (.t 9) (.t 10)),
V 12 (.pick (.t 7) (.t 11) (.k (.c (.b false)))),
V 3 (.mv (.t 12))]) (.ret))
def vf102 : VF := ⟨vf102c,vf102v,[(3,none)]⟩
theorem ok102 : chkF Tryz.prog Tryz.f102 vf102 = true := by kernel_rfl
theorem dr102 : drawsB vf102.body = true := by kernel_rfl
/-- loop.example/g00192/impl.among -/
def vf103v : List Nat := [0,1,2,6]
def vf103c : VC := .seq (.rg [V 6 (.mv (.k (.c (.b false))))]) (.seq (.rg [V 7 (.mv (.t 2)),
V 8 (.mv (.t 0)),
V 9 (.len (.t 8)),
V 10 (.bin .sub (.t 9) (.k (.c (.i 1)))),
V 11 (.call 66 [(.t 7),(.k (.c (.i 0))),(.t 10)]),
V 12 (.mv (.t 11)),
Vg 13 12 true (.mv (.t 0)),
Vg 14 12 true (.mv (.t 2)),
Vg 15 12 true (.idx 1 (.t 13) (.t 14)),
Vg 16 12 true (.ld none (.t 15)),
Vg 17 12 true (.mv (.t 1)),
Vg 18 12 true (.call 149 [(.t 16),(.t 17)]),
V 19 (.pick (.t 12) (.t 18) (.k (.c (.b false)))),
V 6 (.mv (.t 19))]) (.ret))
def vf103 : VF := ⟨vf103c,vf103v,[(6,none)]⟩
theorem ok103 : chkF Tryz.prog Tryz.f103 vf103 = true := by kernel_rfl
theorem dr103 : drawsB vf103.body = true := by kernel_rfl
/-- loop.example/g00192/laws.szBlockS -/
def vf104v : List Nat := [0,1,4,5,11,15,25]
def vf104b0 : VC := .seq (.seq (.rg [V 12 (.mv (.t 5)),
V 13 (.mv (.t 0)),
V 14 (.len (.t 13)),
V 15 (.bin .lt (.t 12) (.t 14))]) (.cond (.t 15) (.skip) (.exit 0))) (.seq (.block 1 (.seq (.rg [V 18 (.mv (.t 0)),
V 19 (.mv (.t 5)),
V 20 (.idx 6 (.t 18) (.t 19)),
V 21 (.ld (some 6) (.t 20)),
V 22 (.mv (.t 1)),
V 23 (.call 163 [(.t 21),(.t 22)]),
V 1 (.mv (.t 23))]) (.seq (.rg [V 24 (.mv (.t 1)),
V 25 (.bin .lt (.t 24) (.k (.c (.i 0))))]) (.cond (.t 25) (.seq (.rg [V 4 (.mv (.k (.c (.i (-1)))))]) (.ret)) (.skip))))) (.rg [V 16 (.mv (.t 5)),
V 17 (.bin .add (.t 16) (.k (.c (.i 1)))),
V 5 (.mv (.t 17))]))
def vf104c : VC := .seq (.rg [V 4 (.mv (.k (.c (.i 0))))]) (.seq (.rg [V 6 (.mv (.t 1)),
V 7 (.mv (.t 0)),
V 8 (.len (.t 7)),
V 9 (.bin .sub (.t 6) (.t 8)),
V 1 (.mv (.t 9))]) (.seq (.seq (.rg [V 10 (.mv (.t 1)),
V 11 (.bin .lt (.t 10) (.k (.c (.i 0))))]) (.cond (.t 11) (.seq (.rg [V 4 (.mv (.k (.c (.i (-1)))))]) (.ret)) (.skip))) (.seq (.seq (.rg [V 5 (.mv (.k (.c (.i 0))))]) (.block 0 (.loop vf104b0))) (.seq (.rg [V 26 (.mv (.t 1)),
V 4 (.mv (.t 26))]) (.ret)))))
def vf104 : VF := ⟨vf104c,vf104v,[(4,none)]⟩
theorem ok104 : chkF Tryz.prog Tryz.f104 vf104 = true := by kernel_rfl
theorem dr104 : drawsB vf104.body = true := by kernel_rfl
/-- loop.example/g00192/laws.toBlockS -/
def vf105v : List Nat := [0,2,3,4,11]
def vf105b0 : VC := .seq (.seq (.rg [V 8 (.mv (.t 4)),
V 9 (.mv (.t 0)),
V 10 (.len (.t 9)),
V 11 (.bin .lt (.t 8) (.t 10))]) (.cond (.t 11) (.skip) (.exit 0))) (.seq (.block 1 (.rg [V 14 (.mv (.t 3)),
V 15 (.mv (.t 4)),
V 16 (.mv (.t 0)),
V 17 (.mv (.t 4)),
V 18 (.idx 6 (.t 16) (.t 17)),
V 19 (.ld (some 6) (.t 18)),
V 20 (.call 164 [(.t 19)]),
V 21 (.idx 6 (.t 14) (.t 15)),
Vn (.st 6 (.t 21) (.t 20))])) (.rg [V 12 (.mv (.t 4)),
V 13 (.bin .add (.t 12) (.k (.c (.i 1)))),
V 4 (.mv (.t 13))]))
def vf105c : VC := .seq (.rg [V 2 (.mv (.k (.c .ns)))]) (.seq (.rg [V 5 (.mv (.t 0)),
V 6 (.len (.t 5)),
V 7 (.mks 6 [.ns,.ns,.i 0,.i 0,.i 0,.i 0] (.t 6)),
V 3 (.mv (.t 7))]) (.seq (.seq (.rg [V 4 (.mv (.k (.c (.i 0))))]) (.block 0 (.loop vf105b0))) (.seq (.rg [V 22 (.mv (.t 3)),
V 2 (.mv (.t 22))]) (.ret))))
def vf105 : VF := ⟨vf105c,vf105v,[(2,none)]⟩
theorem ok105 : chkF Tryz.prog Tryz.f105 vf105 = true := by kernel_rfl
theorem dr105 : drawsB vf105.body = true := by kernel_rfl
/-- loop.example/g00192/laws.eqBlockS -/
def vf106v : List Nat := [0,1,4,5,10,14,26]
def vf106b0 : VC := .seq (.seq (.rg [V 11 (.mv (.t 5)),
V 12 (.mv (.t 0)),
V 13 (.len (.t 12)),
V 14 (.bin .lt (.t 11) (.t 13))]) (.cond (.t 14) (.skip) (.exit 0))) (.seq (.block 1 (.seq (.rd [V 17 (.mv (.t 0)),
V 18 (.mv (.t 5)),
Vd [0,1] (V 19 (.idx 6 (.t 17) (.t 18))),
Vd [2] (V 20 (.ld (some 6) (.t 19))),
V 21 (.mv (.t 1)),
V 22 (.mv (.t 5)),
Vd [4,5] (V 23 (.idx 6 (.t 21) (.t 22))),
Vd [6] (V 24 (.ld (some 6) (.t 23))),
Vd [3,7] (V 25 (.call 165 [(.t 20),(.t 24)])),
Vd [8] (V 26 (.not (.t 25)))]) (.cond (.t 26) (.seq (.rg [V 4 (.mv (.k (.c (.b false))))]) (.ret)) (.skip)))) (.rg [V 15 (.mv (.t 5)),
V 16 (.bin .add (.t 15) (.k (.c (.i 1)))),
V 5 (.mv (.t 16))]))
def vf106c : VC := .seq (.rg [V 4 (.mv (.k (.c (.b false))))]) (.seq (.seq (.rg [V 6 (.mv (.t 0)),
V 7 (.len (.t 6)),
V 8 (.mv (.t 1)),
V 9 (.len (.t 8)),
V 10 (.bin .ne (.t 7) (.t 9))]) (.cond (.t 10) (.seq (.rg [V 4 (.mv (.k (.c (.b false))))]) (.ret)) (.skip))) (.seq (.seq (.rg [V 5 (.mv (.k (.c (.i 0))))]) (.block 0 (.loop vf106b0))) (.seq (.rg [V 4 (.mv (.k (.c (.b true))))]) (.ret))))
def vf106 : VF := ⟨vf106c,vf106v,[(4,none)]⟩
theorem ok106 : chkF Tryz.prog Tryz.f106 vf106 = true := by kernel_rfl
theorem dr106 : drawsB vf106.body = true := by kernel_rfl
/-- loop.example/g00192/spec.l7Used -/
def vf107v : List Nat := [0,1,2,3,9]
def vf107b0 : VC := .seq (.seq (.rg [V 7 (.ld (some 2) (.t 1)),
V 8 (.mv (.t 3)),
V 9 (.call 166 [(.t 7),(.t 8)])]) (.cond (.t 9) (.skip) (.exit 0))) (.block 1 (.skip))
def vf107c : VC := .seq (.rg [V 1 (.box (.t 0)),
V 2 (.mv (.k (.c .ns)))]) (.seq (.rg [V 4 (.fad 1 (.t 1)),
V 5 (.ld none (.t 4)),
V 6 (.mks 1 [.b false] (.t 5)),
V 3 (.mv (.t 6))]) (.seq (.block 0 (.loop vf107b0)) (.seq (.rg [V 10 (.mv (.t 3)),
V 2 (.mv (.t 10))]) (.ret))))
def vf107 : VF := ⟨vf107c,vf107v,[(2,none)]⟩
theorem ok107 : chkF Tryz.prog Tryz.f107 vf107 = true := by kernel_rfl
theorem dr107 : drawsB vf107.body = true := by kernel_rfl
/-- loop.example/g00192/impl.useBlock -/
def vf108v : List Nat := [0,1,3,4,5,7,9,11,12,19,20,21,22,30,32,33,34,35,42,46,47,48,49,72]
def vf108b0 : VC := .seq (.rg [V 35 (.bin .lt (.t 34) (.t 33))]) (.seq (.cond (.t 35) (.skip) (.exit 2)) (.seq (.block 3 (.seq (.rg [V 36 (.idx 2 (.t 32) (.t 34)),
V 37 (.ld (some 2) (.t 36)),
V 9 (.alloc [.i 0,.i 0]),
Vn (.st 2 (.t 9) (.t 37))]) (.seq (.rg [V 38 (.mv (.t 0)),
V 39 (.fad 1 (.t 9)),
V 40 (.ld none (.t 39)),
V 41 (.bsl 1 [.i 0] 1 [(0,1,(.t 40))]),
V 42 (.call 167 [(.t 38),(.t 41)])]) (.cond (.t 42) (.rg [V 5 (.mv (.k (.c (.b true))))]) (.skip))))) (.rg [V 43 (.bin .add (.t 34) (.k (.c (.i 1)))),
V 34 (.mv (.t 43))])))
def vf108b1 : VC := .seq (.rg [V 22 (.bin .lt (.t 21) (.t 20))]) (.seq (.cond (.t 22) (.skip) (.exit 0)) (.seq (.block 1 (.seq (.rg [V 23 (.idx 2 (.t 19) (.t 21)),
V 24 (.ld (some 2) (.t 23)),
V 7 (.alloc [.i 0,.ns]),
Vn (.st 2 (.t 7) (.t 24))]) (.seq (.seq (.rg [V 25 (.mv (.t 0)),
V 26 (.fad 0 (.t 7)),
V 27 (.ld none (.t 26)),
V 28 (.idx 1 (.t 25) (.t 27)),
V 29 (.ld none (.t 28)),
V 30 (.not (.t 29))]) (.cond (.t 30) (.exit 1) (.skip))) (.seq (.rg [V 31 (.fad 1 (.t 7)),
V 32 (.ld none (.t 31)),
V 33 (.len (.t 32)),
V 34 (.mv (.k (.c (.i 0))))]) (.block 2 (.loop vf108b0)))))) (.rg [V 44 (.bin .add (.t 21) (.k (.c (.i 1)))),
V 21 (.mv (.t 44))])))
def vf108b2 : VC := .seq (.rg [V 49 (.bin .lt (.t 48) (.t 47))]) (.seq (.cond (.t 49) (.skip) (.exit 4)) (.seq (.block 5 (.seq (.rg [V 50 (.idx 5 (.t 46) (.t 48)),
V 51 (.ld (some 5) (.t 50)),
V 11 (.alloc [.i 0,.i 0,.i 0,.i 0,.i 0]),
Vn (.st 5 (.t 11) (.t 51))]) (.seq (.rg [V 52 (.ld (some 5) (.t 11)),
V 53 (.call 33 [(.t 52)]),
V 12 (.mv (.t 53))]) (.seq (.rg [V 54 (.fad 0 (.t 11)),
V 55 (.ld none (.t 54)),
V 56 (.call 168 [(.t 55)]),
V 57 (.mv (.t 56)),
Vg 58 57 false (.mv (.t 12)),
Vg 59 57 false (.bin .ge (.t 58) (.k (.c (.i 0)))),
Vg 60 57 false (.mv (.t 59)),
Vg 61 60 true (.mv (.t 0)),
Vg 62 60 true (.mv (.t 12)),
Vg 63 60 true (.idx 1 (.t 61) (.t 62)),
Vg 64 60 true (.ld none (.t 63)),
Vg 65 57 false (.pick (.t 60) (.t 64) (.k (.c (.b false)))),
V 66 (.pick (.t 57) (.k (.c (.b true))) (.t 65)),
V 67 (.mv (.t 66)),
Vg 68 67 true (.mv (.t 0)),
Vg 69 67 true (.ld (some 5) (.t 11)),
Vg 70 67 true (.call 30 [(.t 69)]),
Vg 71 67 true (.call 167 [(.t 68),(.t 70)]),
V 72 (.pick (.t 67) (.t 71) (.k (.c (.b false))))]) (.cond (.t 72) (.rg [V 5 (.mv (.k (.c (.b true))))]) (.skip)))))) (.rg [V 73 (.bin .add (.t 48) (.k (.c (.i 1)))),
V 48 (.mv (.t 73))])))
def vf108c : VC := .seq (.rg [V 3 (.box (.t 1)),
V 4 (.mv (.k (.c (.b false))))]) (.seq (.rg [V 13 (.mv (.t 0)),
V 14 (.fad 2 (.t 3)),
V 15 (.ld (some 4) (.t 14)),
V 16 (.call 45 [(.t 15)]),
V 17 (.call 167 [(.t 13),(.t 16)]),
V 5 (.mv (.t 17))]) (.seq (.seq (.rg [V 18 (.fad 0 (.t 3)),
V 19 (.ld none (.t 18)),
V 20 (.len (.t 19)),
V 21 (.mv (.k (.c (.i 0))))]) (.block 0 (.loop vf108b1))) (.seq (.seq (.rg [V 45 (.fad 1 (.t 3)),
V 46 (.ld none (.t 45)),
V 47 (.len (.t 46)),
V 48 (.mv (.k (.c (.i 0))))]) (.block 4 (.loop vf108b2))) (.seq (.rg [V 74 (.mv (.t 5)),
V 4 (.mv (.t 74))]) (.ret)))))
def vf108 : VF := ⟨vf108c,vf108v,[(4,none)]⟩
theorem ok108 : chkF Tryz.prog Tryz.f108 vf108 = true := by kernel_rfl
theorem dr108 : drawsB vf108.body = true := by kernel_rfl
/-- loop.example/g00192/laws.markBlockS -/
def vf109v : List Nat := [0,1,4,5,9]
def vf109b0 : VC := .seq (.seq (.rg [V 6 (.mv (.t 5)),
V 7 (.mv (.t 0)),
V 8 (.len (.t 7)),
V 9 (.bin .lt (.t 6) (.t 8))]) (.cond (.t 9) (.skip) (.exit 0))) (.seq (.block 1 (.seq (.rg [V 12 (.mv (.t 0)),
V 13 (.mv (.t 5)),
V 14 (.idx 6 (.t 12) (.t 13)),
V 15 (.fad 0 (.t 14)),
V 16 (.ld none (.t 15)),
V 17 (.mv (.t 1)),
V 18 (.call 169 [(.t 16),(.t 17)]),
V 1 (.mv (.t 18))]) (.seq (.rg [V 19 (.mv (.t 0)),
V 20 (.mv (.t 5)),
V 21 (.idx 6 (.t 19) (.t 20)),
V 22 (.fad 1 (.t 21)),
V 23 (.ld none (.t 22)),
V 24 (.mv (.t 1)),
V 25 (.call 170 [(.t 23),(.t 24)]),
V 1 (.mv (.t 25))]) (.seq (.rg [V 26 (.mv (.t 0)),
V 27 (.mv (.t 5)),
V 28 (.mv (.t 1)),
V 29 (.idx 6 (.t 26) (.t 27)),
V 30 (.fad 2 (.t 29)),
V 31 (.fad 0 (.t 30)),
Vn (.st 1 (.t 31) (.t 28))]) (.seq (.rg [V 32 (.mv (.t 1)),
V 33 (.bin .add (.t 32) (.k (.c (.i 1)))),
V 1 (.mv (.t 33))]) (.seq (.rg [V 34 (.mv (.t 0)),
V 35 (.mv (.t 5)),
V 36 (.mv (.t 1)),
V 37 (.idx 6 (.t 34) (.t 35)),
V 38 (.fad 2 (.t 37)),
V 39 (.fad 1 (.t 38)),
Vn (.st 1 (.t 39) (.t 36))]) (.seq (.rg [V 40 (.mv (.t 1)),
V 41 (.bin .add (.t 40) (.k (.c (.i 1)))),
V 1 (.mv (.t 41))]) (.seq (.rg [V 42 (.mv (.t 0)),
V 43 (.mv (.t 5)),
V 44 (.mv (.t 1)),
V 45 (.idx 6 (.t 42) (.t 43)),
V 46 (.fad 2 (.t 45)),
V 47 (.fad 2 (.t 46)),
Vn (.st 1 (.t 47) (.t 44))]) (.seq (.rg [V 48 (.mv (.t 1)),
V 49 (.bin .add (.t 48) (.k (.c (.i 1)))),
V 1 (.mv (.t 49))]) (.seq (.rg [V 50 (.mv (.t 0)),
V 51 (.mv (.t 5)),
V 52 (.mv (.t 1)),
V 53 (.idx 6 (.t 50) (.t 51)),
V 54 (.fad 2 (.t 53)),
V 55 (.fad 3 (.t 54)),
Vn (.st 1 (.t 55) (.t 52))]) (.rg [V 56 (.mv (.t 1)),
V 57 (.bin .add (.t 56) (.k (.c (.i 1)))),
V 1 (.mv (.t 57))]))))))))))) (.rg [V 10 (.mv (.t 5)),
V 11 (.bin .add (.t 10) (.k (.c (.i 1)))),
V 5 (.mv (.t 11))]))
def vf109c : VC := .seq (.rg [V 4 (.mv (.k (.c (.i 0))))]) (.seq (.seq (.rg [V 5 (.mv (.k (.c (.i 0))))]) (.block 0 (.loop vf109b0))) (.seq (.rg [V 58 (.mv (.t 1)),
V 4 (.mv (.t 58))]) (.ret)))
def vf109 : VF := ⟨vf109c,vf109v,[(4,none)]⟩
theorem ok109 : chkF Tryz.prog Tryz.f109 vf109 = true := by kernel_rfl
theorem dr109 : drawsB vf109.body = true := by kernel_rfl
/-- loop.example/g00192/spec.WordOk -/
def vf116v : List Nat := [0,2]
def vf116c : VC := .seq (.rg [V 2 (.mv (.k (.c (.b false))))]) (.seq (.rg [V 3 (.mv (.t 0)),
V 4 (.call 76 [(.t 3),(.k (.c (.i 1))),(.k (.c (.i 10)))]),
V 2 (.mv (.t 4))]) (.ret))
def vf116 : VF := ⟨vf116c,vf116v,[(2,none)]⟩
theorem ok116 : chkF Tryz.prog Tryz.f116 vf116 = true := by kernel_rfl
theorem dr116 : drawsB vf116.body = true := by kernel_rfl
/-- loop.example/g00192/impl.WordOk -/
def vf118v : List Nat := [0,2]
def vf118c : VC := .seq (.rg [V 2 (.mv (.k (.c (.b false))))]) (.seq (.rg [V 3 (.mv (.t 0)),
V 4 (.call 66 [(.t 3),(.k (.c (.i 1))),(.k (.c (.i 10)))]),
V 2 (.mv (.t 4))]) (.ret))
def vf118 : VF := ⟨vf118c,vf118v,[(2,none)]⟩
theorem ok118 : chkF Tryz.prog Tryz.f118 vf118 = true := by kernel_rfl
theorem dr118 : drawsB vf118.body = true := by kernel_rfl
/-- loop.example/g00192/spec.InsDef -/
def vf121v : List Nat := [0,1,2,5]
def vf121c : VC := .seq (.rg [V 1 (.box (.t 0)),
V 2 (.mv (.k (.c (.i 0))))]) (.seq (.seq (.rg [V 3 (.fad 0 (.t 1)),
V 4 (.ld none (.t 3)),
V 5 (.call 181 [(.t 4)])]) (.cond (.t 5) (.seq (.rg [V 6 (.fad 1 (.t 1)),
V 7 (.ld none (.t 6)),
V 2 (.mv (.t 7))]) (.ret)) (.skip))) (.seq (.rg [V 2 (.mv (.k (.c (.i (-1)))))]) (.ret)))
def vf121 : VF := ⟨vf121c,vf121v,[(2,none)]⟩
theorem ok121 : chkF Tryz.prog Tryz.f121 vf121 = true := by kernel_rfl
theorem dr121 : drawsB vf121.body = true := by kernel_rfl
/-- loop.example/g00192/spec.l3Succs -/
def vf126v : List Nat := [0,1,2,4,5,13,14,19,25]
def vf126c : VC := .seq (.rg [V 2 (.box (.t 0)),
V 4 (.mv (.k (.c .ns)))]) (.seq (.rg [V 6 (.fad 0 (.t 2)),
V 7 (.ld none (.t 6)),
V 8 (.mv (.t 1)),
V 9 (.idx 6 (.t 7) (.t 8)),
V 10 (.fad 2 (.t 9)),
V 11 (.ld (some 4) (.t 10)),
V 5 (.alloc [.i 0,.i 0,.i 0,.i 0]),
Vn (.st 4 (.t 5) (.t 11))]) (.seq (.seq (.rg [V 12 (.fad 0 (.t 5)),
V 13 (.ld none (.t 12))]) (.block 0 (.seq (.rg [V 15 (.bin .eq (.t 13) (.k (.c (.i 1)))),
V 14 (.mv (.t 15))]) (.cond (.t 14) (.seq (.rg [V 16 (.fad 2 (.t 5)),
V 17 (.ld none (.t 16)),
V 18 (.bsl 1 [.i 0] 1 [(0,1,(.t 17))]),
V 4 (.mv (.t 18))]) (.ret)) (.seq (.rg [V 20 (.bin .eq (.t 13) (.k (.c (.i 2)))),
V 19 (.mv (.t 20))]) (.cond (.t 19) (.seq (.seq (.rg [V 21 (.fad 2 (.t 5)),
V 22 (.ld none (.t 21)),
V 23 (.fad 3 (.t 5)),
V 24 (.ld none (.t 23)),
V 25 (.bin .eq (.t 22) (.t 24))]) (.cond (.t 25) (.seq (.rg [V 26 (.fad 2 (.t 5)),
V 27 (.ld none (.t 26)),
V 28 (.bsl 1 [.i 0] 1 [(0,1,(.t 27))]),
V 4 (.mv (.t 28))]) (.ret)) (.skip))) (.seq (.rg [V 29 (.fad 2 (.t 5)),
V 30 (.ld none (.t 29)),
V 31 (.fad 3 (.t 5)),
V 32 (.ld none (.t 31)),
V 33 (.bsl 1 [.i 0] 2 [(0,1,(.t 30)),(1,1,(.t 32))]),
V 4 (.mv (.t 33))]) (.ret))) (.skip))))))) (.seq (.rg [V 34 (.bsl 1 [.i 0] 0 []),
V 4 (.mv (.t 34))]) (.ret))))
def vf126 : VF := ⟨vf126c,vf126v,[(4,none)]⟩
theorem ok126 : chkF Tryz.prog Tryz.f126 vf126 = true := by kernel_rfl
theorem dr126 : drawsB vf126.body = true := by kernel_rfl
/-- loop.example/g00192/spec.l1Once -/
def vf131v : List Nat := [0,1,4]
def vf131c : VC := .seq (.rg [V 4 (.mv (.k (.c (.b false))))]) (.seq (.rg [V 5 (.mv (.t 0)),
V 6 (.mv (.t 1)),
V 7 (.call 136 [(.t 5),(.t 6)]),
V 8 (.bin .eq (.t 7) (.k (.c (.i 0)))),
V 4 (.mv (.t 8))]) (.ret))
def vf131 : VF := ⟨vf131c,vf131v,[(4,none)]⟩
theorem ok131 : chkF Tryz.prog Tryz.f131 vf131 = true := by kernel_rfl
theorem dr131 : drawsB vf131.body = true := by kernel_rfl
end Go.Proofs.YtgdfgnppeekfjaaGreat.Vm
