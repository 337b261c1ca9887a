/- The ideal machine's code for some of the program's functions, each checked against the translated one. No conditions. -/
import Derived.Test.YtgdfgnppeekfjaaGreatChecked
import Derived.Test.YtgdfgnppeekfjaaGreatVmQ
import Derived.Test.YtgdfgnppeekfjaaGreatVmC
namespace Go.Proofs.YtgdfgnppeekfjaaGreat.Vm
set_option linter.unusedVariables false
set_option maxRecDepth 100000
/-- loop.example/g00192/spec.l5Taken -/
def vf98v : List Nat := [0,1,2,3,4,5,6,7,8,9,10,11,12,13,20,32,44,56,63,77,82,93,120]
def vf98b0 : VC := .seq (.seq (.rg [V 41 (.mv (.t 8)),
V 42 (.mv (.t 7)),
V 43 (.len (.t 42)),
V 44 (.bin .lt (.t 41) (.t 43))]) (.cond (.t 44) (.skip) (.exit 4))) (.seq (.block 5 (.seq (.rd [V 47 (.ld (some 2) (.t 1)),
V 48 (.mv (.t 3)),
V 49 (.mv (.t 7)),
V 50 (.mv (.t 8)),
Vd [2,3] (V 51 (.idx 1 (.t 49) (.t 50))),
Vd [4] (V 52 (.ld none (.t 51))),
V 53 (.mv (.t 4)),
V 54 (.mv (.t 6)),
Vd [0,1,5,6,7] (V 55 (.call 160 [(.t 47),(.t 48),(.t 52),(.t 53),(.t 54)])),
Vd [8] (V 56 (.not (.t 55)))]) (.cond (.t 56) (.seq (.rg [V 2 (.mv (.k (.c (.b false))))]) (.ret)) (.skip)))) (.rg [V 45 (.mv (.t 8)),
V 46 (.bin .add (.t 45) (.k (.c (.i 1)))),
V 8 (.mv (.t 46))]))
def vf98b1 : VC := .seq (.seq (.rg [V 28 (.mv (.t 6)),
V 29 (.fad 1 (.t 5)),
V 30 (.ld none (.t 29)),
V 31 (.len (.t 30)),
V 32 (.bin .lt (.t 28) (.t 31))]) (.cond (.t 32) (.skip) (.exit 2))) (.seq (.block 3 (.seq (.rg [V 35 (.fad 1 (.t 5)),
V 36 (.ld none (.t 35)),
V 37 (.mv (.t 6)),
V 38 (.idx 5 (.t 36) (.t 37)),
V 39 (.ld (some 5) (.t 38)),
V 40 (.call 159 [(.t 39)]),
V 7 (.mv (.t 40))]) (.seq (.rg [V 8 (.mv (.k (.c (.i 0))))]) (.block 4 (.loop vf98b0))))) (.rg [V 33 (.mv (.t 6)),
V 34 (.bin .add (.t 33) (.k (.c (.i 1)))),
V 6 (.mv (.t 34))]))
def vf98b2 : VC := .seq (.seq (.rg [V 60 (.mv (.t 10)),
V 61 (.mv (.t 9)),
V 62 (.len (.t 61)),
V 63 (.bin .lt (.t 60) (.t 62))]) (.cond (.t 63) (.skip) (.exit 6))) (.seq (.block 7 (.seq (.rd [V 66 (.ld (some 2) (.t 1)),
V 67 (.mv (.t 3)),
V 68 (.mv (.t 9)),
V 69 (.mv (.t 10)),
Vd [2,3] (V 70 (.idx 1 (.t 68) (.t 69))),
Vd [4] (V 71 (.ld none (.t 70))),
V 72 (.mv (.t 4)),
V 73 (.fad 1 (.t 5)),
Vd [7] (V 74 (.ld none (.t 73))),
Vd [8] (V 75 (.len (.t 74))),
Vd [0,1,5,6,9] (V 76 (.call 160 [(.t 66),(.t 67),(.t 71),(.t 72),(.t 75)])),
Vd [10] (V 77 (.not (.t 76)))]) (.cond (.t 77) (.seq (.rg [V 2 (.mv (.k (.c (.b false))))]) (.ret)) (.skip)))) (.rg [V 64 (.mv (.t 10)),
V 65 (.bin .add (.t 64) (.k (.c (.i 1)))),
V 10 (.mv (.t 65))]))
def vf98b3 : VC := .seq (.seq (.rg [V 85 (.mv (.t 12)),
V 86 (.fad 0 (.t 5)),
V 87 (.ld none (.t 86)),
V 88 (.mv (.t 11)),
V 89 (.idx 2 (.t 87) (.t 88)),
V 90 (.fad 1 (.t 89)),
V 91 (.ld none (.t 90)),
V 92 (.len (.t 91)),
V 93 (.bin .lt (.t 85) (.t 92))]) (.cond (.t 93) (.skip) (.exit 10))) (.seq (.block 11 (.seq (.rg [V 96 (.fad 0 (.t 5)),
V 97 (.ld none (.t 96)),
V 98 (.mv (.t 11)),
V 99 (.idx 2 (.t 97) (.t 98)),
V 100 (.fad 1 (.t 99)),
V 101 (.ld none (.t 100)),
V 102 (.mv (.t 12)),
V 103 (.idx 2 (.t 101) (.t 102)),
V 104 (.ld (some 2) (.t 103)),
V 13 (.alloc [.i 0,.i 0]),
Vn (.st 2 (.t 13) (.t 104))]) (.seq (.rd [V 105 (.ld (some 2) (.t 1)),
V 106 (.mv (.t 3)),
V 107 (.fad 1 (.t 13)),
Vd [2] (V 108 (.ld none (.t 107))),
V 109 (.fad 0 (.t 13)),
Vd [4] (V 110 (.ld none (.t 109))),
V 111 (.fad 0 (.t 1)),
Vd [6] (V 112 (.ld none (.t 111))),
V 113 (.fad 0 (.t 13)),
Vd [8] (V 114 (.ld none (.t 113))),
Vd [7,9] (V 115 (.idx 6 (.t 112) (.t 114))),
Vd [10] (V 116 (.fad 1 (.t 115))),
Vd [11] (V 117 (.ld none (.t 116))),
Vd [12] (V 118 (.len (.t 117))),
Vd [0,1,3,5,13] (V 119 (.call 160 [(.t 105),(.t 106),(.t 108),(.t 110),(.t 118)])),
Vd [14] (V 120 (.not (.t 119)))]) (.cond (.t 120) (.seq (.rg [V 2 (.mv (.k (.c (.b false))))]) (.ret)) (.skip))))) (.rg [V 94 (.mv (.t 12)),
V 95 (.bin .add (.t 94) (.k (.c (.i 1)))),
V 12 (.mv (.t 95))]))
def vf98b4 : VC := .seq (.seq (.rg [V 78 (.mv (.t 11)),
V 79 (.fad 0 (.t 5)),
V 80 (.ld none (.t 79)),
V 81 (.len (.t 80)),
V 82 (.bin .lt (.t 78) (.t 81))]) (.cond (.t 82) (.skip) (.exit 8))) (.seq (.block 9 (.seq (.rg [V 12 (.mv (.k (.c (.i 0))))]) (.block 10 (.loop vf98b3)))) (.rg [V 83 (.mv (.t 11)),
V 84 (.bin .add (.t 83) (.k (.c (.i 1)))),
V 11 (.mv (.t 84))]))
def vf98b5 : VC := .seq (.seq (.rg [V 16 (.mv (.t 4)),
V 17 (.fad 0 (.t 1)),
V 18 (.ld none (.t 17)),
V 19 (.len (.t 18)),
V 20 (.bin .lt (.t 16) (.t 19))]) (.cond (.t 20) (.skip) (.exit 0))) (.seq (.block 1 (.seq (.rg [V 23 (.fad 0 (.t 1)),
V 24 (.ld none (.t 23)),
V 25 (.mv (.t 4)),
V 26 (.idx 6 (.t 24) (.t 25)),
V 27 (.ld (some 6) (.t 26)),
V 5 (.alloc [.ns,.ns,.i 0,.i 0,.i 0,.i 0]),
Vn (.st 6 (.t 5) (.t 27))]) (.seq (.seq (.rg [V 6 (.mv (.k (.c (.i 0))))]) (.block 2 (.loop vf98b1))) (.seq (.rg [V 57 (.fad 2 (.t 5)),
V 58 (.ld (some 4) (.t 57)),
V 59 (.call 161 [(.t 58)]),
V 9 (.mv (.t 59))]) (.seq (.seq (.rg [V 10 (.mv (.k (.c (.i 0))))]) (.block 6 (.loop vf98b2))) (.seq (.rg [V 11 (.mv (.k (.c (.i 0))))]) (.block 8 (.loop vf98b4)))))))) (.rg [V 21 (.mv (.t 4)),
V 22 (.bin .add (.t 21) (.k (.c (.i 1)))),
V 4 (.mv (.t 22))]))
def vf98c : VC := .seq (.rg [V 1 (.box (.t 0)),
V 2 (.mv (.k (.c (.b false))))]) (.seq (.rg [V 14 (.ld (some 2) (.t 1)),
V 15 (.call 158 [(.t 14)]),
V 3 (.mv (.t 15))]) (.seq (.seq (.rg [V 4 (.mv (.k (.c (.i 0))))]) (.block 0 (.loop vf98b5))) (.seq (.rg [V 2 (.mv (.k (.c (.b true))))]) (.ret))))
def vf98 : VF := ⟨vf98c,vf98v,[(2,none)]⟩
theorem ok98 : chkF Tryz.prog Tryz.f98 vf98 = true := by kernel_rfl
theorem dr98 : drawsB vf98.body = true := by kernel_rfl
/-- loop.example/g00192/impl.has -/
def vf99v : List Nat := [0,1,4,5,6]
def vf99c : VC := .seq (.rg [V 4 (.mv (.k (.c (.b false))))]) (.seq (.rg [V 8 (.mv (.t 0)),
V 9 (.call 144 [(.t 8)]),
V 7 (.mv (.t 9)),
V 10 (.ext 0 (.t 7)),
V 11 (.ext 1 (.t 7)),
V 5 (.mv (.t 10)),
V 6 (.mv (.t 11))]) (.seq (.rg [V 12 (.mv (.t 6)),
V 13 (.mv (.t 12)),
Vg 14 13 true (.mv (.t 5)),
Vg 15 13 true (.s2b (.t 14)),
Vg 16 13 true (.mv (.t 1)),
Vg 17 13 true (.call 162 [(.t 15),(.t 16)]),
V 18 (.pick (.t 13) (.t 17) (.k (.c (.b false)))),
V 4 (.mv (.t 18))]) (.ret)))
def vf99 : VF := ⟨vf99c,vf99v,[(4,none)]⟩
theorem ok99 : chkF Tryz.prog Tryz.f99 vf99 = true := by kernel_rfl
theorem dr99 : drawsB vf99.body = true := by kernel_rfl
/-- loop.example/g00192/impl.DefAt$1 -/
def vf100v : List Nat := [0,1,2,3]
def vf100c : VC := .seq (.rg [V 2 (.box (.t 0)),
V 3 (.mv (.k (.c (.b false))))]) (.seq (.rg [V 4 (.fad 0 (.t 2)),
V 5 (.ld none (.t 4)),
V 6 (.ld none (.t 1)),
V 7 (.bin .eq (.t 5) (.t 6)),
V 3 (.mv (.t 7))]) (.ret))
def vf100 : VF := ⟨vf100c,vf100v,[(3,none)]⟩
theorem ok100 : chkF Tryz.prog Tryz.f100 vf100 = true := by kernel_rfl
theorem dr100 : drawsB vf100.body = true := by kernel_rfl
/-- slices.IndexFuncloop.example/g00192/impl.Insloop.example/g00192/impl.Ins -/
def vf101v : List Nat := [0,1,4,5,7,8,9,16]
def vf101b0 : VC := .seq (.rg [V 9 (.bin .lt (.t 8) (.t 7))]) (.seq (.cond (.t 9) (.skip) (.exit 0)) (.seq (.block 1 (.seq (.rg [V 10 (.mv (.t 8)),
V 5 (.mv (.t 10))]) (.seq (.rg [V 11 (.mv (.t 1)),
V 12 (.mv (.t 0)),
V 13 (.mv (.t 5)),
V 14 (.idx 5 (.t 12) (.t 13)),
V 15 (.ld (some 5) (.t 14)),
V 16 (.clv (.t 11) [(.t 15)])]) (.cond (.t 16) (.seq (.rg [V 17 (.mv (.t 5)),
V 4 (.mv (.t 17))]) (.ret)) (.skip))))) (.rg [V 18 (.bin .add (.t 8) (.k (.c (.i 1)))),
V 8 (.mv (.t 18))])))
def vf101c : VC := .seq (.rg [V 4 (.mv (.k (.c (.i 0))))]) (.seq (.seq (.rg [V 6 (.mv (.t 0)),
V 7 (.len (.t 6)),
V 8 (.mv (.k (.c (.i 0))))]) (.block 0 (.loop vf101b0))) (.seq (.rg [V 4 (.mv (.k (.c (.i (-1)))))]) (.ret)))
def vf101 : VF := ⟨vf101c,vf101v,[(4,none)]⟩
theorem ok101 : chkF Tryz.prog Tryz.f101 vf101 = true := by kernel_rfl
theorem dr101 : drawsB vf101.body = true := by kernel_rfl
/-- loop.example/g00192/impl.DefAt$2 -/
def vf102v : List Nat := [0,1,2,3]
def vf102c : VC := .seq (.rg [V 2 (.box (.t 0)),
V 3 (.mv (.k (.c (.b false))))]) (.seq (.rg [V 4 (.fad 0 (.t 2)),
V 5 (.ld none (.t 4)),
V 6 (.call 99 [(.t 5),(.k (.c (.y 68)))]),
V 7 (.mv (.t 6)),
Vg 8 7 true (.fad 1 (.t 2)),
Vg 9 7 true (.ld none (.t 8)),
Vg 10 7 true (.ld none (.t 1)),
Vg 11 7 true (.bin .eq (.t 9) (.t 10)),
V 12 (.pick (.t 7) (.t 11) (.k (.c (.b false)))),
V 3 (.mv (.t 12))]) (.ret))
def vf102 : VF := ⟨vf102c,vf102v,[(3,none)]⟩
theorem ok102 : chkF Tryz.prog Tryz.f102 vf102 = true := by kernel_rfl
theorem dr102 : drawsB vf102.body = true := by kernel_rfl
/-- loop.example/g00192/impl.among -/
def vf103v : List Nat := [0,1,2,6]
def vf103c : VC := .seq (.rg [V 6 (.mv (.k (.c (.b false))))]) (.seq (.rg [V 7 (.mv (.t 2)),
V 8 (.mv (.t 0)),
V 9 (.len (.t 8)),
V 10 (.bin .sub (.t 9) (.k (.c (.i 1)))),
V 11 (.call 66 [(.t 7),(.k (.c (.i 0))),(.t 10)]),
V 12 (.mv (.t 11)),
Vg 13 12 true (.mv (.t 0)),
Vg 14 12 true (.mv (.t 2)),
Vg 15 12 true (.idx 1 (.t 13) (.t 14)),
Vg 16 12 true (.ld none (.t 15)),
Vg 17 12 true (.mv (.t 1)),
Vg 18 12 true (.call 149 [(.t 16),(.t 17)]),
V 19 (.pick (.t 12) (.t 18) (.k (.c (.b false)))),
V 6 (.mv (.t 19))]) (.ret))
def vf103 : VF := ⟨vf103c,vf103v,[(6,none)]⟩
theorem ok103 : chkF Tryz.prog Tryz.f103 vf103 = true := by kernel_rfl
theorem dr103 : drawsB vf103.body = true := by kernel_rfl
/-- loop.example/g00192/spec.WordOk -/
def vf116v : List Nat := [0,2]
def vf116c : VC := .seq (.rg [V 2 (.mv (.k (.c (.b false))))]) (.seq (.rg [V 3 (.mv (.t 0)),
V 4 (.call 76 [(.t 3),(.k (.c (.i 1))),(.k (.c (.i 10)))]),
V 2 (.mv (.t 4))]) (.ret))
def vf116 : VF := ⟨vf116c,vf116v,[(2,none)]⟩
theorem ok116 : chkF Tryz.prog Tryz.f116 vf116 = true := by kernel_rfl
theorem dr116 : drawsB vf116.body = true := by kernel_rfl
/-- loop.example/g00192/impl.WordOk -/
def vf118v : List Nat := [0,2]
def vf118c : VC := .seq (.rg [V 2 (.mv (.k (.c (.b false))))]) (.seq (.rg [V 3 (.mv (.t 0)),
V 4 (.call 66 [(.t 3),(.k (.c (.i 1))),(.k (.c (.i 10)))]),
V 2 (.mv (.t 4))]) (.ret))
def vf118 : VF := ⟨vf118c,vf118v,[(2,none)]⟩
theorem ok118 : chkF Tryz.prog Tryz.f118 vf118 = true := by kernel_rfl
theorem dr118 : drawsB vf118.body = true := by kernel_rfl
/-- loop.example/g00192/impl.Word -/
def vf119v : List Nat := [0,1,2,6,7,8,13,18,23,28,33,38,44,50,56]
def vf119c : VC := .seq (.rg [V 6 (.mv (.k (.c (.i 0))))]) (.seq (.seq (.rg [V 7 (.mv (.t 0))]) (.block 0 (.seq (.rg [V 9 (.bin .eq (.t 7) (.k (.c (.i 1)))),
V 8 (.mv (.t 9))]) (.cond (.t 8) (.seq (.rg [V 10 (.mv (.t 1)),
V 11 (.mv (.t 2)),
V 12 (.bin .add (.t 10) (.t 11)),
V 6 (.mv (.t 12))]) (.ret)) (.seq (.rg [V 14 (.bin .eq (.t 7) (.k (.c (.i 2)))),
V 13 (.mv (.t 14))]) (.cond (.t 13) (.seq (.rg [V 15 (.mv (.t 1)),
V 16 (.mv (.t 2)),
V 17 (.bin .sub (.t 15) (.t 16)),
V 6 (.mv (.t 17))]) (.ret)) (.seq (.rg [V 19 (.bin .eq (.t 7) (.k (.c (.i 3)))),
V 18 (.mv (.t 19))]) (.cond (.t 18) (.seq (.rg [V 20 (.mv (.t 1)),
V 21 (.mv (.t 2)),
V 22 (.bin .mul (.t 20) (.t 21)),
V 6 (.mv (.t 22))]) (.ret)) (.seq (.rg [V 24 (.bin .eq (.t 7) (.k (.c (.i 4)))),
V 23 (.mv (.t 24))]) (.cond (.t 23) (.seq (.rg [V 25 (.mv (.t 1)),
V 26 (.mv (.t 2)),
V 27 (.bin .and (.t 25) (.t 26)),
V 6 (.mv (.t 27))]) (.ret)) (.seq (.rg [V 29 (.bin .eq (.t 7) (.k (.c (.i 5)))),
V 28 (.mv (.t 29))]) (.cond (.t 28) (.seq (.rg [V 30 (.mv (.t 1)),
V 31 (.mv (.t 2)),
V 32 (.bin .or (.t 30) (.t 31)),
V 6 (.mv (.t 32))]) (.ret)) (.seq (.rg [V 34 (.bin .eq (.t 7) (.k (.c (.i 6)))),
V 33 (.mv (.t 34))]) (.cond (.t 33) (.seq (.rg [V 35 (.mv (.t 1)),
V 36 (.mv (.t 2)),
V 37 (.bin .xor (.t 35) (.t 36)),
V 6 (.mv (.t 37))]) (.ret)) (.seq (.rg [V 39 (.bin .eq (.t 7) (.k (.c (.i 7)))),
V 38 (.mv (.t 39))]) (.cond (.t 38) (.seq (.rg [V 40 (.mv (.t 1)),
V 41 (.mv (.t 2)),
V 42 (.bin .lt (.t 40) (.t 41)),
V 43 (.call 180 [(.t 42)]),
V 6 (.mv (.t 43))]) (.ret)) (.seq (.rg [V 45 (.bin .eq (.t 7) (.k (.c (.i 8)))),
V 44 (.mv (.t 45))]) (.cond (.t 44) (.seq (.rg [V 46 (.mv (.t 1)),
V 47 (.mv (.t 2)),
V 48 (.bin .eq (.t 46) (.t 47)),
V 49 (.call 180 [(.t 48)]),
V 6 (.mv (.t 49))]) (.ret)) (.seq (.rg [V 51 (.bin .eq (.t 7) (.k (.c (.i 9)))),
V 50 (.mv (.t 51))]) (.cond (.t 50) (.seq (.rg [V 52 (.mv (.t 1)),
V 53 (.mv (.t 2)),
V 54 (.bin .and (.t 53) (.k (.c (.i 63)))),
V 55 (.bin .shl (.t 52) (.t 54)),
V 6 (.mv (.t 55))]) (.ret)) (.seq (.rg [V 57 (.bin .eq (.t 7) (.k (.c (.i 10)))),
V 56 (.mv (.t 57))]) (.cond (.t 56) (.seq (.rg [V 58 (.mv (.t 1)),
V 59 (.mv (.t 2)),
V 60 (.bin .and (.t 59) (.k (.c (.i 63)))),
V 61 (.bin .shr (.t 58) (.t 60)),
V 6 (.mv (.t 61))]) (.ret)) (.skip))))))))))))))))))))))) (.seq (.rg [V 6 (.mv (.k (.c (.i 0))))]) (.ret)))
def vf119 : VF := ⟨vf119c,vf119v,[(6,none)]⟩
theorem ok119 : chkF Tryz.prog Tryz.f119 vf119 = true := by kernel_rfl
theorem dr119 : drawsB vf119.body = true := by kernel_rfl
/-- loop.example/g00192/spec.InsDef -/
def vf121v : List Nat := [0,1,2,5]
def vf121c : VC := .seq (.rg [V 1 (.box (.t 0)),
V 2 (.mv (.k (.c (.i 0))))]) (.seq (.seq (.rg [V 3 (.fad 0 (.t 1)),
V 4 (.ld none (.t 3)),
V 5 (.call 181 [(.t 4)])]) (.cond (.t 5) (.seq (.rg [V 6 (.fad 1 (.t 1)),
V 7 (.ld none (.t 6)),
V 2 (.mv (.t 7))]) (.ret)) (.skip))) (.seq (.rg [V 2 (.mv (.k (.c (.i (-1)))))]) (.ret)))
def vf121 : VF := ⟨vf121c,vf121v,[(2,none)]⟩
theorem ok121 : chkF Tryz.prog Tryz.f121 vf121 = true := by kernel_rfl
theorem dr121 : drawsB vf121.body = true := by kernel_rfl
/-- loop.example/g00192/spec.l3Succs -/
def vf126v : List Nat := [0,1,2,4,5,13,14,19,25]
def vf126c : VC := .seq (.rg [V 2 (.box (.t 0)),
V 4 (.mv (.k (.c .ns)))]) (.seq (.rg [V 6 (.fad 0 (.t 2)),
V 7 (.ld none (.t 6)),
V 8 (.mv (.t 1)),
V 9 (.idx 6 (.t 7) (.t 8)),
V 10 (.fad 2 (.t 9)),
V 11 (.ld (some 4) (.t 10)),
V 5 (.alloc [.i 0,.i 0,.i 0,.i 0]),
Vn (.st 4 (.t 5) (.t 11))]) (.seq (.seq (.rg [V 12 (.fad 0 (.t 5)),
V 13 (.ld none (.t 12))]) (.block 0 (.seq (.rg [V 15 (.bin .eq (.t 13) (.k (.c (.i 1)))),
V 14 (.mv (.t 15))]) (.cond (.t 14) (.seq (.rg [V 16 (.fad 2 (.t 5)),
V 17 (.ld none (.t 16)),
V 18 (.bsl 1 [.i 0] 1 [(0,1,(.t 17))]),
V 4 (.mv (.t 18))]) (.ret)) (.seq (.rg [V 20 (.bin .eq (.t 13) (.k (.c (.i 2)))),
V 19 (.mv (.t 20))]) (.cond (.t 19) (.seq (.seq (.rg [V 21 (.fad 2 (.t 5)),
V 22 (.ld none (.t 21)),
V 23 (.fad 3 (.t 5)),
V 24 (.ld none (.t 23)),
V 25 (.bin .eq (.t 22) (.t 24))]) (.cond (.t 25) (.seq (.rg [V 26 (.fad 2 (.t 5)),
V 27 (.ld none (.t 26)),
V 28 (.bsl 1 [.i 0] 1 [(0,1,(.t 27))]),
V 4 (.mv (.t 28))]) (.ret)) (.skip))) (.seq (.rg [V 29 (.fad 2 (.t 5)),
V 30 (.ld none (.t 29)),
V 31 (.fad 3 (.t 5)),
V 32 (.ld none (.t 31)),
V 33 (.bsl 1 [.i 0] 2 [(0,1,(.t 30)),(1,1,(.t 32))]),
V 4 (.mv (.t 33))]) (.ret))) (.skip))))))) (.seq (.rg [V 34 (.bsl 1 [.i 0] 0 []),
V 4 (.mv (.t 34))]) (.ret))))
def vf126 : VF := ⟨vf126c,vf126v,[(4,none)]⟩
theorem ok126 : chkF Tryz.prog Tryz.f126 vf126 = true := by kernel_rfl
theorem dr126 : drawsB vf126.body = true := by kernel_rfl
/-- loop.example/g00192/spec.l1Once -/
def vf131v : List Nat := [0,1,4]
def vf131c : VC := .seq (.rg [V 4 (.mv (.k (.c (.b false))))]) (.seq (.rg [V 5 (.mv (.t 0)),
V 6 (.mv (.t 1)),
V 7 (.call 136 [(.t 5),(.t 6)]),
V 8 (.bin .eq (.t 7) (.k (.c (.i 0)))),
V 4 (.mv (.t 8))]) (.ret))
def vf131 : VF := ⟨vf131c,vf131v,[(4,none)]⟩
theorem ok131 : chkF Tryz.prog Tryz.f131 vf131 = true := by kernel_rfl
theorem dr131 : drawsB vf131.body = true := by kernel_rfl
end Go.Proofs.YtgdfgnppeekfjaaGreat.Vm
