/- The ideal machine's code for some of the program's functions, each checked against the translated one. No conditions. -/
import Derived.Test.YtnapgdlfeadhaaaChecked
import Derived.Test.YtnapgdlfeadhaaaVmQ
import Derived.Test.YtnapgdlfeadhaaaVmC
namespace Go.Proofs.Ytnapgdlfeadhaaa.Vm
set_option linter.unusedVariables false
set_option maxRecDepth 100000
/-- loop.example/g00192/spec.l6Run -/
def vf81v : List Nat := [0,1,3,4,5,6,7,8,9,10,11,35,42,59,65,78,103]
def vf81b0 : VC := .seq (.seq (.rg [V 31 (.mv (.t 9)),
V 32 (.fad 1 (.t 8)),
V 33 (.ld none (.t 32)),
V 34 (.len (.t 33)),
V 35 (.bin .lt (.t 31) (.t 34))]) (.cond (.t 35) (.skip) (.exit 2))) (.seq (.block 3 (.seq (.seq (.rg [V 38 (.mv (.t 0)),
V 39 (.nilc (.t 38)),
V 40 (.fad 5 (.t 39)),
V 41 (.ld none (.t 40)),
V 42 (.bin .eq (.t 41) (.k (.c (.i 0))))]) (.cond (.t 42) (.seq (.rg [V 4 (.mv (.k (.c (.i 1)))),
V 5 (.mv (.k (.c (.i 0))))]) (.ret)) (.skip))) (.seq (.rg [V 43 (.mv (.t 0)),
V 44 (.mv (.t 0)),
V 45 (.nilc (.t 44)),
V 46 (.fad 5 (.t 45)),
V 47 (.ld none (.t 46)),
V 48 (.bin .sub (.t 47) (.k (.c (.i 1)))),
V 49 (.nilc (.t 43)),
V 50 (.fad 5 (.t 49)),
Vn (.st 1 (.t 50) (.t 48))]) (.seq (.rg [V 51 (.mv (.t 0)),
V 52 (.fad 1 (.t 8)),
V 53 (.ld none (.t 52)),
V 54 (.mv (.t 9)),
V 55 (.idx 5 (.t 53) (.t 54)),
V 56 (.ld (some 5) (.t 55)),
V 57 (.call 113 [(.t 51),(.t 56)]),
V 10 (.mv (.t 57))]) (.seq (.rg [V 58 (.mv (.t 10)),
V 59 (.bin .ne (.t 58) (.k (.c (.i 0))))]) (.cond (.t 59) (.seq (.rg [V 60 (.mv (.t 10)),
V 4 (.mv (.t 60)),
V 5 (.mv (.k (.c (.i 0))))]) (.ret)) (.skip))))))) (.rg [V 36 (.mv (.t 9)),
V 37 (.bin .add (.t 36) (.k (.c (.i 1)))),
V 9 (.mv (.t 37))]))
def vf81b1 : VC := .block 1 (.seq (.rg [V 12 (.fad 0 (.t 3)),
V 13 (.ld none (.t 12)),
V 14 (.mv (.t 6)),
V 15 (.idx 6 (.t 13) (.t 14)),
V 16 (.ld (some 6) (.t 15)),
V 8 (.alloc [.ns,.ns,.i 0,.i 0,.i 0,.i 0]),
Vn (.st 6 (.t 8) (.t 16))]) (.seq (.rg [V 17 (.mv (.t 0)),
V 18 (.mv (.t 0)),
V 19 (.nilc (.t 18)),
V 20 (.fad 4 (.t 19)),
V 21 (.ld none (.t 20)),
V 22 (.mv (.t 6)),
V 23 (.bsl 1 [.i 0] 1 [(0,1,(.t 22))]),
V 24 (.app 1 (.t 21) (.t 23)),
V 25 (.nilc (.t 17)),
V 26 (.fad 4 (.t 25)),
Vn (.st 1 (.t 26) (.t 24))]) (.seq (.rg [V 27 (.mv (.t 0)),
V 28 (.ld (some 6) (.t 8)),
V 29 (.mv (.t 7)),
V 30 (.call 112 [(.t 27),(.t 28),(.t 29)])]) (.seq (.seq (.rg [V 9 (.mv (.k (.c (.i 0))))]) (.block 2 (.loop vf81b0))) (.seq (.seq (.rg [V 61 (.mv (.t 0)),
V 62 (.nilc (.t 61)),
V 63 (.fad 5 (.t 62)),
V 64 (.ld none (.t 63)),
V 65 (.bin .eq (.t 64) (.k (.c (.i 0))))]) (.cond (.t 65) (.seq (.rg [V 4 (.mv (.k (.c (.i 1)))),
V 5 (.mv (.k (.c (.i 0))))]) (.ret)) (.skip))) (.seq (.rg [V 66 (.mv (.t 0)),
V 67 (.mv (.t 0)),
V 68 (.nilc (.t 67)),
V 69 (.fad 5 (.t 68)),
V 70 (.ld none (.t 69)),
V 71 (.bin .sub (.t 70) (.k (.c (.i 1)))),
V 72 (.nilc (.t 66)),
V 73 (.fad 5 (.t 72)),
Vn (.st 1 (.t 73) (.t 71))]) (.seq (.rg [V 74 (.fad 2 (.t 8)),
V 75 (.ld (some 4) (.t 74)),
V 11 (.alloc [.i 0,.i 0,.i 0,.i 0]),
Vn (.st 4 (.t 11) (.t 75))]) (.seq (.seq (.rg [V 76 (.fad 0 (.t 11)),
V 77 (.ld none (.t 76)),
V 78 (.bin .eq (.t 77) (.k (.c (.i 3))))]) (.cond (.t 78) (.seq (.rd [V 79 (.mv (.t 0)),
Vd [0] (V 80 (.nilc (.t 79))),
Vd [1] (V 81 (.fad 0 (.t 80))),
Vd [2] (V 82 (.ld none (.t 81))),
V 83 (.fad 1 (.t 11)),
Vd [4] (V 84 (.ld none (.t 83))),
Vd [3,5] (V 85 (.idx 1 (.t 82) (.t 84))),
Vd [6] (V 86 (.ld none (.t 85))),
V 4 (.mv (.k (.c (.i 0)))),
Vd [7,8] (V 5 (.mv (.t 86)))]) (.ret)) (.skip))) (.seq (.rg [V 87 (.mv (.t 6)),
V 7 (.mv (.t 87))]) (.seq (.rg [V 88 (.fad 2 (.t 11)),
V 89 (.ld none (.t 88)),
V 6 (.mv (.t 89))]) (.seq (.rd [V 90 (.fad 0 (.t 11)),
Vd [0] (V 91 (.ld none (.t 90))),
Vd [1] (V 92 (.bin .eq (.t 91) (.k (.c (.i 2))))),
Vd [2] (V 93 (.mv (.t 92))),
Vd [3] (Vg 94 93 true (.mv (.t 0))),
Vd [4] (Vg 95 93 true (.nilc (.t 94))),
Vd [5] (Vg 96 93 true (.fad 0 (.t 95))),
Vd [6] (Vg 97 93 true (.ld none (.t 96))),
Vd [3] (Vg 98 93 true (.fad 1 (.t 11))),
Vd [8] (Vg 99 93 true (.ld none (.t 98))),
Vd [7,9] (Vg 100 93 true (.idx 1 (.t 97) (.t 99))),
Vd [10] (Vg 101 93 true (.ld none (.t 100))),
Vd [11] (Vg 102 93 true (.bin .eq (.t 101) (.k (.c (.i 0))))),
Vd [12] (V 103 (.pick (.t 93) (.t 102) (.k (.c (.b false)))))]) (.cond (.t 103) (.rg [V 104 (.fad 3 (.t 11)),
V 105 (.ld none (.t 104)),
V 6 (.mv (.t 105))]) (.skip)))))))))))))
def vf81c : VC := .seq (.rg [V 3 (.box (.t 1)),
V 4 (.mv (.k (.c (.i 0)))),
V 5 (.mv (.k (.c (.i 0))))]) (.seq (.rg [V 6 (.mv (.k (.c (.i 0)))),
V 7 (.mv (.k (.c (.i (-1)))))]) (.block 0 (.loop vf81b1)))
def vf81 : VF := ⟨vf81c,vf81v,[(4,none),(5,none)]⟩
theorem ok81 : chkF Try.prog Try.f81 vf81 = true := by kernel_rfl
theorem dr81 : drawsB vf81.body = true := by kernel_rfl
/-- slices.ContainsFuncloop.example/g00192/impl.Blockloop.example/g00192/impl.Block -/
def vf82v : List Nat := [0,1,4]
def vf82c : VC := .seq (.rg [V 4 (.mv (.k (.c (.b false))))]) (.seq (.rg [V 5 (.mv (.t 0)),
V 6 (.mv (.t 1)),
V 7 (.call 114 [(.t 5),(.t 6)]),
V 8 (.bin .ge (.t 7) (.k (.c (.i 0)))),
V 4 (.mv (.t 8))]) (.ret))
def vf82 : VF := ⟨vf82c,vf82v,[(4,none)]⟩
theorem ok82 : chkF Try.prog Try.f82 vf82 = true := by kernel_rfl
theorem dr82 : drawsB vf82.body = true := by kernel_rfl
/-- loop.example/g00192/impl.ShapeOk$1 -/
def vf83v : List Nat := [0,1,2,3,4,23]
def vf83c : VC := .seq (.rg [V 3 (.box (.t 0)),
V 4 (.mv (.k (.c (.b false))))]) (.seq (.seq (.rg [V 5 (.fad 0 (.t 3)),
V 6 (.ld none (.t 5)),
V 7 (.len (.t 6)),
V 8 (.bin .gt (.t 7) (.k (.c (.i 24)))),
V 9 (.mv (.t 8)),
Vg 10 9 false (.fad 1 (.t 3)),
Vg 11 9 false (.ld none (.t 10)),
Vg 12 9 false (.len (.t 11)),
Vg 13 9 false (.bin .gt (.t 12) (.k (.c (.i 24)))),
V 14 (.pick (.t 9) (.k (.c (.b true))) (.t 13)),
V 15 (.mv (.t 14)),
Vg 16 15 false (.fad 2 (.t 3)),
Vg 17 15 false (.ld (some 4) (.t 16)),
Vg 18 15 false (.ld none (.t 1)),
Vg 19 15 false (.fad 1 (.t 2)),
Vg 20 15 false (.ld none (.t 19)),
Vg 21 15 false (.call 84 [(.t 17),(.t 18),(.t 20)]),
Vg 22 15 false (.not (.t 21)),
V 23 (.pick (.t 15) (.k (.c (.b true))) (.t 22))]) (.cond (.t 23) (.seq (.rg [V 4 (.mv (.k (.c (.b true))))]) (.ret)) (.skip))) (.seq (.rg [V 24 (.fad 0 (.t 3)),
V 25 (.ld none (.t 24)),
V 26 (.mkf 86 [(.t 1),(.t 2)]),
V 27 (.call 85 [(.t 25),(.t 26)]),
V 28 (.mv (.t 27)),
Vg 29 28 false (.fad 1 (.t 3)),
Vg 30 28 false (.ld none (.t 29)),
Vg 31 28 false (.mkf 89 [(.t 2)]),
Vg 32 28 false (.call 88 [(.t 30),(.t 31)]),
V 33 (.pick (.t 28) (.k (.c (.b true))) (.t 32)),
V 4 (.mv (.t 33))]) (.ret)))
def vf83 : VF := ⟨vf83c,vf83v,[(4,none)]⟩
theorem ok83 : chkF Try.prog Try.f83 vf83 = true := by kernel_rfl
theorem dr83 : drawsB vf83.body = true := by kernel_rfl
/-- loop.example/g00192/impl.termOk -/
def vf84v : List Nat := [0,1,2,3,6,8,9,26,46]
def vf84c : VC := .seq (.rg [V 3 (.box (.t 0)),
V 6 (.mv (.k (.c (.b false))))]) (.seq (.seq (.rg [V 7 (.fad 0 (.t 3)),
V 8 (.ld none (.t 7))]) (.block 0 (.seq (.rg [V 10 (.bin .eq (.t 8) (.k (.c (.i 1)))),
V 9 (.mv (.t 10))]) (.cond (.t 9) (.seq (.rg [V 11 (.fad 2 (.t 3)),
V 12 (.ld none (.t 11)),
V 13 (.mv (.t 1)),
V 14 (.bin .sub (.t 13) (.k (.c (.i 1)))),
V 15 (.call 72 [(.t 12),(.k (.c (.i 0))),(.t 14)]),
V 16 (.mv (.t 15)),
Vg 17 16 true (.fad 1 (.t 3)),
Vg 18 16 true (.ld none (.t 17)),
Vg 19 16 true (.bin .eq (.t 18) (.k (.c (.i 0)))),
V 20 (.pick (.t 16) (.t 19) (.k (.c (.b false)))),
V 21 (.mv (.t 20)),
Vg 22 21 true (.fad 3 (.t 3)),
Vg 23 21 true (.ld none (.t 22)),
Vg 24 21 true (.bin .eq (.t 23) (.k (.c (.i 0)))),
V 25 (.pick (.t 21) (.t 24) (.k (.c (.b false)))),
V 6 (.mv (.t 25))]) (.ret)) (.seq (.rg [V 27 (.bin .eq (.t 8) (.k (.c (.i 2)))),
V 26 (.mv (.t 27))]) (.cond (.t 26) (.seq (.rg [V 28 (.fad 2 (.t 3)),
V 29 (.ld none (.t 28)),
V 30 (.mv (.t 1)),
V 31 (.bin .sub (.t 30) (.k (.c (.i 1)))),
V 32 (.call 72 [(.t 29),(.k (.c (.i 0))),(.t 31)]),
V 33 (.mv (.t 32)),
Vg 34 33 true (.fad 3 (.t 3)),
Vg 35 33 true (.ld none (.t 34)),
Vg 36 33 true (.mv (.t 1)),
Vg 37 33 true (.bin .sub (.t 36) (.k (.c (.i 1)))),
Vg 38 33 true (.call 72 [(.t 35),(.k (.c (.i 0))),(.t 37)]),
V 39 (.pick (.t 33) (.t 38) (.k (.c (.b false)))),
V 40 (.mv (.t 39)),
Vg 41 40 true (.fad 1 (.t 3)),
Vg 42 40 true (.ld none (.t 41)),
Vg 43 40 true (.mv (.t 2)),
Vg 44 40 true (.call 115 [(.t 42),(.k (.c (.b true))),(.t 43)]),
V 45 (.pick (.t 40) (.t 44) (.k (.c (.b false)))),
V 6 (.mv (.t 45))]) (.ret)) (.seq (.rg [V 47 (.bin .eq (.t 8) (.k (.c (.i 3)))),
V 46 (.mv (.t 47))]) (.cond (.t 46) (.seq (.rg [V 48 (.fad 1 (.t 3)),
V 49 (.ld none (.t 48)),
V 50 (.mv (.t 2)),
V 51 (.call 115 [(.t 49),(.k (.c (.b true))),(.t 50)]),
V 52 (.mv (.t 51)),
Vg 53 52 true (.fad 2 (.t 3)),
Vg 54 52 true (.ld none (.t 53)),
Vg 55 52 true (.bin .eq (.t 54) (.k (.c (.i 0)))),
V 56 (.pick (.t 52) (.t 55) (.k (.c (.b false)))),
V 57 (.mv (.t 56)),
Vg 58 57 true (.fad 3 (.t 3)),
Vg 59 57 true (.ld none (.t 58)),
Vg 60 57 true (.bin .eq (.t 59) (.k (.c (.i 0)))),
V 61 (.pick (.t 57) (.t 60) (.k (.c (.b false)))),
V 6 (.mv (.t 61))]) (.ret)) (.skip))))))))) (.seq (.rg [V 6 (.mv (.k (.c (.b false))))]) (.ret)))
def vf84 : VF := ⟨vf84c,vf84v,[(6,none)]⟩
theorem ok84 : chkF Try.prog Try.f84 vf84 = true := by kernel_rfl
theorem dr84 : drawsB vf84.body = true := by kernel_rfl
/-- slices.ContainsFuncloop.example/g00192/impl.Philoop.example/g00192/impl.Phi -/
def vf85v : List Nat := [0,1,4]
def vf85c : VC := .seq (.rg [V 4 (.mv (.k (.c (.b false))))]) (.seq (.rg [V 5 (.mv (.t 0)),
V 6 (.mv (.t 1)),
V 7 (.call 116 [(.t 5),(.t 6)]),
V 8 (.bin .ge (.t 7) (.k (.c (.i 0)))),
V 4 (.mv (.t 8))]) (.ret))
def vf85 : VF := ⟨vf85c,vf85v,[(4,none)]⟩
theorem ok85 : chkF Try.prog Try.f85 vf85 = true := by kernel_rfl
theorem dr85 : drawsB vf85.body = true := by kernel_rfl
/-- loop.example/g00192/impl.ShapeOk$1$1 -/
def vf86v : List Nat := [0,1,2,3,4]
def vf86c : VC := .seq (.rg [V 3 (.box (.t 0)),
V 4 (.mv (.k (.c (.b false))))]) (.seq (.rg [V 5 (.ld (some 2) (.t 3)),
V 6 (.ld none (.t 1)),
V 7 (.fad 1 (.t 2)),
V 8 (.ld none (.t 7)),
V 9 (.call 87 [(.t 5),(.t 6),(.t 8)]),
V 10 (.not (.t 9)),
V 4 (.mv (.t 10))]) (.ret))
def vf86 : VF := ⟨vf86c,vf86v,[(4,none)]⟩
theorem ok86 : chkF Try.prog Try.f86 vf86 = true := by kernel_rfl
theorem dr86 : drawsB vf86.body = true := by kernel_rfl
/-- loop.example/g00192/impl.phiOk -/
def vf87v : List Nat := [0,1,2,3,6,7,8,10,11,12,13,37]
def vf87b0 : VC := .seq (.rg [V 13 (.bin .lt (.t 12) (.t 11))]) (.seq (.cond (.t 13) (.skip) (.exit 0)) (.seq (.block 1 (.seq (.rg [V 14 (.mv (.t 12)),
V 15 (.idx 2 (.t 10) (.t 12)),
V 16 (.ld (some 2) (.t 15)),
V 8 (.alloc [.i 0,.i 0]),
V 7 (.mv (.t 14)),
Vn (.st 2 (.t 8) (.t 16))]) (.seq (.rg [V 17 (.fad 0 (.t 8)),
V 18 (.ld none (.t 17)),
V 19 (.mv (.t 1)),
V 20 (.bin .sub (.t 19) (.k (.c (.i 1)))),
V 21 (.call 72 [(.t 18),(.k (.c (.i 0))),(.t 20)]),
V 22 (.not (.t 21)),
V 23 (.mv (.t 22)),
Vg 24 23 false (.fad 1 (.t 8)),
Vg 25 23 false (.ld none (.t 24)),
Vg 26 23 false (.mv (.t 2)),
Vg 27 23 false (.call 115 [(.t 25),(.k (.c (.b true))),(.t 26)]),
Vg 28 23 false (.not (.t 27)),
V 29 (.pick (.t 23) (.k (.c (.b true))) (.t 28)),
V 30 (.mv (.t 29)),
Vg 31 30 false (.fad 1 (.t 3)),
Vg 32 30 false (.ld none (.t 31)),
Vg 33 30 false (.mv (.t 7)),
Vg 34 30 false (.slc 2 (.t 32) none (some (.t 33))),
Vg 35 30 false (.mkf 118 [(.t 8)]),
Vg 36 30 false (.call 117 [(.t 34),(.t 35)]),
V 37 (.pick (.t 30) (.k (.c (.b true))) (.t 36))]) (.cond (.t 37) (.seq (.rg [V 6 (.mv (.k (.c (.b false))))]) (.ret)) (.skip))))) (.rg [V 38 (.bin .add (.t 12) (.k (.c (.i 1)))),
V 12 (.mv (.t 38))])))
def vf87c : VC := .seq (.rg [V 3 (.box (.t 0)),
V 6 (.mv (.k (.c (.b false))))]) (.seq (.seq (.rg [V 9 (.fad 1 (.t 3)),
V 10 (.ld none (.t 9)),
V 11 (.len (.t 10)),
V 12 (.mv (.k (.c (.i 0))))]) (.block 0 (.loop vf87b0))) (.seq (.rg [V 39 (.fad 0 (.t 3)),
V 40 (.ld none (.t 39)),
V 41 (.mv (.t 2)),
V 42 (.call 115 [(.t 40),(.k (.c (.b true))),(.t 41)]),
V 43 (.mv (.t 42)),
Vg 44 43 true (.fad 1 (.t 3)),
Vg 45 43 true (.ld none (.t 44)),
Vg 46 43 true (.len (.t 45)),
Vg 47 43 true (.bin .le (.t 46) (.k (.c (.i 16)))),
V 48 (.pick (.t 43) (.t 47) (.k (.c (.b false)))),
V 6 (.mv (.t 48))]) (.ret)))
def vf87 : VF := ⟨vf87c,vf87v,[(6,none)]⟩
theorem ok87 : chkF Try.prog Try.f87 vf87 = true := by kernel_rfl
theorem dr87 : drawsB vf87.body = true := by kernel_rfl
/-- slices.ContainsFuncloop.example/g00192/impl.Insloop.example/g00192/impl.Ins -/
def vf88v : List Nat := [0,1,4]
def vf88c : VC := .seq (.rg [V 4 (.mv (.k (.c (.b false))))]) (.seq (.rg [V 5 (.mv (.t 0)),
V 6 (.mv (.t 1)),
V 7 (.call 119 [(.t 5),(.t 6)]),
V 8 (.bin .ge (.t 7) (.k (.c (.i 0)))),
V 4 (.mv (.t 8))]) (.ret))
def vf88 : VF := ⟨vf88c,vf88v,[(4,none)]⟩
theorem ok88 : chkF Try.prog Try.f88 vf88 = true := by kernel_rfl
theorem dr88 : drawsB vf88.body = true := by kernel_rfl
/-- loop.example/g00192/impl.ShapeOk$1$2 -/
def vf89v : List Nat := [0,1,2,3]
def vf89c : VC := .seq (.rg [V 2 (.box (.t 0)),
V 3 (.mv (.k (.c (.b false))))]) (.seq (.rg [V 4 (.ld (some 5) (.t 2)),
V 5 (.fad 1 (.t 1)),
V 6 (.ld none (.t 5)),
V 7 (.call 90 [(.t 4),(.t 6)]),
V 8 (.not (.t 7)),
V 3 (.mv (.t 8))]) (.ret))
def vf89 : VF := ⟨vf89c,vf89v,[(3,none)]⟩
theorem ok89 : chkF Try.prog Try.f89 vf89 = true := by kernel_rfl
theorem dr89 : drawsB vf89.body = true := by kernel_rfl
/-- loop.example/g00192/impl.insOk -/
def vf90v : List Nat := [0,1,2,4,6]
def vf90c : VC := .seq (.rg [V 2 (.box (.t 0)),
V 4 (.mv (.k (.c (.b false))))]) (.seq (.rg [V 8 (.fad 0 (.t 2)),
V 9 (.ld none (.t 8)),
V 10 (.call 120 [(.t 9)]),
V 7 (.mv (.t 10)),
V 11 (.ext 0 (.t 7)),
V 12 (.ext 1 (.t 7)),
V 5 (.mv (.t 11)),
V 6 (.mv (.t 12))]) (.seq (.rd [V 13 (.mv (.t 6)),
Vd [0] (V 14 (.mv (.t 13))),
Vd [1] (Vg 15 14 true (.fad 1 (.t 2))),
Vc [2] [] true (Vg 16 14 true (.ld none (.t 15))),
Vd [1] (Vg 17 14 true (.fad 0 (.t 2))),
Vd [4] (Vg 18 14 true (.ld none (.t 17))),
Vc [5] [3] false (Vg 19 14 true (.call 121 [(.t 18),(.k (.c (.y 68)))])),
Vd [1] (Vg 20 14 true (.mv (.t 1))),
Vd [3,6,7] (Vg 21 14 true (.call 115 [(.t 16),(.t 19),(.t 20)])),
Vd [8] (V 22 (.pick (.t 14) (.t 21) (.k (.c (.b false))))),
Vd [9] (V 23 (.mv (.t 22))),
Vd [10] (Vg 24 23 true (.fad 2 (.t 2))),
Vc [11] [] true (Vg 25 23 true (.ld none (.t 24))),
Vd [10] (Vg 26 23 true (.fad 0 (.t 2))),
Vd [13] (Vg 27 23 true (.ld none (.t 26))),
Vc [14] [12] false (Vg 28 23 true (.call 121 [(.t 27),(.k (.c (.y 65)))])),
Vd [10] (Vg 29 23 true (.mv (.t 1))),
Vd [12,15,16] (Vg 30 23 true (.call 115 [(.t 25),(.t 28),(.t 29)])),
Vd [17] (V 31 (.pick (.t 23) (.t 30) (.k (.c (.b false))))),
Vd [18] (V 32 (.mv (.t 31))),
Vd [19] (Vg 33 32 true (.fad 3 (.t 2))),
Vc [20] [] true (Vg 34 32 true (.ld none (.t 33))),
Vd [19] (Vg 35 32 true (.fad 0 (.t 2))),
Vd [22] (Vg 36 32 true (.ld none (.t 35))),
Vc [23] [21] false (Vg 37 32 true (.call 121 [(.t 36),(.k (.c (.y 66)))])),
Vd [19] (Vg 38 32 true (.mv (.t 1))),
Vd [21,24,25] (Vg 39 32 true (.call 115 [(.t 34),(.t 37),(.t 38)])),
Vd [26] (V 40 (.pick (.t 32) (.t 39) (.k (.c (.b false))))),
Vd [27] (V 41 (.mv (.t 40))),
Vd [28] (Vg 42 41 true (.fad 4 (.t 2))),
Vd [29] (Vg 43 41 true (.ld none (.t 42))),
Vd [30] (Vg 44 41 true (.bin .eq (.t 43) (.k (.c (.i 0))))),
Vd [31] (Vg 45 41 true (.mv (.t 44))),
Vd [32] (Vg 46 45 false (.fad 0 (.t 2))),
Vd [33] (Vg 47 45 false (.ld none (.t 46))),
Vd [34] (Vg 48 45 false (.call 121 [(.t 47),(.k (.c (.y 78)))])),
Vd [35] (Vg 49 41 true (.pick (.t 45) (.k (.c (.b true))) (.t 48))),
Vd [36] (V 50 (.pick (.t 41) (.t 49) (.k (.c (.b false))))),
Vd [37] (V 4 (.mv (.t 50)))]) (.ret)))
def vf90 : VF := ⟨vf90c,vf90v,[(4,none)]⟩
theorem ok90 : chkF Try.prog Try.f90 vf90 = true := by kernel_rfl
theorem dr90 : drawsB vf90.body = true := by kernel_rfl
/-- loop.example/g00192/laws.szBlockS -/
def vf91v : List Nat := [0,1,4,5,11,15,25]
def vf91b0 : VC := .seq (.seq (.rg [V 12 (.mv (.t 5)),
V 13 (.mv (.t 0)),
V 14 (.len (.t 13)),
V 15 (.bin .lt (.t 12) (.t 14))]) (.cond (.t 15) (.skip) (.exit 0))) (.seq (.block 1 (.seq (.rg [V 18 (.mv (.t 0)),
V 19 (.mv (.t 5)),
V 20 (.idx 6 (.t 18) (.t 19)),
V 21 (.ld (some 6) (.t 20)),
V 22 (.mv (.t 1)),
V 23 (.call 122 [(.t 21),(.t 22)]),
V 1 (.mv (.t 23))]) (.seq (.rg [V 24 (.mv (.t 1)),
V 25 (.bin .lt (.t 24) (.k (.c (.i 0))))]) (.cond (.t 25) (.seq (.rg [V 4 (.mv (.k (.c (.i (-1)))))]) (.ret)) (.skip))))) (.rg [V 16 (.mv (.t 5)),
V 17 (.bin .add (.t 16) (.k (.c (.i 1)))),
V 5 (.mv (.t 17))]))
def vf91c : VC := .seq (.rg [V 4 (.mv (.k (.c (.i 0))))]) (.seq (.rg [V 6 (.mv (.t 1)),
V 7 (.mv (.t 0)),
V 8 (.len (.t 7)),
V 9 (.bin .sub (.t 6) (.t 8)),
V 1 (.mv (.t 9))]) (.seq (.seq (.rg [V 10 (.mv (.t 1)),
V 11 (.bin .lt (.t 10) (.k (.c (.i 0))))]) (.cond (.t 11) (.seq (.rg [V 4 (.mv (.k (.c (.i (-1)))))]) (.ret)) (.skip))) (.seq (.seq (.rg [V 5 (.mv (.k (.c (.i 0))))]) (.block 0 (.loop vf91b0))) (.seq (.rg [V 26 (.mv (.t 1)),
V 4 (.mv (.t 26))]) (.ret)))))
def vf91 : VF := ⟨vf91c,vf91v,[(4,none)]⟩
theorem ok91 : chkF Try.prog Try.f91 vf91 = true := by kernel_rfl
theorem dr91 : drawsB vf91.body = true := by kernel_rfl
/-- loop.example/g00192/laws.toBlockS -/
def vf92v : List Nat := [0,2,3,4,11]
def vf92b0 : VC := .seq (.seq (.rg [V 8 (.mv (.t 4)),
V 9 (.mv (.t 0)),
V 10 (.len (.t 9)),
V 11 (.bin .lt (.t 8) (.t 10))]) (.cond (.t 11) (.skip) (.exit 0))) (.seq (.block 1 (.rg [V 14 (.mv (.t 3)),
V 15 (.mv (.t 4)),
V 16 (.mv (.t 0)),
V 17 (.mv (.t 4)),
V 18 (.idx 6 (.t 16) (.t 17)),
V 19 (.ld (some 6) (.t 18)),
V 20 (.call 123 [(.t 19)]),
V 21 (.idx 6 (.t 14) (.t 15)),
Vn (.st 6 (.t 21) (.t 20))])) (.rg [V 12 (.mv (.t 4)),
V 13 (.bin .add (.t 12) (.k (.c (.i 1)))),
V 4 (.mv (.t 13))]))
def vf92c : VC := .seq (.rg [V 2 (.mv (.k (.c .ns)))]) (.seq (.rg [V 5 (.mv (.t 0)),
V 6 (.len (.t 5)),
V 7 (.mks 6 [.ns,.ns,.i 0,.i 0,.i 0,.i 0] (.t 6)),
V 3 (.mv (.t 7))]) (.seq (.seq (.rg [V 4 (.mv (.k (.c (.i 0))))]) (.block 0 (.loop vf92b0))) (.seq (.rg [V 22 (.mv (.t 3)),
V 2 (.mv (.t 22))]) (.ret))))
def vf92 : VF := ⟨vf92c,vf92v,[(2,none)]⟩
theorem ok92 : chkF Try.prog Try.f92 vf92 = true := by kernel_rfl
theorem dr92 : drawsB vf92.body = true := by kernel_rfl
/-- loop.example/g00192/laws.eqBlockS -/
def vf93v : List Nat := [0,1,4,5,10,14,26]
def vf93b0 : VC := .seq (.seq (.rg [V 11 (.mv (.t 5)),
V 12 (.mv (.t 0)),
V 13 (.len (.t 12)),
V 14 (.bin .lt (.t 11) (.t 13))]) (.cond (.t 14) (.skip) (.exit 0))) (.seq (.block 1 (.seq (.rd [V 17 (.mv (.t 0)),
V 18 (.mv (.t 5)),
Vd [0,1] (V 19 (.idx 6 (.t 17) (.t 18))),
Vd [2] (V 20 (.ld (some 6) (.t 19))),
V 21 (.mv (.t 1)),
V 22 (.mv (.t 5)),
Vd [4,5] (V 23 (.idx 6 (.t 21) (.t 22))),
Vd [6] (V 24 (.ld (some 6) (.t 23))),
Vd [3,7] (V 25 (.call 124 [(.t 20),(.t 24)])),
Vd [8] (V 26 (.not (.t 25)))]) (.cond (.t 26) (.seq (.rg [V 4 (.mv (.k (.c (.b false))))]) (.ret)) (.skip)))) (.rg [V 15 (.mv (.t 5)),
V 16 (.bin .add (.t 15) (.k (.c (.i 1)))),
V 5 (.mv (.t 16))]))
def vf93c : VC := .seq (.rg [V 4 (.mv (.k (.c (.b false))))]) (.seq (.seq (.rg [V 6 (.mv (.t 0)),
V 7 (.len (.t 6)),
V 8 (.mv (.t 1)),
V 9 (.len (.t 8)),
V 10 (.bin .ne (.t 7) (.t 9))]) (.cond (.t 10) (.seq (.rg [V 4 (.mv (.k (.c (.b false))))]) (.ret)) (.skip))) (.seq (.seq (.rg [V 5 (.mv (.k (.c (.i 0))))]) (.block 0 (.loop vf93b0))) (.seq (.rg [V 4 (.mv (.k (.c (.b true))))]) (.ret))))
def vf93 : VF := ⟨vf93c,vf93v,[(4,none)]⟩
theorem ok93 : chkF Try.prog Try.f93 vf93 = true := by kernel_rfl
theorem dr93 : drawsB vf93.body = true := by kernel_rfl
/-- loop.example/g00192/laws.markBlockS -/
def vf94v : List Nat := [0,1,4,5,9]
def vf94b0 : VC := .seq (.seq (.rg [V 6 (.mv (.t 5)),
V 7 (.mv (.t 0)),
V 8 (.len (.t 7)),
V 9 (.bin .lt (.t 6) (.t 8))]) (.cond (.t 9) (.skip) (.exit 0))) (.seq (.block 1 (.seq (.rg [V 12 (.mv (.t 0)),
V 13 (.mv (.t 5)),
V 14 (.idx 6 (.t 12) (.t 13)),
V 15 (.fad 0 (.t 14)),
V 16 (.ld none (.t 15)),
V 17 (.mv (.t 1)),
V 18 (.call 125 [(.t 16),(.t 17)]),
V 1 (.mv (.t 18))]) (.seq (.rg [V 19 (.mv (.t 0)),
V 20 (.mv (.t 5)),
V 21 (.idx 6 (.t 19) (.t 20)),
V 22 (.fad 1 (.t 21)),
V 23 (.ld none (.t 22)),
V 24 (.mv (.t 1)),
V 25 (.call 126 [(.t 23),(.t 24)]),
V 1 (.mv (.t 25))]) (.seq (.rg [V 26 (.mv (.t 0)),
V 27 (.mv (.t 5)),
V 28 (.mv (.t 1)),
V 29 (.idx 6 (.t 26) (.t 27)),
V 30 (.fad 2 (.t 29)),
V 31 (.fad 0 (.t 30)),
Vn (.st 1 (.t 31) (.t 28))]) (.seq (.rg [V 32 (.mv (.t 1)),
V 33 (.bin .add (.t 32) (.k (.c (.i 1)))),
V 1 (.mv (.t 33))]) (.seq (.rg [V 34 (.mv (.t 0)),
V 35 (.mv (.t 5)),
V 36 (.mv (.t 1)),
V 37 (.idx 6 (.t 34) (.t 35)),
V 38 (.fad 2 (.t 37)),
V 39 (.fad 1 (.t 38)),
Vn (.st 1 (.t 39) (.t 36))]) (.seq (.rg [V 40 (.mv (.t 1)),
V 41 (.bin .add (.t 40) (.k (.c (.i 1)))),
V 1 (.mv (.t 41))]) (.seq (.rg [V 42 (.mv (.t 0)),
V 43 (.mv (.t 5)),
V 44 (.mv (.t 1)),
V 45 (.idx 6 (.t 42) (.t 43)),
V 46 (.fad 2 (.t 45)),
V 47 (.fad 2 (.t 46)),
Vn (.st 1 (.t 47) (.t 44))]) (.seq (.rg [V 48 (.mv (.t 1)),
V 49 (.bin .add (.t 48) (.k (.c (.i 1)))),
V 1 (.mv (.t 49))]) (.seq (.rg [V 50 (.mv (.t 0)),
V 51 (.mv (.t 5)),
V 52 (.mv (.t 1)),
V 53 (.idx 6 (.t 50) (.t 51)),
V 54 (.fad 2 (.t 53)),
V 55 (.fad 3 (.t 54)),
Vn (.st 1 (.t 55) (.t 52))]) (.rg [V 56 (.mv (.t 1)),
V 57 (.bin .add (.t 56) (.k (.c (.i 1)))),
V 1 (.mv (.t 57))]))))))))))) (.rg [V 10 (.mv (.t 5)),
V 11 (.bin .add (.t 10) (.k (.c (.i 1)))),
V 5 (.mv (.t 11))]))
def vf94c : VC := .seq (.rg [V 4 (.mv (.k (.c (.i 0))))]) (.seq (.seq (.rg [V 5 (.mv (.k (.c (.i 0))))]) (.block 0 (.loop vf94b0))) (.seq (.rg [V 58 (.mv (.t 1)),
V 4 (.mv (.t 58))]) (.ret)))
def vf94 : VF := ⟨vf94c,vf94v,[(4,none)]⟩
theorem ok94 : chkF Try.prog Try.f94 vf94 = true := by kernel_rfl
theorem dr94 : drawsB vf94.body = true := by kernel_rfl
/-- loop.example/g00192/spec.l2DrawRight -/
def vf95v : List Nat := [0,2,3,4,5,6,7]
def vf95c : VC := .seq (.rg [V 2 (.alloc [.ns,.i 0])]) (.seq (.rg [V 8 (.mv (.t 0)),
V 9 (.build [.np,.ns,.i 0] [(0,1,(.t 8))]),
V 10 (.box (.t 9)),
V 3 (.mv (.t 10))]) (.seq (.rg [V 11 (.mv (.t 3)),
V 12 (.call 127 [(.t 11)]),
V 4 (.mv (.t 12))]) (.seq (.rg [V 13 (.mv (.t 3)),
V 14 (.call 128 [(.t 13)]),
V 5 (.mv (.t 14))]) (.seq (.rg [V 15 (.mv (.t 3)),
V 16 (.mv (.t 4)),
V 17 (.mv (.t 5)),
V 18 (.build [.i 0,.i 0,.i 0,.i 0,.i 0] [(0,1,(.k (.c (.i 24)))),(1,1,(.t 17))]),
V 19 (.call 129 [(.t 15),(.t 16),(.t 18)])]) (.seq (.rg [V 21 (.mv (.t 3)),
V 22 (.mv (.t 4)),
V 23 (.mv (.t 5)),
V 24 (.bsl 1 [.i 0] 1 [(0,1,(.t 23))]),
V 25 (.call 130 [(.t 21),(.t 22),(.t 24),(.k (.c (.i 2)))]),
V 20 (.mv (.t 25)),
V 26 (.ext 0 (.t 20)),
V 27 (.ext 1 (.t 20)),
V 6 (.mv (.t 26)),
V 7 (.mv (.t 27))]) (.seq (.rd [V 28 (.mv (.t 3)),
Vd [0] (V 29 (.nilc (.t 28))),
Vd [1] (V 30 (.fad 1 (.t 29))),
Vd [2] (V 31 (.fad 0 (.t 30))),
Vc [3] [] true (V 32 (.ld none (.t 31))),
V 33 (.mv (.t 6)),
V 34 (.mv (.t 3)),
V 35 (.mv (.t 7)),
Vc [6,7] [4] false (V 36 (.call 131 [(.t 34),(.t 35)])),
Vd [8] (V 37 (.build [.i 0,.i 0,.i 0,.i 0] [(0,1,(.k (.c (.i 3)))),(1,1,(.t 36))])),
Vd [4,5,9] (V 38 (.idx 6 (.t 32) (.t 33))),
Vd [10] (V 39 (.fad 2 (.t 38))),
Vd [11] (Vn (.st 4 (.t 39) (.t 37)))]) (.seq (.rg [V 40 (.mv (.t 3)),
V 41 (.nilc (.t 40)),
V 42 (.fad 1 (.t 41)),
V 43 (.ld (some 2) (.t 42)),
Vn (.st 2 (.t 2) (.t 43))]) (.ret))))))))
def vf95 : VF := ⟨vf95c,vf95v,[(2,(some (some 2)))]⟩
theorem ok95 : chkF Try.prog Try.f95 vf95 = true := by kernel_rfl
theorem dr95 : drawsB vf95.body = true := by kernel_rfl
/-- loop.example/g00192/spec.l1PickInt -/
def vf96v : List Nat := [0,1,4]
def vf96c : VC := .seq (.rg [V 4 (.mv (.k (.c (.i 0))))]) (.seq (.rg [V 5 (.mv (.t 1)),
V 6 (.mv (.t 0)),
V 7 (.mv (.t 1)),
V 8 (.len (.t 7)),
V 9 (.call 67 [(.t 6),(.t 8)]),
V 10 (.idx 1 (.t 5) (.t 9)),
V 11 (.ld none (.t 10)),
V 4 (.mv (.t 11))]) (.ret))
def vf96 : VF := ⟨vf96c,vf96v,[(4,none)]⟩
theorem ok96 : chkF Try.prog Try.f96 vf96 = true := by kernel_rfl
theorem dr96 : drawsB vf96.body = true := by kernel_rfl
/-- loop.example/g00192/spec.l1Max -/
def vf97v : List Nat := [0,1,4,7]
def vf97c : VC := .seq (.rg [V 4 (.mv (.k (.c (.i 0))))]) (.seq (.seq (.rg [V 5 (.mv (.t 0)),
V 6 (.mv (.t 1)),
V 7 (.bin .gt (.t 5) (.t 6))]) (.cond (.t 7) (.seq (.rg [V 8 (.mv (.t 0)),
V 4 (.mv (.t 8))]) (.ret)) (.skip))) (.seq (.rg [V 9 (.mv (.t 1)),
V 4 (.mv (.t 9))]) (.ret)))
def vf97 : VF := ⟨vf97c,vf97v,[(4,none)]⟩
theorem ok97 : chkF Try.prog Try.f97 vf97 = true := by kernel_rfl
theorem dr97 : drawsB vf97.body = true := by kernel_rfl
/-- slices.Containsintint -/
def vf98v : List Nat := [0,1,4]
def vf98c : VC := .seq (.rg [V 4 (.mv (.k (.c (.b false))))]) (.seq (.rg [V 5 (.mv (.t 0)),
V 6 (.mv (.t 1)),
V 7 (.call 132 [(.t 5),(.t 6)]),
V 8 (.bin .ge (.t 7) (.k (.c (.i 0)))),
V 4 (.mv (.t 8))]) (.ret))
def vf98 : VF := ⟨vf98c,vf98v,[(4,none)]⟩
theorem ok98 : chkF Try.prog Try.f98 vf98 = true := by kernel_rfl
theorem dr98 : drawsB vf98.body = true := by kernel_rfl
/-- loop.example/g00192/spec.l2Value -/
def vf99v : List Nat := [0,1,4]
def vf99c : VC := .seq (.rg [V 4 (.mv (.k (.c (.b false))))]) (.seq (.rg [V 5 (.mv (.t 0)),
V 6 (.bin .ge (.t 5) (.k (.c (.i 0)))),
V 7 (.mv (.t 6)),
Vg 8 7 true (.mv (.t 0)),
Vg 9 7 true (.mv (.t 1)),
Vg 10 7 true (.bin .lt (.t 8) (.t 9)),
V 11 (.pick (.t 7) (.t 10) (.k (.c (.b false)))),
V 4 (.mv (.t 11))]) (.ret))
def vf99 : VF := ⟨vf99c,vf99v,[(4,none)]⟩
theorem ok99 : chkF Try.prog Try.f99 vf99 = true := by kernel_rfl
theorem dr99 : drawsB vf99.body = true := by kernel_rfl
/-- loop.example/g00192/spec.WordOk -/
def vf100v : List Nat := [0,2]
def vf100c : VC := .seq (.rg [V 2 (.mv (.k (.c (.b false))))]) (.seq (.rg [V 3 (.mv (.t 0)),
V 4 (.call 57 [(.t 3),(.k (.c (.i 1))),(.k (.c (.i 10)))]),
V 2 (.mv (.t 4))]) (.ret))
def vf100 : VF := ⟨vf100c,vf100v,[(2,none)]⟩
theorem ok100 : chkF Try.prog Try.f100 vf100 = true := by kernel_rfl
theorem dr100 : drawsB vf100.body = true := by kernel_rfl
/-- loop.example/g00192/impl.walk -/
def vf101v : List Nat := [0,1,2,3,4,8,10,16,17,18,19,26]
def vf101b0 : VC := .seq (.rg [V 19 (.bin .lt (.t 18) (.t 17))]) (.seq (.cond (.t 19) (.skip) (.exit 0)) (.seq (.block 1 (.seq (.rg [V 20 (.idx 1 (.t 16) (.t 18)),
V 21 (.ld none (.t 20)),
V 10 (.mv (.t 21))]) (.seq (.rg [V 22 (.mv (.t 2)),
V 23 (.mv (.t 10)),
V 24 (.idx 1 (.t 22) (.t 23)),
V 25 (.ld none (.t 24)),
V 26 (.not (.t 25))]) (.cond (.t 26) (.rg [V 27 (.ld (some 2) (.t 4)),
V 28 (.mv (.t 10)),
V 29 (.mv (.t 2)),
V 30 (.mv (.t 3)),
V 31 (.call 101 [(.t 27),(.t 28),(.t 29),(.t 30)]),
V 3 (.mv (.t 31))]) (.skip))))) (.rg [V 32 (.bin .add (.t 18) (.k (.c (.i 1)))),
V 18 (.mv (.t 32))])))
def vf101c : VC := .seq (.rg [V 4 (.box (.t 0)),
V 8 (.mv (.k (.c .ns)))]) (.seq (.rg [V 11 (.mv (.t 2)),
V 12 (.mv (.t 1)),
V 13 (.idx 1 (.t 11) (.t 12)),
Vn (.st 1 (.t 13) (.k (.c (.b true))))]) (.seq (.seq (.rg [V 14 (.ld (some 2) (.t 4)),
V 15 (.mv (.t 1)),
V 16 (.call 53 [(.t 14),(.t 15)]),
V 17 (.len (.t 16)),
V 18 (.mv (.k (.c (.i 0))))]) (.block 0 (.loop vf101b0))) (.seq (.rg [V 33 (.mv (.t 3)),
V 34 (.mv (.t 1)),
V 35 (.bsl 1 [.i 0] 1 [(0,1,(.t 34))]),
V 36 (.app 1 (.t 33) (.t 35)),
V 8 (.mv (.t 36))]) (.ret))))
def vf101 : VF := ⟨vf101c,vf101v,[(8,none)]⟩
theorem ok101 : chkF Try.prog Try.f101 vf101 = true := by kernel_rfl
theorem dr101 : drawsB vf101.body = true := by kernel_rfl
/-- slices.Reverseintint -/
def vf102v : List Nat := [0,2,3,9]
def vf102b0 : VC := .seq (.seq (.rg [V 7 (.mv (.t 2)),
V 8 (.mv (.t 3)),
V 9 (.bin .lt (.t 7) (.t 8))]) (.cond (.t 9) (.skip) (.exit 0))) (.seq (.block 1 (.rd [V 14 (.mv (.t 0)),
V 15 (.mv (.t 2)),
V 16 (.mv (.t 0)),
V 17 (.mv (.t 3)),
V 18 (.mv (.t 0)),
V 19 (.mv (.t 3)),
Vd [4,5] (V 20 (.idx 1 (.t 18) (.t 19))),
Vd [6] (V 21 (.ld none (.t 20))),
V 22 (.mv (.t 0)),
V 23 (.mv (.t 2)),
Vd [8,9] (V 24 (.idx 1 (.t 22) (.t 23))),
Vd [10] (V 25 (.ld none (.t 24))),
Vd [0,1,7,11] (V 26 (.idx 1 (.t 14) (.t 15))),
Vd [12] (Vn (.st 1 (.t 26) (.t 21))),
Vd [2,3,13] (V 27 (.idx 1 (.t 16) (.t 17))),
Vd [14] (Vn (.st 1 (.t 27) (.t 25)))])) (.rg [V 10 (.mv (.t 2)),
V 11 (.bin .add (.t 10) (.k (.c (.i 1)))),
V 12 (.mv (.t 3)),
V 13 (.bin .sub (.t 12) (.k (.c (.i 1)))),
V 2 (.mv (.t 11)),
V 3 (.mv (.t 13))]))
def vf102c : VC := .seq (.rg [V 4 (.mv (.t 0)),
V 5 (.len (.t 4)),
V 6 (.bin .sub (.t 5) (.k (.c (.i 1)))),
V 2 (.mv (.k (.c (.i 0)))),
V 3 (.mv (.t 6))]) (.block 0 (.loop vf102b0))
def vf102 : VF := ⟨vf102c,vf102v,[]⟩
theorem ok102 : chkF Try.prog Try.f102 vf102 = true := by kernel_rfl
theorem dr102 : drawsB vf102.body = true := by kernel_rfl
/-- loop.example/g00192/spec.l3Left -/
def vf103v : List Nat := [0,1,2,3,4,8,9,10,20,30]
def vf103b0 : VC := .seq (.seq (.rg [V 17 (.mv (.t 10)),
V 18 (.mv (.t 9)),
V 19 (.len (.t 18)),
V 20 (.bin .lt (.t 17) (.t 19))]) (.cond (.t 20) (.skip) (.exit 0))) (.seq (.block 1 (.seq (.rg [V 23 (.mv (.t 2)),
V 24 (.mv (.t 9)),
V 25 (.mv (.t 10)),
V 26 (.idx 1 (.t 24) (.t 25)),
V 27 (.ld none (.t 26)),
V 28 (.idx 1 (.t 23) (.t 27)),
V 29 (.ld none (.t 28)),
V 30 (.not (.t 29))]) (.cond (.t 30) (.rd [V 31 (.ld (some 2) (.t 4)),
V 32 (.mv (.t 9)),
V 33 (.mv (.t 10)),
Vd [1,2] (V 34 (.idx 1 (.t 32) (.t 33))),
Vd [3] (V 35 (.ld none (.t 34))),
V 36 (.mv (.t 2)),
V 37 (.mv (.t 3)),
Vd [0,4,5,6] (V 38 (.call 103 [(.t 31),(.t 35),(.t 36),(.t 37)])),
Vd [7] (V 3 (.mv (.t 38)))]) (.skip)))) (.rg [V 21 (.mv (.t 10)),
V 22 (.bin .add (.t 21) (.k (.c (.i 1)))),
V 10 (.mv (.t 22))]))
def vf103c : VC := .seq (.rg [V 4 (.box (.t 0)),
V 8 (.mv (.k (.c .ns)))]) (.seq (.rg [V 11 (.mv (.t 2)),
V 12 (.mv (.t 1)),
V 13 (.idx 1 (.t 11) (.t 12)),
Vn (.st 1 (.t 13) (.k (.c (.b true))))]) (.seq (.rg [V 14 (.ld (some 2) (.t 4)),
V 15 (.mv (.t 1)),
V 16 (.call 63 [(.t 14),(.t 15)]),
V 9 (.mv (.t 16))]) (.seq (.seq (.rg [V 10 (.mv (.k (.c (.i 0))))]) (.block 0 (.loop vf103b0))) (.seq (.rg [V 39 (.mv (.t 3)),
V 40 (.mv (.t 1)),
V 41 (.bsl 1 [.i 0] 1 [(0,1,(.t 40))]),
V 42 (.app 1 (.t 39) (.t 41)),
V 8 (.mv (.t 42))]) (.ret)))))
def vf103 : VF := ⟨vf103c,vf103v,[(8,none)]⟩
theorem ok103 : chkF Try.prog Try.f103 vf103 = true := by kernel_rfl
theorem dr103 : drawsB vf103.body = true := by kernel_rfl
/-- loop.example/g00192/spec.l1Byte -/
def vf104v : List Nat := [0,2,3,34]
def vf104c : VC := .seq (.rg [V 2 (.mv (.k (.c (.i 0))))]) (.seq (.rg [V 4 (.mv (.t 0)),
V 5 (.mv (.t 0)),
V 6 (.nilc (.t 5)),
V 7 (.fad 2 (.t 6)),
V 8 (.ld none (.t 7)),
V 9 (.bin .mul (.t 8) (.k (.c (.i 6364136223846793005)))),
V 10 (.bin .add (.t 9) (.k (.c (.i 1442695040888963407)))),
V 11 (.nilc (.t 4)),
V 12 (.fad 2 (.t 11)),
Vn (.st 1 (.t 12) (.t 10))]) (.seq (.rd [V 13 (.mv (.t 0)),
Vd [0] (V 14 (.nilc (.t 13))),
Vd [1] (V 15 (.fad 2 (.t 14))),
Vd [2] (V 16 (.ld none (.t 15))),
Vd [3] (V 17 (.shk false 33 (.t 16))),
V 18 (.mv (.t 0)),
Vd [5] (V 19 (.nilc (.t 18))),
Vd [6] (V 20 (.fad 2 (.t 19))),
Vd [7] (V 21 (.ld none (.t 20))),
Vd [8] (V 22 (.shk false 45 (.t 21))),
Vd [4,9] (V 23 (.bin .xor (.t 17) (.t 22))),
Vd [10] (V 24 (.bin .and (.t 23) (.k (.c (.i 255))))),
Vd [11] (V 3 (.mv (.t 24)))]) (.seq (.seq (.rd [V 25 (.mv (.t 0)),
Vd [0] (V 26 (.nilc (.t 25))),
Vd [1] (V 27 (.fad 1 (.t 26))),
Vd [2] (V 28 (.ld none (.t 27))),
V 29 (.mv (.t 0)),
Vd [4] (V 30 (.nilc (.t 29))),
Vd [5] (V 31 (.fad 0 (.t 30))),
Vd [6] (V 32 (.ld none (.t 31))),
Vd [7] (V 33 (.len (.t 32))),
Vd [3,8] (V 34 (.bin .lt (.t 28) (.t 33)))]) (.cond (.t 34) (.seq (.rd [V 35 (.mv (.t 3)),
V 36 (.mv (.t 0)),
Vd [1] (V 37 (.nilc (.t 36))),
Vd [2] (V 38 (.fad 0 (.t 37))),
Vd [3] (V 39 (.ld none (.t 38))),
V 40 (.mv (.t 0)),
Vd [5] (V 41 (.nilc (.t 40))),
Vd [6] (V 42 (.fad 1 (.t 41))),
Vd [7] (V 43 (.ld none (.t 42))),
Vd [4,8] (V 44 (.idx 1 (.t 39) (.t 43))),
Vd [9] (V 45 (.ld none (.t 44))),
Vd [10] (V 46 (.b2i (.t 45))),
Vd [0,11] (V 47 (.bin .add (.t 35) (.t 46))),
Vd [12] (V 48 (.bin .and (.t 47) (.k (.c (.i 255))))),
Vd [13] (V 3 (.mv (.t 48)))]) (.rg [V 49 (.mv (.t 0)),
V 50 (.mv (.t 0)),
V 51 (.nilc (.t 50)),
V 52 (.fad 1 (.t 51)),
V 53 (.ld none (.t 52)),
V 54 (.bin .add (.t 53) (.k (.c (.i 1)))),
V 55 (.nilc (.t 49)),
V 56 (.fad 1 (.t 55)),
Vn (.st 1 (.t 56) (.t 54))])) (.skip))) (.seq (.rg [V 57 (.mv (.t 3)),
V 2 (.mv (.t 57))]) (.ret)))))
def vf104 : VF := ⟨vf104c,vf104v,[(2,none)]⟩
theorem ok104 : chkF Try.prog Try.f104 vf104 = true := by kernel_rfl
theorem dr104 : drawsB vf104.body = true := by kernel_rfl
/-- loop.example/g00192/impl.reachedWithout -/
def vf105v : List Nat := [0,1,2,4,5,11]
def vf105c : VC := .seq (.rg [V 2 (.box (.t 0)),
V 4 (.mv (.k (.c .ns)))]) (.seq (.rg [V 6 (.fad 0 (.t 2)),
V 7 (.ld none (.t 6)),
V 8 (.len (.t 7)),
V 9 (.mks 1 [.b false] (.t 8)),
V 5 (.mv (.t 9))]) (.seq (.seq (.rg [V 10 (.mv (.t 1)),
V 11 (.bin .eq (.t 10) (.k (.c (.i 0))))]) (.cond (.t 11) (.seq (.rg [V 12 (.mv (.t 5)),
V 4 (.mv (.t 12))]) (.ret)) (.skip))) (.seq (.rg [V 13 (.mv (.t 5)),
V 14 (.mv (.t 1)),
V 15 (.idx 1 (.t 13) (.t 14)),
Vn (.st 1 (.t 15) (.k (.c (.b true))))]) (.seq (.rg [V 16 (.ld (some 2) (.t 2)),
V 17 (.mv (.t 5)),
V 18 (.call 101 [(.t 16),(.k (.c (.i 0))),(.t 17),(.k (.c .ns))])]) (.seq (.rg [V 19 (.mv (.t 5)),
V 20 (.mv (.t 1)),
V 21 (.idx 1 (.t 19) (.t 20)),
Vn (.st 1 (.t 21) (.k (.c (.b false))))]) (.seq (.rg [V 22 (.mv (.t 5)),
V 4 (.mv (.t 22))]) (.ret)))))))
def vf105 : VF := ⟨vf105c,vf105v,[(4,none)]⟩
theorem ok105 : chkF Try.prog Try.f105 vf105 = true := by kernel_rfl
theorem dr105 : drawsB vf105.body = true := by kernel_rfl
/-- loop.example/g00192/spec.l4Without -/
def vf106v : List Nat := [0,1,2,4,5,11]
def vf106c : VC := .seq (.rg [V 2 (.box (.t 0)),
V 4 (.mv (.k (.c .ns)))]) (.seq (.rg [V 6 (.fad 0 (.t 2)),
V 7 (.ld none (.t 6)),
V 8 (.len (.t 7)),
V 9 (.mks 1 [.b false] (.t 8)),
V 5 (.mv (.t 9))]) (.seq (.seq (.rg [V 10 (.mv (.t 1)),
V 11 (.bin .eq (.t 10) (.k (.c (.i 0))))]) (.cond (.t 11) (.seq (.rg [V 12 (.mv (.t 5)),
V 4 (.mv (.t 12))]) (.ret)) (.skip))) (.seq (.rg [V 13 (.mv (.t 5)),
V 14 (.mv (.t 1)),
V 15 (.idx 1 (.t 13) (.t 14)),
Vn (.st 1 (.t 15) (.k (.c (.b true))))]) (.seq (.rg [V 16 (.ld (some 2) (.t 2)),
V 17 (.mv (.t 5)),
V 18 (.bsl 1 [.i 0] 0 []),
V 19 (.call 103 [(.t 16),(.k (.c (.i 0))),(.t 17),(.t 18)])]) (.seq (.rg [V 20 (.mv (.t 5)),
V 21 (.mv (.t 1)),
V 22 (.idx 1 (.t 20) (.t 21)),
Vn (.st 1 (.t 22) (.k (.c (.b false))))]) (.seq (.rg [V 23 (.mv (.t 5)),
V 4 (.mv (.t 23))]) (.ret)))))))
def vf106 : VF := ⟨vf106c,vf106v,[(4,none)]⟩
theorem ok106 : chkF Try.prog Try.f106 vf106 = true := by kernel_rfl
theorem dr106 : drawsB vf106.body = true := by kernel_rfl
/-- slices.IndexFuncintint -/
def vf107v : List Nat := [0,1,4,5,7,8,9,16]
def vf107b0 : VC := .seq (.rg [V 9 (.bin .lt (.t 8) (.t 7))]) (.seq (.cond (.t 9) (.skip) (.exit 0)) (.seq (.block 1 (.seq (.rg [V 10 (.mv (.t 8)),
V 5 (.mv (.t 10))]) (.seq (.rg [V 11 (.mv (.t 1)),
V 12 (.mv (.t 0)),
V 13 (.mv (.t 5)),
V 14 (.idx 1 (.t 12) (.t 13)),
V 15 (.ld none (.t 14)),
V 16 (.clv (.t 11) [(.t 15)])]) (.cond (.t 16) (.seq (.rg [V 17 (.mv (.t 5)),
V 4 (.mv (.t 17))]) (.ret)) (.skip))))) (.rg [V 18 (.bin .add (.t 8) (.k (.c (.i 1)))),
V 8 (.mv (.t 18))])))
def vf107c : VC := .seq (.rg [V 4 (.mv (.k (.c (.i 0))))]) (.seq (.seq (.rg [V 6 (.mv (.t 0)),
V 7 (.len (.t 6)),
V 8 (.mv (.k (.c (.i 0))))]) (.block 0 (.loop vf107b0))) (.seq (.rg [V 4 (.mv (.k (.c (.i (-1)))))]) (.ret)))
def vf107 : VF := ⟨vf107c,vf107v,[(4,none)]⟩
theorem ok107 : chkF Try.prog Try.f107 vf107 = true := by kernel_rfl
theorem dr107 : drawsB vf107.body = true := by kernel_rfl
/-- loop.example/g00192/spec.l6DrawReads -/
def vf108v : List Nat := [0,2,3,4,9]
def vf108b0 : VC := .seq (.seq (.rg [V 6 (.mv (.t 4)),
V 7 (.mv (.t 0)),
V 8 (.call 67 [(.t 7),(.k (.c (.i 6)))]),
V 9 (.bin .lt (.t 6) (.t 8))]) (.cond (.t 9) (.skip) (.exit 0))) (.seq (.block 1 (.rg [V 12 (.mv (.t 3)),
V 13 (.mv (.t 0)),
V 14 (.call 133 [(.t 13)]),
V 15 (.bsl 1 [.i 0] 1 [(0,1,(.t 14))]),
V 16 (.app 1 (.t 12) (.t 15)),
V 3 (.mv (.t 16))])) (.rg [V 10 (.mv (.t 4)),
V 11 (.bin .add (.t 10) (.k (.c (.i 1)))),
V 4 (.mv (.t 11))]))
def vf108c : VC := .seq (.rg [V 2 (.mv (.k (.c .ns)))]) (.seq (.rg [V 5 (.bsl 1 [.i 0] 0 []),
V 3 (.mv (.t 5))]) (.seq (.seq (.rg [V 4 (.mv (.k (.c (.i 0))))]) (.block 0 (.loop vf108b0))) (.seq (.rg [V 17 (.mv (.t 3)),
V 2 (.mv (.t 17))]) (.ret))))
def vf108 : VF := ⟨vf108c,vf108v,[(2,none)]⟩
theorem ok108 : chkF Try.prog Try.f108 vf108 = true := by kernel_rfl
theorem dr108 : drawsB vf108.body = true := by kernel_rfl
/-- loop.example/g00192/spec.l6DrawFuel -/
def vf109v : List Nat := [0,2,4,5,9]
def vf109c : VC := .seq (.rg [V 2 (.mv (.k (.c (.i 0))))]) (.seq (.seq (.rg [V 3 (.mv (.t 0)),
V 4 (.call 67 [(.t 3),(.k (.c (.i 6)))])]) (.block 0 (.seq (.rg [V 6 (.bin .eq (.t 4) (.k (.c (.i 0)))),
V 5 (.mv (.t 6))]) (.cond (.t 5) (.seq (.rg [V 7 (.mv (.t 0)),
V 8 (.call 67 [(.t 7),(.k (.c (.i 40)))]),
V 2 (.mv (.t 8))]) (.ret)) (.seq (.rg [V 10 (.bin .eq (.t 4) (.k (.c (.i 1)))),
V 9 (.mv (.t 10))]) (.cond (.t 9) (.seq (.rg [V 11 (.mv (.t 0)),
V 12 (.bsl 1 [.i 0] 4 [(0,1,(.k (.c (.i (-1))))),(1,1,(.k (.c (.i 0)))),(2,1,(.k (.c (.i 5000)))),(3,1,(.k (.c (.i 5001))))]),
V 13 (.call 96 [(.t 11),(.t 12)]),
V 2 (.mv (.t 13))]) (.ret)) (.skip))))))) (.seq (.rg [V 2 (.mv (.k (.c (.i 2000))))]) (.ret)))
def vf109 : VF := ⟨vf109c,vf109v,[(2,none)]⟩
theorem ok109 : chkF Try.prog Try.f109 vf109 = true := by kernel_rfl
theorem dr109 : drawsB vf109.body = true := by kernel_rfl
/-- (*loop.example/g00192/impl.runner).run -/
def vf110v : List Nat := [0,2,3,4,6,7,8,21,22,23,24,31,36,49,64]
def vf110b0 : VC := .seq (.rg [V 24 (.bin .lt (.t 23) (.t 22))]) (.seq (.cond (.t 24) (.skip) (.exit 2)) (.seq (.block 3 (.seq (.rg [V 25 (.idx 5 (.t 21) (.t 23)),
V 26 (.ld (some 5) (.t 25)),
V 6 (.alloc [.i 0,.i 0,.i 0,.i 0,.i 0]),
Vn (.st 5 (.t 6) (.t 26))]) (.seq (.rg [V 27 (.mv (.t 0)),
V 28 (.ld (some 5) (.t 6)),
V 29 (.call 135 [(.t 27),(.t 28)]),
V 7 (.mv (.t 29))]) (.seq (.rg [V 30 (.mv (.t 7)),
V 31 (.bin .ne (.t 30) (.k (.c (.i 0))))]) (.cond (.t 31) (.seq (.rg [V 32 (.mv (.t 7)),
V 2 (.mv (.t 32))]) (.ret)) (.skip)))))) (.rg [V 33 (.bin .add (.t 23) (.k (.c (.i 1)))),
V 23 (.mv (.t 33))])))
def vf110b1 : VC := .block 1 (.seq (.rg [V 9 (.mv (.t 0)),
V 10 (.mv (.t 3)),
V 11 (.mv (.t 4)),
V 12 (.call 134 [(.t 9),(.t 10),(.t 11)])]) (.seq (.seq (.rg [V 13 (.mv (.t 0)),
V 14 (.nilc (.t 13)),
V 15 (.fad 0 (.t 14)),
V 16 (.fad 0 (.t 15)),
V 17 (.ld none (.t 16)),
V 18 (.mv (.t 3)),
V 19 (.idx 6 (.t 17) (.t 18)),
V 20 (.fad 1 (.t 19)),
V 21 (.ld none (.t 20)),
V 22 (.len (.t 21)),
V 23 (.mv (.k (.c (.i 0))))]) (.block 2 (.loop vf110b0))) (.seq (.seq (.rg [V 34 (.mv (.t 0)),
V 35 (.call 136 [(.t 34)]),
V 36 (.not (.t 35))]) (.cond (.t 36) (.seq (.rg [V 2 (.mv (.k (.c (.i 1))))]) (.ret)) (.skip))) (.seq (.rg [V 37 (.mv (.t 0)),
V 38 (.nilc (.t 37)),
V 39 (.fad 0 (.t 38)),
V 40 (.fad 0 (.t 39)),
V 41 (.ld none (.t 40)),
V 42 (.mv (.t 3)),
V 43 (.idx 6 (.t 41) (.t 42)),
V 44 (.fad 2 (.t 43)),
V 45 (.ld (some 4) (.t 44)),
V 8 (.alloc [.i 0,.i 0,.i 0,.i 0]),
Vn (.st 4 (.t 8) (.t 45))]) (.seq (.rg [V 46 (.mv (.t 3)),
V 4 (.mv (.t 46))]) (.block 4 (.seq (.rg [V 50 (.fad 0 (.t 8)),
V 51 (.ld none (.t 50)),
V 52 (.bin .eq (.t 51) (.k (.c (.i 3)))),
V 49 (.mv (.t 52))]) (.cond (.t 49) (.seq (.rd [V 53 (.mv (.t 0)),
V 54 (.mv (.t 0)),
Vd [1] (V 55 (.nilc (.t 54))),
Vd [2] (V 56 (.fad 2 (.t 55))),
Vd [3] (V 57 (.ld none (.t 56))),
V 58 (.fad 1 (.t 8)),
Vd [5] (V 59 (.ld none (.t 58))),
Vd [4,6] (V 60 (.idx 1 (.t 57) (.t 59))),
Vd [7] (V 61 (.ld none (.t 60))),
Vd [0,8] (V 62 (.nilc (.t 53))),
Vd [9] (V 63 (.fad 8 (.t 62))),
Vd [10] (Vn (.st 1 (.t 63) (.t 61)))]) (.seq (.rg [V 2 (.mv (.k (.c (.i 0))))]) (.ret))) (.seq (.rd [V 65 (.fad 0 (.t 8)),
Vd [0] (V 66 (.ld none (.t 65))),
Vd [1] (V 67 (.bin .eq (.t 66) (.k (.c (.i 2))))),
Vd [2] (V 68 (.mv (.t 67))),
Vd [3] (Vg 69 68 true (.mv (.t 0))),
Vd [4] (Vg 70 68 true (.nilc (.t 69))),
Vd [5] (Vg 71 68 true (.fad 2 (.t 70))),
Vd [6] (Vg 72 68 true (.ld none (.t 71))),
Vd [3] (Vg 73 68 true (.fad 1 (.t 8))),
Vd [8] (Vg 74 68 true (.ld none (.t 73))),
Vd [7,9] (Vg 75 68 true (.idx 1 (.t 72) (.t 74))),
Vd [10] (Vg 76 68 true (.ld none (.t 75))),
Vd [11] (Vg 77 68 true (.bin .eq (.t 76) (.k (.c (.i 0))))),
Vd [12] (V 78 (.pick (.t 68) (.t 77) (.k (.c (.b false))))),
Vd [13] (V 64 (.mv (.t 78)))]) (.cond (.t 64) (.rg [V 79 (.fad 3 (.t 8)),
V 80 (.ld none (.t 79)),
V 3 (.mv (.t 80))]) (.rg [V 47 (.fad 2 (.t 8)),
V 48 (.ld none (.t 47)),
V 3 (.mv (.t 48))])))))))))))
def vf110c : VC := .seq (.rg [V 2 (.mv (.k (.c (.i 0))))]) (.seq (.rg [V 3 (.mv (.k (.c (.i 0)))),
V 4 (.mv (.k (.c (.i (-1)))))]) (.block 0 (.loop vf110b1)))
def vf110 : VF := ⟨vf110c,vf110v,[(2,none)]⟩
theorem ok110 : chkF Try.prog Try.f110 vf110 = true := by kernel_rfl
theorem dr110 : drawsB vf110.body = true := by kernel_rfl
/-- loop.example/g00192/spec.l1Min -/
def vf111v : List Nat := [0,1,4,7]
def vf111c : VC := .seq (.rg [V 4 (.mv (.k (.c (.i 0))))]) (.seq (.seq (.rg [V 5 (.mv (.t 0)),
V 6 (.mv (.t 1)),
V 7 (.bin .lt (.t 5) (.t 6))]) (.cond (.t 7) (.seq (.rg [V 8 (.mv (.t 0)),
V 4 (.mv (.t 8))]) (.ret)) (.skip))) (.seq (.rg [V 9 (.mv (.t 1)),
V 4 (.mv (.t 9))]) (.ret)))
def vf111 : VF := ⟨vf111c,vf111v,[(4,none)]⟩
theorem ok111 : chkF Try.prog Try.f111 vf111 = true := by kernel_rfl
theorem dr111 : drawsB vf111.body = true := by kernel_rfl
/-- loop.example/g00192/spec.l6Phis -/
def vf112v : List Nat := [0,1,2,4,6,7,8,19,30,44]
def vf112b0 : VC := .seq (.seq (.rg [V 22 (.mv (.t 8)),
V 23 (.fad 0 (.t 4)),
V 24 (.ld none (.t 23)),
V 25 (.mv (.t 7)),
V 26 (.idx 2 (.t 24) (.t 25)),
V 27 (.fad 1 (.t 26)),
V 28 (.ld none (.t 27)),
V 29 (.len (.t 28)),
V 30 (.bin .lt (.t 22) (.t 29))]) (.cond (.t 30) (.skip) (.exit 2))) (.seq (.block 3 (.seq (.rg [V 33 (.fad 0 (.t 4)),
V 34 (.ld none (.t 33)),
V 35 (.mv (.t 7)),
V 36 (.idx 2 (.t 34) (.t 35)),
V 37 (.fad 1 (.t 36)),
V 38 (.ld none (.t 37)),
V 39 (.mv (.t 8)),
V 40 (.idx 2 (.t 38) (.t 39)),
V 41 (.fad 0 (.t 40)),
V 42 (.ld none (.t 41)),
V 43 (.mv (.t 2)),
V 44 (.bin .eq (.t 42) (.t 43))]) (.cond (.t 44) (.rd [V 45 (.mv (.t 6)),
V 46 (.fad 0 (.t 4)),
Vd [1] (V 47 (.ld none (.t 46))),
V 48 (.mv (.t 7)),
Vd [2,3] (V 49 (.idx 2 (.t 47) (.t 48))),
Vd [4] (V 50 (.fad 0 (.t 49))),
Vd [5] (V 51 (.ld none (.t 50))),
V 52 (.mv (.t 0)),
Vd [7] (V 53 (.nilc (.t 52))),
Vd [8] (V 54 (.fad 0 (.t 53))),
Vd [9] (V 55 (.ld none (.t 54))),
V 56 (.fad 0 (.t 4)),
Vd [11] (V 57 (.ld none (.t 56))),
V 58 (.mv (.t 7)),
Vd [12,13] (V 59 (.idx 2 (.t 57) (.t 58))),
Vd [14] (V 60 (.fad 1 (.t 59))),
Vd [15] (V 61 (.ld none (.t 60))),
V 62 (.mv (.t 8)),
Vd [16,17] (V 63 (.idx 2 (.t 61) (.t 62))),
Vd [18] (V 64 (.fad 1 (.t 63))),
Vd [19] (V 65 (.ld none (.t 64))),
Vd [10,20] (V 66 (.idx 1 (.t 55) (.t 65))),
Vd [21] (V 67 (.ld none (.t 66))),
Vd [0,6,22] (V 68 (.idx 1 (.t 45) (.t 51))),
Vd [23] (Vn (.st 1 (.t 68) (.t 67)))]) (.skip)))) (.rg [V 31 (.mv (.t 8)),
V 32 (.bin .add (.t 31) (.k (.c (.i 1)))),
V 8 (.mv (.t 32))]))
def vf112b1 : VC := .seq (.seq (.rg [V 15 (.mv (.t 7)),
V 16 (.fad 0 (.t 4)),
V 17 (.ld none (.t 16)),
V 18 (.len (.t 17)),
V 19 (.bin .lt (.t 15) (.t 18))]) (.cond (.t 19) (.skip) (.exit 0))) (.seq (.block 1 (.seq (.rg [V 8 (.mv (.k (.c (.i 0))))]) (.block 2 (.loop vf112b0)))) (.rg [V 20 (.mv (.t 7)),
V 21 (.bin .add (.t 20) (.k (.c (.i 1)))),
V 7 (.mv (.t 21))]))
def vf112c : VC := .seq (.rg [V 4 (.box (.t 1))]) (.seq (.rg [V 9 (.bsl 1 [.i 0] 0 []),
V 10 (.mv (.t 0)),
V 11 (.nilc (.t 10)),
V 12 (.fad 0 (.t 11)),
V 13 (.ld none (.t 12)),
V 14 (.app 1 (.t 9) (.t 13)),
V 6 (.mv (.t 14))]) (.seq (.seq (.rg [V 7 (.mv (.k (.c (.i 0))))]) (.block 0 (.loop vf112b1))) (.rg [V 69 (.mv (.t 0)),
V 70 (.mv (.t 6)),
V 71 (.nilc (.t 69)),
V 72 (.fad 0 (.t 71)),
Vn (.st 1 (.t 72) (.t 70))])))
def vf112 : VF := ⟨vf112c,vf112v,[]⟩
theorem ok112 : chkF Try.prog Try.f112 vf112 = true := by kernel_rfl
theorem dr112 : drawsB vf112.body = true := by kernel_rfl
/-- loop.example/g00192/spec.l6Ins -/
def vf113v : List Nat := [0,1,3,4,5,35,48,67,80,102,115,137,158,174]
def vf113c : VC := .seq (.rg [V 3 (.box (.t 1)),
V 4 (.mv (.k (.c (.i 0))))]) (.seq (.block 0 (.seq (.rg [V 6 (.fad 0 (.t 3)),
V 7 (.ld none (.t 6)),
V 8 (.call 100 [(.t 7)]),
V 5 (.mv (.t 8))]) (.cond (.t 5) (.rd [V 9 (.mv (.t 0)),
Vd [0] (V 10 (.nilc (.t 9))),
Vd [1] (V 11 (.fad 0 (.t 10))),
Vc [2] [] true (V 12 (.ld none (.t 11))),
V 13 (.fad 1 (.t 3)),
Vc [4] [] true (V 14 (.ld none (.t 13))),
V 15 (.fad 0 (.t 3)),
Vd [6] (V 16 (.ld none (.t 15))),
V 17 (.mv (.t 0)),
Vd [8] (V 18 (.nilc (.t 17))),
Vd [9] (V 19 (.fad 0 (.t 18))),
Vd [10] (V 20 (.ld none (.t 19))),
V 21 (.fad 2 (.t 3)),
Vd [12] (V 22 (.ld none (.t 21))),
Vd [11,13] (V 23 (.idx 1 (.t 20) (.t 22))),
Vd [14] (V 24 (.ld none (.t 23))),
V 25 (.mv (.t 0)),
Vd [16] (V 26 (.nilc (.t 25))),
Vd [17] (V 27 (.fad 0 (.t 26))),
Vd [18] (V 28 (.ld none (.t 27))),
V 29 (.fad 3 (.t 3)),
Vd [20] (V 30 (.ld none (.t 29))),
Vd [19,21] (V 31 (.idx 1 (.t 28) (.t 30))),
Vd [22] (V 32 (.ld none (.t 31))),
Vc [7,15,23] [3,5] false (V 33 (.call 137 [(.t 16),(.t 24),(.t 32)])),
Vd [3,5,24] (V 34 (.idx 1 (.t 12) (.t 14))),
Vd [25] (Vn (.st 1 (.t 34) (.t 33)))]) (.seq (.rg [V 36 (.fad 0 (.t 3)),
V 37 (.ld none (.t 36)),
V 38 (.bin .eq (.t 37) (.k (.c (.i 20)))),
V 35 (.mv (.t 38))]) (.cond (.t 35) (.rd [V 39 (.mv (.t 0)),
Vd [0] (V 40 (.nilc (.t 39))),
Vd [1] (V 41 (.fad 0 (.t 40))),
Vd [2] (V 42 (.ld none (.t 41))),
V 43 (.fad 1 (.t 3)),
Vd [4] (V 44 (.ld none (.t 43))),
V 45 (.fad 4 (.t 3)),
Vd [6] (V 46 (.ld none (.t 45))),
Vd [3,5,7] (V 47 (.idx 1 (.t 42) (.t 44))),
Vd [8] (Vn (.st 1 (.t 47) (.t 46)))]) (.seq (.rg [V 49 (.fad 0 (.t 3)),
V 50 (.ld none (.t 49)),
V 51 (.bin .eq (.t 50) (.k (.c (.i 25)))),
V 48 (.mv (.t 51))]) (.cond (.t 48) (.rd [V 52 (.mv (.t 0)),
Vd [0] (V 53 (.nilc (.t 52))),
Vd [1] (V 54 (.fad 0 (.t 53))),
Vd [2] (V 55 (.ld none (.t 54))),
V 56 (.fad 1 (.t 3)),
Vd [4] (V 57 (.ld none (.t 56))),
V 58 (.mv (.t 0)),
Vd [6] (V 59 (.nilc (.t 58))),
Vd [7] (V 60 (.fad 0 (.t 59))),
Vd [8] (V 61 (.ld none (.t 60))),
V 62 (.fad 2 (.t 3)),
Vd [10] (V 63 (.ld none (.t 62))),
Vd [9,11] (V 64 (.idx 1 (.t 61) (.t 63))),
Vd [12] (V 65 (.ld none (.t 64))),
Vd [3,5,13] (V 66 (.idx 1 (.t 55) (.t 57))),
Vd [14] (Vn (.st 1 (.t 66) (.t 65)))]) (.seq (.rg [V 68 (.fad 0 (.t 3)),
V 69 (.ld none (.t 68)),
V 70 (.bin .eq (.t 69) (.k (.c (.i 21)))),
V 67 (.mv (.t 70))]) (.cond (.t 67) (.seq (.seq (.rd [V 71 (.mv (.t 0)),
Vd [0] (V 72 (.nilc (.t 71))),
Vd [1] (V 73 (.fad 0 (.t 72))),
Vd [2] (V 74 (.ld none (.t 73))),
V 75 (.fad 2 (.t 3)),
Vd [4] (V 76 (.ld none (.t 75))),
Vd [3,5] (V 77 (.idx 1 (.t 74) (.t 76))),
Vd [6] (V 78 (.ld none (.t 77))),
Vd [7] (V 79 (.call 57 [(.t 78),(.k (.c (.i 0))),(.k (.c (.i 7)))])),
Vd [8] (V 80 (.not (.t 79)))]) (.cond (.t 80) (.seq (.rg [V 4 (.mv (.k (.c (.i 2))))]) (.ret)) (.skip))) (.rd [V 81 (.mv (.t 0)),
Vd [0] (V 82 (.nilc (.t 81))),
Vd [1] (V 83 (.fad 0 (.t 82))),
Vd [2] (V 84 (.ld none (.t 83))),
V 85 (.fad 1 (.t 3)),
Vd [4] (V 86 (.ld none (.t 85))),
V 87 (.mv (.t 0)),
Vd [6] (V 88 (.nilc (.t 87))),
Vd [7] (V 89 (.fad 1 (.t 88))),
Vd [8] (V 90 (.ld none (.t 89))),
V 91 (.mv (.t 0)),
Vd [10] (V 92 (.nilc (.t 91))),
Vd [11] (V 93 (.fad 0 (.t 92))),
Vd [12] (V 94 (.ld none (.t 93))),
V 95 (.fad 2 (.t 3)),
Vd [14] (V 96 (.ld none (.t 95))),
Vd [13,15] (V 97 (.idx 1 (.t 94) (.t 96))),
Vd [16] (V 98 (.ld none (.t 97))),
Vd [9,17] (V 99 (.idx 1 (.t 90) (.t 98))),
Vd [18] (V 100 (.ld none (.t 99))),
Vd [3,5,19] (V 101 (.idx 1 (.t 84) (.t 86))),
Vd [20] (Vn (.st 1 (.t 101) (.t 100)))])) (.seq (.rg [V 103 (.fad 0 (.t 3)),
V 104 (.ld none (.t 103)),
V 105 (.bin .eq (.t 104) (.k (.c (.i 22)))),
V 102 (.mv (.t 105))]) (.cond (.t 102) (.seq (.seq (.rd [V 106 (.mv (.t 0)),
Vd [0] (V 107 (.nilc (.t 106))),
Vd [1] (V 108 (.fad 0 (.t 107))),
Vd [2] (V 109 (.ld none (.t 108))),
V 110 (.fad 2 (.t 3)),
Vd [4] (V 111 (.ld none (.t 110))),
Vd [3,5] (V 112 (.idx 1 (.t 109) (.t 111))),
Vd [6] (V 113 (.ld none (.t 112))),
Vd [7] (V 114 (.call 57 [(.t 113),(.k (.c (.i 0))),(.k (.c (.i 7)))])),
Vd [8] (V 115 (.not (.t 114)))]) (.cond (.t 115) (.seq (.rg [V 4 (.mv (.k (.c (.i 2))))]) (.ret)) (.skip))) (.rd [V 116 (.mv (.t 0)),
Vd [0] (V 117 (.nilc (.t 116))),
Vd [1] (V 118 (.fad 1 (.t 117))),
Vd [2] (V 119 (.ld none (.t 118))),
V 120 (.mv (.t 0)),
Vd [4] (V 121 (.nilc (.t 120))),
Vd [5] (V 122 (.fad 0 (.t 121))),
Vd [6] (V 123 (.ld none (.t 122))),
V 124 (.fad 2 (.t 3)),
Vd [8] (V 125 (.ld none (.t 124))),
Vd [7,9] (V 126 (.idx 1 (.t 123) (.t 125))),
Vd [10] (V 127 (.ld none (.t 126))),
V 128 (.mv (.t 0)),
Vd [12] (V 129 (.nilc (.t 128))),
Vd [13] (V 130 (.fad 0 (.t 129))),
Vd [14] (V 131 (.ld none (.t 130))),
V 132 (.fad 3 (.t 3)),
Vd [16] (V 133 (.ld none (.t 132))),
Vd [15,17] (V 134 (.idx 1 (.t 131) (.t 133))),
Vd [18] (V 135 (.ld none (.t 134))),
Vd [3,11,19] (V 136 (.idx 1 (.t 119) (.t 127))),
Vd [20] (Vn (.st 1 (.t 136) (.t 135)))])) (.seq (.rg [V 138 (.fad 0 (.t 3)),
V 139 (.ld none (.t 138)),
V 140 (.bin .eq (.t 139) (.k (.c (.i 23)))),
V 137 (.mv (.t 140))]) (.cond (.t 137) (.rd [V 141 (.mv (.t 0)),
V 142 (.mv (.t 0)),
Vd [1] (V 143 (.nilc (.t 142))),
Vd [2] (V 144 (.fad 3 (.t 143))),
Vc [3] [] true (V 145 (.ld none (.t 144))),
V 146 (.mv (.t 0)),
Vd [5] (V 147 (.nilc (.t 146))),
Vd [6] (V 148 (.fad 0 (.t 147))),
Vd [7] (V 149 (.ld none (.t 148))),
V 150 (.fad 2 (.t 3)),
Vd [9] (V 151 (.ld none (.t 150))),
Vd [8,10] (V 152 (.idx 1 (.t 149) (.t 151))),
Vd [11] (V 153 (.ld none (.t 152))),
Vc [12] [4] false (V 154 (.bsl 1 [.i 0] 1 [(0,1,(.t 153))])),
Vd [4,13] (V 155 (.app 1 (.t 145) (.t 154))),
Vd [0,14] (V 156 (.nilc (.t 141))),
Vd [15] (V 157 (.fad 3 (.t 156))),
Vd [16] (Vn (.st 1 (.t 157) (.t 155)))]) (.seq (.rg [V 159 (.fad 0 (.t 3)),
V 160 (.ld none (.t 159)),
V 161 (.bin .eq (.t 160) (.k (.c (.i 24)))),
V 158 (.mv (.t 161))]) (.cond (.t 158) (.seq (.rd [V 162 (.mv (.t 0)),
Vd [0] (V 163 (.nilc (.t 162))),
Vd [1] (V 164 (.fad 0 (.t 163))),
Vd [2] (V 165 (.ld none (.t 164))),
V 166 (.fad 1 (.t 3)),
Vd [4] (V 167 (.ld none (.t 166))),
Vd [3,5] (V 168 (.idx 1 (.t 165) (.t 167))),
Vd [6] (Vn (.st 1 (.t 168) (.k (.c (.i 0)))))]) (.seq (.rg [V 169 (.mv (.t 0)),
V 170 (.nilc (.t 169)),
V 171 (.fad 2 (.t 170)),
V 172 (.ld none (.t 171)),
V 173 (.len (.t 172)),
V 174 (.bin .gt (.t 173) (.k (.c (.i 0))))]) (.cond (.t 174) (.seq (.rd [V 175 (.mv (.t 0)),
Vd [0] (V 176 (.nilc (.t 175))),
Vd [1] (V 177 (.fad 0 (.t 176))),
Vd [2] (V 178 (.ld none (.t 177))),
V 179 (.fad 1 (.t 3)),
Vd [4] (V 180 (.ld none (.t 179))),
V 181 (.mv (.t 0)),
Vd [6] (V 182 (.nilc (.t 181))),
Vd [7] (V 183 (.fad 2 (.t 182))),
Vd [8] (V 184 (.ld none (.t 183))),
Vd [9] (V 185 (.idx 1 (.t 184) (.k (.c (.i 0))))),
Vd [10] (V 186 (.ld none (.t 185))),
Vd [3,5,11] (V 187 (.idx 1 (.t 178) (.t 180))),
Vd [12] (Vn (.st 1 (.t 187) (.t 186)))]) (.rg [V 188 (.mv (.t 0)),
V 189 (.mv (.t 0)),
V 190 (.nilc (.t 189)),
V 191 (.fad 2 (.t 190)),
V 192 (.ld none (.t 191)),
V 193 (.slc 1 (.t 192) (some (.k (.c (.i 1)))) none),
V 194 (.nilc (.t 188)),
V 195 (.fad 2 (.t 194)),
Vn (.st 1 (.t 195) (.t 193))])) (.skip)))) (.skip)))))))))))))))) (.seq (.rg [V 4 (.mv (.k (.c (.i 0))))]) (.ret)))
def vf113 : VF := ⟨vf113c,vf113v,[(4,none)]⟩
theorem ok113 : chkF Try.prog Try.f113 vf113 = true := by kernel_rfl
theorem dr113 : drawsB vf113.body = true := by kernel_rfl
/-- slices.IndexFuncloop.example/g00192/impl.Blockloop.example/g00192/impl.Block -/
def vf114v : List Nat := [0,1,4,5,7,8,9,16]
def vf114b0 : VC := .seq (.rg [V 9 (.bin .lt (.t 8) (.t 7))]) (.seq (.cond (.t 9) (.skip) (.exit 0)) (.seq (.block 1 (.seq (.rg [V 10 (.mv (.t 8)),
V 5 (.mv (.t 10))]) (.seq (.rg [V 11 (.mv (.t 1)),
V 12 (.mv (.t 0)),
V 13 (.mv (.t 5)),
V 14 (.idx 6 (.t 12) (.t 13)),
V 15 (.ld (some 6) (.t 14)),
V 16 (.clv (.t 11) [(.t 15)])]) (.cond (.t 16) (.seq (.rg [V 17 (.mv (.t 5)),
V 4 (.mv (.t 17))]) (.ret)) (.skip))))) (.rg [V 18 (.bin .add (.t 8) (.k (.c (.i 1)))),
V 8 (.mv (.t 18))])))
def vf114c : VC := .seq (.rg [V 4 (.mv (.k (.c (.i 0))))]) (.seq (.seq (.rg [V 6 (.mv (.t 0)),
V 7 (.len (.t 6)),
V 8 (.mv (.k (.c (.i 0))))]) (.block 0 (.loop vf114b0))) (.seq (.rg [V 4 (.mv (.k (.c (.i (-1)))))]) (.ret)))
def vf114 : VF := ⟨vf114c,vf114v,[(4,none)]⟩
theorem ok114 : chkF Try.prog Try.f114 vf114 = true := by kernel_rfl
theorem dr114 : drawsB vf114.body = true := by kernel_rfl
/-- loop.example/g00192/impl.partOk -/
def vf115v : List Nat := [0,1,2,6,7]
def vf115c : VC := .seq (.rg [V 6 (.mv (.k (.c (.b false))))]) (.seq (.seq (.rg [V 7 (.mv (.t 1))]) (.cond (.t 7) (.seq (.rg [V 8 (.mv (.t 0)),
V 9 (.bin .ge (.t 8) (.k (.c (.i 0)))),
V 10 (.mv (.t 9)),
Vg 11 10 true (.mv (.t 0)),
Vg 12 10 true (.mv (.t 2)),
Vg 13 10 true (.bin .lt (.t 11) (.t 12)),
V 14 (.pick (.t 10) (.t 13) (.k (.c (.b false)))),
V 6 (.mv (.t 14))]) (.ret)) (.skip))) (.seq (.rg [V 15 (.mv (.t 0)),
V 16 (.bin .eq (.t 15) (.k (.c (.i 0)))),
V 6 (.mv (.t 16))]) (.ret)))
def vf115 : VF := ⟨vf115c,vf115v,[(6,none)]⟩
theorem ok115 : chkF Try.prog Try.f115 vf115 = true := by kernel_rfl
theorem dr115 : drawsB vf115.body = true := by kernel_rfl
/-- slices.IndexFuncloop.example/g00192/impl.Philoop.example/g00192/impl.Phi -/
def vf116v : List Nat := [0,1,4,5,7,8,9,16]
def vf116b0 : VC := .seq (.rg [V 9 (.bin .lt (.t 8) (.t 7))]) (.seq (.cond (.t 9) (.skip) (.exit 0)) (.seq (.block 1 (.seq (.rg [V 10 (.mv (.t 8)),
V 5 (.mv (.t 10))]) (.seq (.rg [V 11 (.mv (.t 1)),
V 12 (.mv (.t 0)),
V 13 (.mv (.t 5)),
V 14 (.idx 2 (.t 12) (.t 13)),
V 15 (.ld (some 2) (.t 14)),
V 16 (.clv (.t 11) [(.t 15)])]) (.cond (.t 16) (.seq (.rg [V 17 (.mv (.t 5)),
V 4 (.mv (.t 17))]) (.ret)) (.skip))))) (.rg [V 18 (.bin .add (.t 8) (.k (.c (.i 1)))),
V 8 (.mv (.t 18))])))
def vf116c : VC := .seq (.rg [V 4 (.mv (.k (.c (.i 0))))]) (.seq (.seq (.rg [V 6 (.mv (.t 0)),
V 7 (.len (.t 6)),
V 8 (.mv (.k (.c (.i 0))))]) (.block 0 (.loop vf116b0))) (.seq (.rg [V 4 (.mv (.k (.c (.i (-1)))))]) (.ret)))
def vf116 : VF := ⟨vf116c,vf116v,[(4,none)]⟩
theorem ok116 : chkF Try.prog Try.f116 vf116 = true := by kernel_rfl
theorem dr116 : drawsB vf116.body = true := by kernel_rfl
/-- slices.ContainsFuncloop.example/g00192/impl.Armloop.example/g00192/impl.Arm -/
def vf117v : List Nat := [0,1,4]
def vf117c : VC := .seq (.rg [V 4 (.mv (.k (.c (.b false))))]) (.seq (.rg [V 5 (.mv (.t 0)),
V 6 (.mv (.t 1)),
V 7 (.call 138 [(.t 5),(.t 6)]),
V 8 (.bin .ge (.t 7) (.k (.c (.i 0)))),
V 4 (.mv (.t 8))]) (.ret))
def vf117 : VF := ⟨vf117c,vf117v,[(4,none)]⟩
theorem ok117 : chkF Try.prog Try.f117 vf117 = true := by kernel_rfl
theorem dr117 : drawsB vf117.body = true := by kernel_rfl
/-- loop.example/g00192/impl.phiOk$1 -/
def vf118v : List Nat := [0,1,2,3]
def vf118c : VC := .seq (.rg [V 2 (.box (.t 0)),
V 3 (.mv (.k (.c (.b false))))]) (.seq (.rg [V 4 (.fad 0 (.t 2)),
V 5 (.ld none (.t 4)),
V 6 (.fad 0 (.t 1)),
V 7 (.ld none (.t 6)),
V 8 (.bin .eq (.t 5) (.t 7)),
V 3 (.mv (.t 8))]) (.ret))
def vf118 : VF := ⟨vf118c,vf118v,[(3,none)]⟩
theorem ok118 : chkF Try.prog Try.f118 vf118 = true := by kernel_rfl
theorem dr118 : drawsB vf118.body = true := by kernel_rfl
/-- slices.IndexFuncloop.example/g00192/impl.Insloop.example/g00192/impl.Ins -/
def vf119v : List Nat := [0,1,4,5,7,8,9,16]
def vf119b0 : VC := .seq (.rg [V 9 (.bin .lt (.t 8) (.t 7))]) (.seq (.cond (.t 9) (.skip) (.exit 0)) (.seq (.block 1 (.seq (.rg [V 10 (.mv (.t 8)),
V 5 (.mv (.t 10))]) (.seq (.rg [V 11 (.mv (.t 1)),
V 12 (.mv (.t 0)),
V 13 (.mv (.t 5)),
V 14 (.idx 5 (.t 12) (.t 13)),
V 15 (.ld (some 5) (.t 14)),
V 16 (.clv (.t 11) [(.t 15)])]) (.cond (.t 16) (.seq (.rg [V 17 (.mv (.t 5)),
V 4 (.mv (.t 17))]) (.ret)) (.skip))))) (.rg [V 18 (.bin .add (.t 8) (.k (.c (.i 1)))),
V 8 (.mv (.t 18))])))
def vf119c : VC := .seq (.rg [V 4 (.mv (.k (.c (.i 0))))]) (.seq (.seq (.rg [V 6 (.mv (.t 0)),
V 7 (.len (.t 6)),
V 8 (.mv (.k (.c (.i 0))))]) (.block 0 (.loop vf119b0))) (.seq (.rg [V 4 (.mv (.k (.c (.i (-1)))))]) (.ret)))
def vf119 : VF := ⟨vf119c,vf119v,[(4,none)]⟩
theorem ok119 : chkF Try.prog Try.f119 vf119 = true := by kernel_rfl
theorem dr119 : drawsB vf119.body = true := by kernel_rfl
/-- loop.example/g00192/impl.formOf -/
def vf120v : List Nat := [0,2,3,4,5,7,10,12,14]
def vf120c : VC := .seq (.rg [V 2 (.mv (.k (.c (.s ⟨#[]⟩)))),
V 3 (.mv (.k (.c (.b false))))]) (.seq (.seq (.rg [V 4 (.mv (.t 0))]) (.block 0 (.seq (.rg [V 6 (.bin .eq (.t 4) (.k (.c (.i 20)))),
V 5 (.mv (.t 6))]) (.cond (.t 5) (.seq (.rg [V 2 (.mv (.k (.c (.s ⟨#[68,78]⟩)))),
V 3 (.mv (.k (.c (.b true))))]) (.ret)) (.seq (.seq (.rg [V 8 (.bin .eq (.t 4) (.k (.c (.i 21)))),
V 7 (.mv (.t 8))]) (.cond (.t 7) (.skip) (.rg [V 9 (.bin .eq (.t 4) (.k (.c (.i 25)))),
V 7 (.mv (.t 9))]))) (.cond (.t 7) (.seq (.rg [V 2 (.mv (.k (.c (.s ⟨#[68,65]⟩)))),
V 3 (.mv (.k (.c (.b true))))]) (.ret)) (.seq (.rg [V 11 (.bin .eq (.t 4) (.k (.c (.i 22)))),
V 10 (.mv (.t 11))]) (.cond (.t 10) (.seq (.rg [V 2 (.mv (.k (.c (.s ⟨#[65,66]⟩)))),
V 3 (.mv (.k (.c (.b true))))]) (.ret)) (.seq (.rg [V 13 (.bin .eq (.t 4) (.k (.c (.i 23)))),
V 12 (.mv (.t 13))]) (.cond (.t 12) (.seq (.rg [V 2 (.mv (.k (.c (.s ⟨#[65]⟩)))),
V 3 (.mv (.k (.c (.b true))))]) (.ret)) (.seq (.rg [V 15 (.bin .eq (.t 4) (.k (.c (.i 24)))),
V 14 (.mv (.t 15))]) (.cond (.t 14) (.seq (.rg [V 2 (.mv (.k (.c (.s ⟨#[68]⟩)))),
V 3 (.mv (.k (.c (.b true))))]) (.ret)) (.skip))))))))))))) (.seq (.rg [V 16 (.mv (.t 0)),
V 17 (.call 139 [(.t 16)]),
V 2 (.mv (.k (.c (.s ⟨#[68,65,66]⟩)))),
V 3 (.mv (.t 17))]) (.ret)))
def vf120 : VF := ⟨vf120c,vf120v,[(2,none),(3,none)]⟩
theorem ok120 : chkF Try.prog Try.f120 vf120 = true := by kernel_rfl
theorem dr120 : drawsB vf120.body = true := by kernel_rfl
/-- loop.example/g00192/impl.has -/
def vf121v : List Nat := [0,1,4,5,6]
def vf121c : VC := .seq (.rg [V 4 (.mv (.k (.c (.b false))))]) (.seq (.rg [V 8 (.mv (.t 0)),
V 9 (.call 120 [(.t 8)]),
V 7 (.mv (.t 9)),
V 10 (.ext 0 (.t 7)),
V 11 (.ext 1 (.t 7)),
V 5 (.mv (.t 10)),
V 6 (.mv (.t 11))]) (.seq (.rg [V 12 (.mv (.t 6)),
V 13 (.mv (.t 12)),
Vg 14 13 true (.mv (.t 5)),
Vg 15 13 true (.s2b (.t 14)),
Vg 16 13 true (.mv (.t 1)),
Vg 17 13 true (.call 140 [(.t 15),(.t 16)]),
V 18 (.pick (.t 13) (.t 17) (.k (.c (.b false)))),
V 4 (.mv (.t 18))]) (.ret)))
def vf121 : VF := ⟨vf121c,vf121v,[(4,none)]⟩
theorem ok121 : chkF Try.prog Try.f121 vf121 = true := by kernel_rfl
theorem dr121 : drawsB vf121.body = true := by kernel_rfl
/-- loop.example/g00192/laws.szBlock -/
def vf122v : List Nat := [0,1,2,4,10,16]
def vf122c : VC := .seq (.rg [V 2 (.box (.t 0)),
V 4 (.mv (.k (.c (.i 0))))]) (.seq (.rg [V 5 (.fad 0 (.t 2)),
V 6 (.ld none (.t 5)),
V 7 (.mv (.t 1)),
V 8 (.call 141 [(.t 6),(.t 7)]),
V 1 (.mv (.t 8))]) (.seq (.seq (.rg [V 9 (.mv (.t 1)),
V 10 (.bin .lt (.t 9) (.k (.c (.i 0))))]) (.cond (.t 10) (.seq (.rg [V 4 (.mv (.k (.c (.i (-1)))))]) (.ret)) (.skip))) (.seq (.rg [V 11 (.fad 1 (.t 2)),
V 12 (.ld none (.t 11)),
V 13 (.mv (.t 1)),
V 14 (.call 142 [(.t 12),(.t 13)]),
V 1 (.mv (.t 14))]) (.seq (.seq (.rg [V 15 (.mv (.t 1)),
V 16 (.bin .lt (.t 15) (.k (.c (.i 0))))]) (.cond (.t 16) (.seq (.rg [V 4 (.mv (.k (.c (.i (-1)))))]) (.ret)) (.skip))) (.seq (.rg [V 17 (.mv (.t 1)),
V 4 (.mv (.t 17))]) (.ret))))))
def vf122 : VF := ⟨vf122c,vf122v,[(4,none)]⟩
theorem ok122 : chkF Try.prog Try.f122 vf122 = true := by kernel_rfl
theorem dr122 : drawsB vf122.body = true := by kernel_rfl
/-- loop.example/g00192/laws.toBlock -/
def vf123v : List Nat := [0,1,2,3]
def vf123c : VC := .seq (.rg [V 1 (.box (.t 0)),
V 2 (.alloc [.ns,.ns,.i 0,.i 0,.i 0,.i 0])]) (.seq (.rg [V 3 (.alloc [.ns,.ns,.i 0,.i 0,.i 0,.i 0])]) (.seq (.rg [V 4 (.fad 0 (.t 1)),
V 5 (.ld none (.t 4)),
V 6 (.call 143 [(.t 5)]),
V 7 (.fad 0 (.t 3)),
Vn (.st 1 (.t 7) (.t 6))]) (.seq (.rg [V 8 (.fad 1 (.t 1)),
V 9 (.ld none (.t 8)),
V 10 (.call 144 [(.t 9)]),
V 11 (.fad 1 (.t 3)),
Vn (.st 1 (.t 11) (.t 10))]) (.seq (.rg [V 12 (.fad 2 (.t 1)),
V 13 (.ld (some 4) (.t 12)),
V 14 (.call 145 [(.t 13)]),
V 15 (.fad 2 (.t 3)),
Vn (.st 4 (.t 15) (.t 14))]) (.seq (.rg [V 16 (.ld (some 6) (.t 3)),
Vn (.st 6 (.t 2) (.t 16))]) (.ret))))))
def vf123 : VF := ⟨vf123c,vf123v,[(2,(some (some 6)))]⟩
theorem ok123 : chkF Try.prog Try.f123 vf123 = true := by kernel_rfl
theorem dr123 : drawsB vf123.body = true := by kernel_rfl
/-- loop.example/g00192/laws.eqBlock -/
def vf124v : List Nat := [0,1,2,3,4,10,16,22]
def vf124c : VC := .seq (.rg [V 2 (.box (.t 0)),
V 3 (.box (.t 1)),
V 4 (.mv (.k (.c (.b false))))]) (.seq (.seq (.rg [V 5 (.fad 0 (.t 2)),
V 6 (.ld none (.t 5)),
V 7 (.fad 0 (.t 3)),
V 8 (.ld none (.t 7)),
V 9 (.call 146 [(.t 6),(.t 8)]),
V 10 (.not (.t 9))]) (.cond (.t 10) (.seq (.rg [V 4 (.mv (.k (.c (.b false))))]) (.ret)) (.skip))) (.seq (.seq (.rg [V 11 (.fad 1 (.t 2)),
V 12 (.ld none (.t 11)),
V 13 (.fad 1 (.t 3)),
V 14 (.ld none (.t 13)),
V 15 (.call 147 [(.t 12),(.t 14)]),
V 16 (.not (.t 15))]) (.cond (.t 16) (.seq (.rg [V 4 (.mv (.k (.c (.b false))))]) (.ret)) (.skip))) (.seq (.seq (.rg [V 17 (.fad 2 (.t 2)),
V 18 (.ld (some 4) (.t 17)),
V 19 (.fad 2 (.t 3)),
V 20 (.ld (some 4) (.t 19)),
V 21 (.call 148 [(.t 18),(.t 20)]),
V 22 (.not (.t 21))]) (.cond (.t 22) (.seq (.rg [V 4 (.mv (.k (.c (.b false))))]) (.ret)) (.skip))) (.seq (.rg [V 4 (.mv (.k (.c (.b true))))]) (.ret)))))
def vf124 : VF := ⟨vf124c,vf124v,[(4,none)]⟩
theorem ok124 : chkF Try.prog Try.f124 vf124 = true := by kernel_rfl
theorem dr124 : drawsB vf124.body = true := by kernel_rfl
/-- loop.example/g00192/laws.markPhiS -/
def vf125v : List Nat := [0,1,4,5,9]
def vf125b0 : VC := .seq (.seq (.rg [V 6 (.mv (.t 5)),
V 7 (.mv (.t 0)),
V 8 (.len (.t 7)),
V 9 (.bin .lt (.t 6) (.t 8))]) (.cond (.t 9) (.skip) (.exit 0))) (.seq (.block 1 (.seq (.rg [V 12 (.mv (.t 0)),
V 13 (.mv (.t 5)),
V 14 (.mv (.t 1)),
V 15 (.idx 2 (.t 12) (.t 13)),
V 16 (.fad 0 (.t 15)),
Vn (.st 1 (.t 16) (.t 14))]) (.seq (.rg [V 17 (.mv (.t 1)),
V 18 (.bin .add (.t 17) (.k (.c (.i 1)))),
V 1 (.mv (.t 18))]) (.rg [V 19 (.mv (.t 0)),
V 20 (.mv (.t 5)),
V 21 (.idx 2 (.t 19) (.t 20)),
V 22 (.fad 1 (.t 21)),
V 23 (.ld none (.t 22)),
V 24 (.mv (.t 1)),
V 25 (.call 149 [(.t 23),(.t 24)]),
V 1 (.mv (.t 25))])))) (.rg [V 10 (.mv (.t 5)),
V 11 (.bin .add (.t 10) (.k (.c (.i 1)))),
V 5 (.mv (.t 11))]))
def vf125c : VC := .seq (.rg [V 4 (.mv (.k (.c (.i 0))))]) (.seq (.seq (.rg [V 5 (.mv (.k (.c (.i 0))))]) (.block 0 (.loop vf125b0))) (.seq (.rg [V 26 (.mv (.t 1)),
V 4 (.mv (.t 26))]) (.ret)))
def vf125 : VF := ⟨vf125c,vf125v,[(4,none)]⟩
theorem ok125 : chkF Try.prog Try.f125 vf125 = true := by kernel_rfl
theorem dr125 : drawsB vf125.body = true := by kernel_rfl
/-- loop.example/g00192/laws.markInsS -/
def vf126v : List Nat := [0,1,4,5,9]
def vf126b0 : VC := .seq (.seq (.rg [V 6 (.mv (.t 5)),
V 7 (.mv (.t 0)),
V 8 (.len (.t 7)),
V 9 (.bin .lt (.t 6) (.t 8))]) (.cond (.t 9) (.skip) (.exit 0))) (.seq (.block 1 (.seq (.rg [V 12 (.mv (.t 0)),
V 13 (.mv (.t 5)),
V 14 (.mv (.t 1)),
V 15 (.idx 5 (.t 12) (.t 13)),
V 16 (.fad 0 (.t 15)),
Vn (.st 1 (.t 16) (.t 14))]) (.seq (.rg [V 17 (.mv (.t 1)),
V 18 (.bin .add (.t 17) (.k (.c (.i 1)))),
V 1 (.mv (.t 18))]) (.seq (.rg [V 19 (.mv (.t 0)),
V 20 (.mv (.t 5)),
V 21 (.mv (.t 1)),
V 22 (.idx 5 (.t 19) (.t 20)),
V 23 (.fad 1 (.t 22)),
Vn (.st 1 (.t 23) (.t 21))]) (.seq (.rg [V 24 (.mv (.t 1)),
V 25 (.bin .add (.t 24) (.k (.c (.i 1)))),
V 1 (.mv (.t 25))]) (.seq (.rg [V 26 (.mv (.t 0)),
V 27 (.mv (.t 5)),
V 28 (.mv (.t 1)),
V 29 (.idx 5 (.t 26) (.t 27)),
V 30 (.fad 2 (.t 29)),
Vn (.st 1 (.t 30) (.t 28))]) (.seq (.rg [V 31 (.mv (.t 1)),
V 32 (.bin .add (.t 31) (.k (.c (.i 1)))),
V 1 (.mv (.t 32))]) (.seq (.rg [V 33 (.mv (.t 0)),
V 34 (.mv (.t 5)),
V 35 (.mv (.t 1)),
V 36 (.idx 5 (.t 33) (.t 34)),
V 37 (.fad 3 (.t 36)),
Vn (.st 1 (.t 37) (.t 35))]) (.seq (.rg [V 38 (.mv (.t 1)),
V 39 (.bin .add (.t 38) (.k (.c (.i 1)))),
V 1 (.mv (.t 39))]) (.seq (.rg [V 40 (.mv (.t 0)),
V 41 (.mv (.t 5)),
V 42 (.mv (.t 1)),
V 43 (.idx 5 (.t 40) (.t 41)),
V 44 (.fad 4 (.t 43)),
Vn (.st 1 (.t 44) (.t 42))]) (.rg [V 45 (.mv (.t 1)),
V 46 (.bin .add (.t 45) (.k (.c (.i 1)))),
V 1 (.mv (.t 46))]))))))))))) (.rg [V 10 (.mv (.t 5)),
V 11 (.bin .add (.t 10) (.k (.c (.i 1)))),
V 5 (.mv (.t 11))]))
def vf126c : VC := .seq (.rg [V 4 (.mv (.k (.c (.i 0))))]) (.seq (.seq (.rg [V 5 (.mv (.k (.c (.i 0))))]) (.block 0 (.loop vf126b0))) (.seq (.rg [V 47 (.mv (.t 1)),
V 4 (.mv (.t 47))]) (.ret)))
def vf126 : VF := ⟨vf126c,vf126v,[(4,none)]⟩
theorem ok126 : chkF Try.prog Try.f126 vf126 = true := by kernel_rfl
theorem dr126 : drawsB vf126.body = true := by kernel_rfl
/-- loop.example/g00192/spec.l2Block -/
def vf127v : List Nat := [0,2]
def vf127c : VC := .seq (.rg [V 2 (.mv (.k (.c (.i 0))))]) (.seq (.rg [V 3 (.mv (.t 0)),
V 4 (.mv (.t 0)),
V 5 (.nilc (.t 4)),
V 6 (.fad 1 (.t 5)),
V 7 (.fad 0 (.t 6)),
V 8 (.ld none (.t 7)),
V 9 (.build [.ns,.ns,.i 0,.i 0,.i 0,.i 0] []),
V 10 (.bsl 6 [.ns,.ns,.i 0,.i 0,.i 0,.i 0] 1 [(0,6,(.t 9))]),
V 11 (.app 6 (.t 8) (.t 10)),
V 12 (.nilc (.t 3)),
V 13 (.fad 1 (.t 12)),
V 14 (.fad 0 (.t 13)),
Vn (.st 1 (.t 14) (.t 11))]) (.seq (.rg [V 15 (.mv (.t 0)),
V 16 (.nilc (.t 15)),
V 17 (.fad 1 (.t 16)),
V 18 (.fad 0 (.t 17)),
V 19 (.ld none (.t 18)),
V 20 (.len (.t 19)),
V 21 (.bin .sub (.t 20) (.k (.c (.i 1)))),
V 2 (.mv (.t 21))]) (.ret)))
def vf127 : VF := ⟨vf127c,vf127v,[(2,none)]⟩
theorem ok127 : chkF Try.prog Try.f127 vf127 = true := by kernel_rfl
theorem dr127 : drawsB vf127.body = true := by kernel_rfl
/-- loop.example/g00192/spec.l2New -/
def vf128v : List Nat := [0,2]
def vf128c : VC := .seq (.rg [V 2 (.mv (.k (.c (.i 0))))]) (.seq (.rg [V 3 (.mv (.t 0)),
V 4 (.mv (.t 0)),
V 5 (.nilc (.t 4)),
V 6 (.fad 1 (.t 5)),
V 7 (.fad 1 (.t 6)),
V 8 (.ld none (.t 7)),
V 9 (.bin .add (.t 8) (.k (.c (.i 1)))),
V 10 (.nilc (.t 3)),
V 11 (.fad 1 (.t 10)),
V 12 (.fad 1 (.t 11)),
Vn (.st 1 (.t 12) (.t 9))]) (.seq (.rg [V 13 (.mv (.t 0)),
V 14 (.nilc (.t 13)),
V 15 (.fad 1 (.t 14)),
V 16 (.fad 1 (.t 15)),
V 17 (.ld none (.t 16)),
V 18 (.bin .sub (.t 17) (.k (.c (.i 1)))),
V 2 (.mv (.t 18))]) (.ret)))
def vf128 : VF := ⟨vf128c,vf128v,[(2,none)]⟩
theorem ok128 : chkF Try.prog Try.f128 vf128 = true := by kernel_rfl
theorem dr128 : drawsB vf128.body = true := by kernel_rfl
/-- loop.example/g00192/spec.l2Put -/
def vf129v : List Nat := [0,1,2,5,16]
def vf129c : VC := .seq (.rg [V 5 (.box (.t 2))]) (.seq (.rg [V 6 (.mv (.t 0)),
V 7 (.nilc (.t 6)),
V 8 (.fad 1 (.t 7)),
V 9 (.fad 0 (.t 8)),
V 10 (.ld none (.t 9)),
V 11 (.mv (.t 1)),
V 12 (.idx 6 (.t 10) (.t 11)),
V 13 (.fad 1 (.t 12)),
V 14 (.ld none (.t 13)),
V 15 (.len (.t 14)),
V 16 (.bin .lt (.t 15) (.k (.c (.i 24))))]) (.cond (.t 16) (.rd [V 17 (.mv (.t 0)),
Vd [0] (V 18 (.nilc (.t 17))),
Vd [1] (V 19 (.fad 1 (.t 18))),
Vd [2] (V 20 (.fad 0 (.t 19))),
Vc [3] [] true (V 21 (.ld none (.t 20))),
V 22 (.mv (.t 1)),
V 23 (.mv (.t 0)),
Vd [6] (V 24 (.nilc (.t 23))),
Vd [7] (V 25 (.fad 1 (.t 24))),
Vd [8] (V 26 (.fad 0 (.t 25))),
Vc [9] [] true (V 27 (.ld none (.t 26))),
V 28 (.mv (.t 1)),
Vd [10,11] (V 29 (.idx 6 (.t 27) (.t 28))),
Vd [12] (V 30 (.fad 1 (.t 29))),
Vc [13] [] true (V 31 (.ld none (.t 30))),
V 32 (.ld (some 5) (.t 5)),
Vc [15] [4,10,14] false (V 33 (.bsl 5 [.i 0,.i 0,.i 0,.i 0,.i 0] 1 [(0,5,(.t 32))])),
Vc [14,16] [4] false (V 34 (.app 5 (.t 31) (.t 33))),
Vd [4,5,17] (V 35 (.idx 6 (.t 21) (.t 22))),
Vd [18] (V 36 (.fad 1 (.t 35))),
Vd [19] (Vn (.st 1 (.t 36) (.t 34)))]) (.skip)))
def vf129 : VF := ⟨vf129c,vf129v,[]⟩
theorem ok129 : chkF Try.prog Try.f129 vf129 = true := by kernel_rfl
theorem dr129 : drawsB vf129.body = true := by kernel_rfl
end Go.Proofs.Ytnapgdlfeadhaaa.Vm
