/- The ideal machine's code for some of the program's functions, each checked against the translated one. No conditions. -/
import Derived.Test.YtgdfgnppeekfjaaGreatChecked
import Derived.Test.YtgdfgnppeekfjaaGreatVmQ
import Derived.Test.YtgdfgnppeekfjaaGreatVmC
namespace Go.Proofs.YtgdfgnppeekfjaaGreat.Vm
set_option linter.unusedVariables false
set_option maxRecDepth 100000
/-- loop.example/g00192/impl.in -/
def vf66v : List Nat := [0,1,2,6]
def vf66c : VC := .seq (.rg [V 6 (.mv (.k (.c (.b false))))]) (.seq (.rg [V 7 (.mv (.t 0)),
V 8 (.mv (.t 1)),
V 9 (.bin .ge (.t 7) (.t 8)),
V 10 (.mv (.t 9)),
Vg 11 10 true (.mv (.t 0)),
Vg 12 10 true (.mv (.t 2)),
Vg 13 10 true (.bin .le (.t 11) (.t 12)),
V 14 (.pick (.t 10) (.t 13) (.k (.c (.b false)))),
V 6 (.mv (.t 14))]) (.ret))
def vf66 : VF := ⟨vf66c,vf66v,[(6,none)]⟩
theorem ok66 : chkF Tryz.prog Tryz.f66 vf66 = true := by kernel_rfl
theorem dr66 : drawsB vf66.body = true := by kernel_rfl
/-- slices.ContainsFuncloop.example/g00192/impl.Blockloop.example/g00192/impl.Block -/
def vf67v : List Nat := [0,1,4]
def vf67c : VC := .seq (.rg [V 4 (.mv (.k (.c (.b false))))]) (.seq (.rg [V 5 (.mv (.t 0)),
V 6 (.mv (.t 1)),
V 7 (.call 139 [(.t 5),(.t 6)]),
V 8 (.bin .ge (.t 7) (.k (.c (.i 0)))),
V 4 (.mv (.t 8))]) (.ret))
def vf67 : VF := ⟨vf67c,vf67v,[(4,none)]⟩
theorem ok67 : chkF Tryz.prog Tryz.f67 vf67 = true := by kernel_rfl
theorem dr67 : drawsB vf67.body = true := by kernel_rfl
/-- loop.example/g00192/impl.ShapeOk$1 -/
def vf68v : List Nat := [0,1,2,3,4,23]
def vf68c : VC := .seq (.rg [V 3 (.box (.t 0)),
V 4 (.mv (.k (.c (.b false))))]) (.seq (.seq (.rg [V 5 (.fad 0 (.t 3)),
V 6 (.ld none (.t 5)),
V 7 (.len (.t 6)),
V 8 (.bin .gt (.t 7) (.k (.c (.i 24)))),
V 9 (.mv (.t 8)),
Vg 10 9 false (.fad 1 (.t 3)),
Vg 11 9 false (.ld none (.t 10)),
Vg 12 9 false (.len (.t 11)),
Vg 13 9 false (.bin .gt (.t 12) (.k (.c (.i 24)))),
V 14 (.pick (.t 9) (.k (.c (.b true))) (.t 13)),
V 15 (.mv (.t 14)),
Vg 16 15 false (.fad 2 (.t 3)),
Vg 17 15 false (.ld (some 4) (.t 16)),
Vg 18 15 false (.ld none (.t 1)),
Vg 19 15 false (.fad 1 (.t 2)),
Vg 20 15 false (.ld none (.t 19)),
Vg 21 15 false (.call 69 [(.t 17),(.t 18),(.t 20)]),
Vg 22 15 false (.not (.t 21)),
V 23 (.pick (.t 15) (.k (.c (.b true))) (.t 22))]) (.cond (.t 23) (.seq (.rg [V 4 (.mv (.k (.c (.b true))))]) (.ret)) (.skip))) (.seq (.rg [V 24 (.fad 0 (.t 3)),
V 25 (.ld none (.t 24)),
V 26 (.mkf 71 [(.t 1),(.t 2)]),
V 27 (.call 70 [(.t 25),(.t 26)]),
V 28 (.mv (.t 27)),
Vg 29 28 false (.fad 1 (.t 3)),
Vg 30 28 false (.ld none (.t 29)),
Vg 31 28 false (.mkf 74 [(.t 2)]),
Vg 32 28 false (.call 73 [(.t 30),(.t 31)]),
V 33 (.pick (.t 28) (.k (.c (.b true))) (.t 32)),
V 4 (.mv (.t 33))]) (.ret)))
def vf68 : VF := ⟨vf68c,vf68v,[(4,none)]⟩
theorem ok68 : chkF Tryz.prog Tryz.f68 vf68 = true := by kernel_rfl
theorem dr68 : drawsB vf68.body = true := by kernel_rfl
/-- loop.example/g00192/impl.termOk -/
def vf69v : List Nat := [0,1,2,3,6,8,9,26,46]
def vf69c : VC := .seq (.rg [V 3 (.box (.t 0)),
V 6 (.mv (.k (.c (.b false))))]) (.seq (.seq (.rg [V 7 (.fad 0 (.t 3)),
V 8 (.ld none (.t 7))]) (.block 0 (.seq (.rg [V 10 (.bin .eq (.t 8) (.k (.c (.i 1)))),
V 9 (.mv (.t 10))]) (.cond (.t 9) (.seq (.rg [V 11 (.fad 2 (.t 3)),
V 12 (.ld none (.t 11)),
V 13 (.mv (.t 1)),
V 14 (.bin .sub (.t 13) (.k (.c (.i 1)))),
V 15 (.call 66 [(.t 12),(.k (.c (.i 0))),(.t 14)]),
V 16 (.mv (.t 15)),
Vg 17 16 true (.fad 1 (.t 3)),
Vg 18 16 true (.ld none (.t 17)),
Vg 19 16 true (.bin .eq (.t 18) (.k (.c (.i 0)))),
V 20 (.pick (.t 16) (.t 19) (.k (.c (.b false)))),
V 21 (.mv (.t 20)),
Vg 22 21 true (.fad 3 (.t 3)),
Vg 23 21 true (.ld none (.t 22)),
Vg 24 21 true (.bin .eq (.t 23) (.k (.c (.i 0)))),
V 25 (.pick (.t 21) (.t 24) (.k (.c (.b false)))),
V 6 (.mv (.t 25))]) (.ret)) (.seq (.rg [V 27 (.bin .eq (.t 8) (.k (.c (.i 2)))),
V 26 (.mv (.t 27))]) (.cond (.t 26) (.seq (.rg [V 28 (.fad 2 (.t 3)),
V 29 (.ld none (.t 28)),
V 30 (.mv (.t 1)),
V 31 (.bin .sub (.t 30) (.k (.c (.i 1)))),
V 32 (.call 66 [(.t 29),(.k (.c (.i 0))),(.t 31)]),
V 33 (.mv (.t 32)),
Vg 34 33 true (.fad 3 (.t 3)),
Vg 35 33 true (.ld none (.t 34)),
Vg 36 33 true (.mv (.t 1)),
Vg 37 33 true (.bin .sub (.t 36) (.k (.c (.i 1)))),
Vg 38 33 true (.call 66 [(.t 35),(.k (.c (.i 0))),(.t 37)]),
V 39 (.pick (.t 33) (.t 38) (.k (.c (.b false)))),
V 40 (.mv (.t 39)),
Vg 41 40 true (.fad 1 (.t 3)),
Vg 42 40 true (.ld none (.t 41)),
Vg 43 40 true (.mv (.t 2)),
Vg 44 40 true (.call 140 [(.t 42),(.k (.c (.b true))),(.t 43)]),
V 45 (.pick (.t 40) (.t 44) (.k (.c (.b false)))),
V 6 (.mv (.t 45))]) (.ret)) (.seq (.rg [V 47 (.bin .eq (.t 8) (.k (.c (.i 3)))),
V 46 (.mv (.t 47))]) (.cond (.t 46) (.seq (.rg [V 48 (.fad 1 (.t 3)),
V 49 (.ld none (.t 48)),
V 50 (.mv (.t 2)),
V 51 (.call 140 [(.t 49),(.k (.c (.b true))),(.t 50)]),
V 52 (.mv (.t 51)),
Vg 53 52 true (.fad 2 (.t 3)),
Vg 54 52 true (.ld none (.t 53)),
Vg 55 52 true (.bin .eq (.t 54) (.k (.c (.i 0)))),
V 56 (.pick (.t 52) (.t 55) (.k (.c (.b false)))),
V 57 (.mv (.t 56)),
Vg 58 57 true (.fad 3 (.t 3)),
Vg 59 57 true (.ld none (.t 58)),
Vg 60 57 true (.bin .eq (.t 59) (.k (.c (.i 0)))),
V 61 (.pick (.t 57) (.t 60) (.k (.c (.b false)))),
V 6 (.mv (.t 61))]) (.ret)) (.skip))))))))) (.seq (.rg [V 6 (.mv (.k (.c (.b false))))]) (.ret)))
def vf69 : VF := ⟨vf69c,vf69v,[(6,none)]⟩
theorem ok69 : chkF Tryz.prog Tryz.f69 vf69 = true := by kernel_rfl
theorem dr69 : drawsB vf69.body = true := by kernel_rfl
/-- slices.ContainsFuncloop.example/g00192/impl.Philoop.example/g00192/impl.Phi -/
def vf70v : List Nat := [0,1,4]
def vf70c : VC := .seq (.rg [V 4 (.mv (.k (.c (.b false))))]) (.seq (.rg [V 5 (.mv (.t 0)),
V 6 (.mv (.t 1)),
V 7 (.call 141 [(.t 5),(.t 6)]),
V 8 (.bin .ge (.t 7) (.k (.c (.i 0)))),
V 4 (.mv (.t 8))]) (.ret))
def vf70 : VF := ⟨vf70c,vf70v,[(4,none)]⟩
theorem ok70 : chkF Tryz.prog Tryz.f70 vf70 = true := by kernel_rfl
theorem dr70 : drawsB vf70.body = true := by kernel_rfl
/-- loop.example/g00192/impl.ShapeOk$1$1 -/
def vf71v : List Nat := [0,1,2,3,4]
def vf71c : VC := .seq (.rg [V 3 (.box (.t 0)),
V 4 (.mv (.k (.c (.b false))))]) (.seq (.rg [V 5 (.ld (some 2) (.t 3)),
V 6 (.ld none (.t 1)),
V 7 (.fad 1 (.t 2)),
V 8 (.ld none (.t 7)),
V 9 (.call 72 [(.t 5),(.t 6),(.t 8)]),
V 10 (.not (.t 9)),
V 4 (.mv (.t 10))]) (.ret))
def vf71 : VF := ⟨vf71c,vf71v,[(4,none)]⟩
theorem ok71 : chkF Tryz.prog Tryz.f71 vf71 = true := by kernel_rfl
theorem dr71 : drawsB vf71.body = true := by kernel_rfl
/-- loop.example/g00192/impl.phiOk -/
def vf72v : List Nat := [0,1,2,3,6,7,8,10,11,12,13,37]
def vf72b0 : VC := .seq (.rg [V 13 (.bin .lt (.t 12) (.t 11))]) (.seq (.cond (.t 13) (.skip) (.exit 0)) (.seq (.block 1 (.seq (.rg [V 14 (.mv (.t 12)),
V 15 (.idx 2 (.t 10) (.t 12)),
V 16 (.ld (some 2) (.t 15)),
V 8 (.alloc [.i 0,.i 0]),
V 7 (.mv (.t 14)),
Vn (.st 2 (.t 8) (.t 16))]) (.seq (.rg [V 17 (.fad 0 (.t 8)),
V 18 (.ld none (.t 17)),
V 19 (.mv (.t 1)),
V 20 (.bin .sub (.t 19) (.k (.c (.i 1)))),
V 21 (.call 66 [(.t 18),(.k (.c (.i 0))),(.t 20)]),
V 22 (.not (.t 21)),
V 23 (.mv (.t 22)),
Vg 24 23 false (.fad 1 (.t 8)),
Vg 25 23 false (.ld none (.t 24)),
Vg 26 23 false (.mv (.t 2)),
Vg 27 23 false (.call 140 [(.t 25),(.k (.c (.b true))),(.t 26)]),
Vg 28 23 false (.not (.t 27)),
V 29 (.pick (.t 23) (.k (.c (.b true))) (.t 28)),
V 30 (.mv (.t 29)),
Vg 31 30 false (.fad 1 (.t 3)),
Vg 32 30 false (.ld none (.t 31)),
Vg 33 30 false (.mv (.t 7)),
Vg 34 30 false (.slc 2 (.t 32) none (some (.t 33))),
Vg 35 30 false (.mkf 143 [(.t 8)]),
Vg 36 30 false (.call 142 [(.t 34),(.t 35)]),
V 37 (.pick (.t 30) (.k (.c (.b true))) (.t 36))]) (.cond (.t 37) (.seq (.rg [V 6 (.mv (.k (.c (.b false))))]) (.ret)) (.skip))))) (.rg [V 38 (.bin .add (.t 12) (.k (.c (.i 1)))),
V 12 (.mv (.t 38))])))
def vf72c : VC := .seq (.rg [V 3 (.box (.t 0)),
V 6 (.mv (.k (.c (.b false))))]) (.seq (.seq (.rg [V 9 (.fad 1 (.t 3)),
V 10 (.ld none (.t 9)),
V 11 (.len (.t 10)),
V 12 (.mv (.k (.c (.i 0))))]) (.block 0 (.loop vf72b0))) (.seq (.rg [V 39 (.fad 0 (.t 3)),
V 40 (.ld none (.t 39)),
V 41 (.mv (.t 2)),
V 42 (.call 140 [(.t 40),(.k (.c (.b true))),(.t 41)]),
V 43 (.mv (.t 42)),
Vg 44 43 true (.fad 1 (.t 3)),
Vg 45 43 true (.ld none (.t 44)),
Vg 46 43 true (.len (.t 45)),
Vg 47 43 true (.bin .le (.t 46) (.k (.c (.i 16)))),
V 48 (.pick (.t 43) (.t 47) (.k (.c (.b false)))),
V 6 (.mv (.t 48))]) (.ret)))
def vf72 : VF := ⟨vf72c,vf72v,[(6,none)]⟩
theorem ok72 : chkF Tryz.prog Tryz.f72 vf72 = true := by kernel_rfl
theorem dr72 : drawsB vf72.body = true := by kernel_rfl
/-- slices.ContainsFuncloop.example/g00192/impl.Insloop.example/g00192/impl.Ins -/
def vf73v : List Nat := [0,1,4]
def vf73c : VC := .seq (.rg [V 4 (.mv (.k (.c (.b false))))]) (.seq (.rg [V 5 (.mv (.t 0)),
V 6 (.mv (.t 1)),
V 7 (.call 101 [(.t 5),(.t 6)]),
V 8 (.bin .ge (.t 7) (.k (.c (.i 0)))),
V 4 (.mv (.t 8))]) (.ret))
def vf73 : VF := ⟨vf73c,vf73v,[(4,none)]⟩
theorem ok73 : chkF Tryz.prog Tryz.f73 vf73 = true := by kernel_rfl
theorem dr73 : drawsB vf73.body = true := by kernel_rfl
/-- loop.example/g00192/impl.ShapeOk$1$2 -/
def vf74v : List Nat := [0,1,2,3]
def vf74c : VC := .seq (.rg [V 2 (.box (.t 0)),
V 3 (.mv (.k (.c (.b false))))]) (.seq (.rg [V 4 (.ld (some 5) (.t 2)),
V 5 (.fad 1 (.t 1)),
V 6 (.ld none (.t 5)),
V 7 (.call 75 [(.t 4),(.t 6)]),
V 8 (.not (.t 7)),
V 3 (.mv (.t 8))]) (.ret))
def vf74 : VF := ⟨vf74c,vf74v,[(3,none)]⟩
theorem ok74 : chkF Tryz.prog Tryz.f74 vf74 = true := by kernel_rfl
theorem dr74 : drawsB vf74.body = true := by kernel_rfl
/-- loop.example/g00192/impl.insOk -/
def vf75v : List Nat := [0,1,2,4,6]
def vf75c : VC := .seq (.rg [V 2 (.box (.t 0)),
V 4 (.mv (.k (.c (.b false))))]) (.seq (.rg [V 8 (.fad 0 (.t 2)),
V 9 (.ld none (.t 8)),
V 10 (.call 144 [(.t 9)]),
V 7 (.mv (.t 10)),
V 11 (.ext 0 (.t 7)),
V 12 (.ext 1 (.t 7)),
V 5 (.mv (.t 11)),
V 6 (.mv (.t 12))]) (.seq (.rd [V 13 (.mv (.t 6)),
Vd [0] (V 14 (.mv (.t 13))),
Vd [1] (Vg 15 14 true (.fad 1 (.t 2))),
Vc [2] [] true (Vg 16 14 true (.ld none (.t 15))),
Vd [1] (Vg 17 14 true (.fad 0 (.t 2))),
Vd [4] (Vg 18 14 true (.ld none (.t 17))),
Vc [5] [3] false (Vg 19 14 true (.call 99 [(.t 18),(.k (.c (.y 68)))])),
Vd [1] (Vg 20 14 true (.mv (.t 1))),
Vd [3,6,7] (Vg 21 14 true (.call 140 [(.t 16),(.t 19),(.t 20)])),
Vd [8] (V 22 (.pick (.t 14) (.t 21) (.k (.c (.b false))))),
Vd [9] (V 23 (.mv (.t 22))),
Vd [10] (Vg 24 23 true (.fad 2 (.t 2))),
Vc [11] [] true (Vg 25 23 true (.ld none (.t 24))),
Vd [10] (Vg 26 23 true (.fad 0 (.t 2))),
Vd [13] (Vg 27 23 true (.ld none (.t 26))),
Vc [14] [12] false (Vg 28 23 true (.call 99 [(.t 27),(.k (.c (.y 65)))])),
Vd [10] (Vg 29 23 true (.mv (.t 1))),
Vd [12,15,16] (Vg 30 23 true (.call 140 [(.t 25),(.t 28),(.t 29)])),
Vd [17] (V 31 (.pick (.t 23) (.t 30) (.k (.c (.b false))))),
Vd [18] (V 32 (.mv (.t 31))),
Vd [19] (Vg 33 32 true (.fad 3 (.t 2))),
Vc [20] [] true (Vg 34 32 true (.ld none (.t 33))),
Vd [19] (Vg 35 32 true (.fad 0 (.t 2))),
Vd [22] (Vg 36 32 true (.ld none (.t 35))),
Vc [23] [21] false (Vg 37 32 true (.call 99 [(.t 36),(.k (.c (.y 66)))])),
Vd [19] (Vg 38 32 true (.mv (.t 1))),
Vd [21,24,25] (Vg 39 32 true (.call 140 [(.t 34),(.t 37),(.t 38)])),
Vd [26] (V 40 (.pick (.t 32) (.t 39) (.k (.c (.b false))))),
Vd [27] (V 41 (.mv (.t 40))),
Vd [28] (Vg 42 41 true (.fad 4 (.t 2))),
Vd [29] (Vg 43 41 true (.ld none (.t 42))),
Vd [30] (Vg 44 41 true (.bin .eq (.t 43) (.k (.c (.i 0))))),
Vd [31] (Vg 45 41 true (.mv (.t 44))),
Vd [32] (Vg 46 45 false (.fad 0 (.t 2))),
Vd [33] (Vg 47 45 false (.ld none (.t 46))),
Vd [34] (Vg 48 45 false (.call 99 [(.t 47),(.k (.c (.y 78)))])),
Vd [35] (Vg 49 41 true (.pick (.t 45) (.k (.c (.b true))) (.t 48))),
Vd [36] (V 50 (.pick (.t 41) (.t 49) (.k (.c (.b false))))),
Vd [37] (V 4 (.mv (.t 50)))]) (.ret)))
def vf75 : VF := ⟨vf75c,vf75v,[(4,none)]⟩
theorem ok75 : chkF Tryz.prog Tryz.f75 vf75 = true := by kernel_rfl
theorem dr75 : drawsB vf75.body = true := by kernel_rfl
/-- loop.example/g00192/spec.l1In -/
def vf76v : List Nat := [0,1,2,6]
def vf76c : VC := .seq (.rg [V 6 (.mv (.k (.c (.b false))))]) (.seq (.rg [V 7 (.mv (.t 0)),
V 8 (.mv (.t 1)),
V 9 (.bin .ge (.t 7) (.t 8)),
V 10 (.mv (.t 9)),
Vg 11 10 true (.mv (.t 0)),
Vg 12 10 true (.mv (.t 2)),
Vg 13 10 true (.bin .le (.t 11) (.t 12)),
V 14 (.pick (.t 10) (.t 13) (.k (.c (.b false)))),
V 6 (.mv (.t 14))]) (.ret))
def vf76 : VF := ⟨vf76c,vf76v,[(6,none)]⟩
theorem ok76 : chkF Tryz.prog Tryz.f76 vf76 = true := by kernel_rfl
theorem dr76 : drawsB vf76.body = true := by kernel_rfl
/-- loop.example/g00192/spec.l2Term -/
def vf77v : List Nat := [0,1,2,3,6,7,8,9,25,26,39,48]
def vf77c : VC := .seq (.rg [V 3 (.box (.t 0)),
V 6 (.mv (.k (.c (.b false))))]) (.seq (.rg [V 10 (.fad 2 (.t 3)),
V 11 (.ld none (.t 10)),
V 12 (.mv (.t 1)),
V 13 (.bin .sub (.t 12) (.k (.c (.i 1)))),
V 14 (.call 76 [(.t 11),(.k (.c (.i 0))),(.t 13)]),
V 7 (.mv (.t 14))]) (.seq (.rg [V 15 (.fad 3 (.t 3)),
V 16 (.ld none (.t 15)),
V 17 (.mv (.t 1)),
V 18 (.bin .sub (.t 17) (.k (.c (.i 1)))),
V 19 (.call 76 [(.t 16),(.k (.c (.i 0))),(.t 18)]),
V 8 (.mv (.t 19))]) (.seq (.rg [V 20 (.fad 1 (.t 3)),
V 21 (.ld none (.t 20)),
V 22 (.mv (.t 2)),
V 23 (.call 145 [(.t 21),(.t 22)]),
V 9 (.mv (.t 23))]) (.seq (.seq (.rg [V 24 (.fad 0 (.t 3)),
V 25 (.ld none (.t 24))]) (.block 0 (.seq (.rg [V 27 (.bin .eq (.t 25) (.k (.c (.i 1)))),
V 26 (.mv (.t 27))]) (.cond (.t 26) (.seq (.rg [V 28 (.mv (.t 7)),
V 29 (.mv (.t 28)),
Vg 30 29 true (.fad 1 (.t 3)),
Vg 31 29 true (.ld none (.t 30)),
Vg 32 29 true (.bin .eq (.t 31) (.k (.c (.i 0)))),
V 33 (.pick (.t 29) (.t 32) (.k (.c (.b false)))),
V 34 (.mv (.t 33)),
Vg 35 34 true (.fad 3 (.t 3)),
Vg 36 34 true (.ld none (.t 35)),
Vg 37 34 true (.bin .eq (.t 36) (.k (.c (.i 0)))),
V 38 (.pick (.t 34) (.t 37) (.k (.c (.b false)))),
V 6 (.mv (.t 38))]) (.ret)) (.seq (.rg [V 40 (.bin .eq (.t 25) (.k (.c (.i 2)))),
V 39 (.mv (.t 40))]) (.cond (.t 39) (.seq (.rg [V 41 (.mv (.t 7)),
V 42 (.mv (.t 41)),
Vg 43 42 true (.mv (.t 8)),
V 44 (.pick (.t 42) (.t 43) (.k (.c (.b false)))),
V 45 (.mv (.t 44)),
Vg 46 45 true (.mv (.t 9)),
V 47 (.pick (.t 45) (.t 46) (.k (.c (.b false)))),
V 6 (.mv (.t 47))]) (.ret)) (.seq (.rg [V 49 (.bin .eq (.t 25) (.k (.c (.i 3)))),
V 48 (.mv (.t 49))]) (.cond (.t 48) (.seq (.rg [V 50 (.mv (.t 9)),
V 51 (.mv (.t 50)),
Vg 52 51 true (.fad 2 (.t 3)),
Vg 53 51 true (.ld none (.t 52)),
Vg 54 51 true (.bin .eq (.t 53) (.k (.c (.i 0)))),
V 55 (.pick (.t 51) (.t 54) (.k (.c (.b false)))),
V 56 (.mv (.t 55)),
Vg 57 56 true (.fad 3 (.t 3)),
Vg 58 56 true (.ld none (.t 57)),
Vg 59 56 true (.bin .eq (.t 58) (.k (.c (.i 0)))),
V 60 (.pick (.t 56) (.t 59) (.k (.c (.b false)))),
V 6 (.mv (.t 60))]) (.ret)) (.skip))))))))) (.seq (.rg [V 6 (.mv (.k (.c (.b false))))]) (.ret))))))
def vf77 : VF := ⟨vf77c,vf77v,[(6,none)]⟩
theorem ok77 : chkF Tryz.prog Tryz.f77 vf77 = true := by kernel_rfl
theorem dr77 : drawsB vf77.body = true := by kernel_rfl
/-- loop.example/g00192/spec.l2Phi -/
def vf78v : List Nat := [0,1,2,3,6,7,8,19,24,47,50,65]
def vf78b0 : VC := .seq (.seq (.rg [V 48 (.mv (.t 8)),
V 49 (.mv (.t 7)),
V 50 (.bin .lt (.t 48) (.t 49))]) (.cond (.t 50) (.skip) (.exit 2))) (.seq (.block 3 (.seq (.rd [V 53 (.fad 1 (.t 3)),
Vd [0] (V 54 (.ld none (.t 53))),
V 55 (.mv (.t 8)),
Vd [1,2] (V 56 (.idx 2 (.t 54) (.t 55))),
Vd [3] (V 57 (.fad 0 (.t 56))),
Vd [4] (V 58 (.ld none (.t 57))),
V 59 (.fad 1 (.t 3)),
Vd [6] (V 60 (.ld none (.t 59))),
V 61 (.mv (.t 7)),
Vd [7,8] (V 62 (.idx 2 (.t 60) (.t 61))),
Vd [9] (V 63 (.fad 0 (.t 62))),
Vd [10] (V 64 (.ld none (.t 63))),
Vd [5,11] (V 65 (.bin .eq (.t 58) (.t 64)))]) (.cond (.t 65) (.seq (.rg [V 6 (.mv (.k (.c (.b false))))]) (.ret)) (.skip)))) (.rg [V 51 (.mv (.t 8)),
V 52 (.bin .add (.t 51) (.k (.c (.i 1)))),
V 8 (.mv (.t 52))]))
def vf78b1 : VC := .seq (.seq (.rg [V 20 (.mv (.t 7)),
V 21 (.fad 1 (.t 3)),
V 22 (.ld none (.t 21)),
V 23 (.len (.t 22)),
V 24 (.bin .lt (.t 20) (.t 23))]) (.cond (.t 24) (.skip) (.exit 0))) (.seq (.block 1 (.seq (.seq (.rg [V 27 (.fad 1 (.t 3)),
V 28 (.ld none (.t 27)),
V 29 (.mv (.t 7)),
V 30 (.idx 2 (.t 28) (.t 29)),
V 31 (.fad 0 (.t 30)),
V 32 (.ld none (.t 31)),
V 33 (.mv (.t 1)),
V 34 (.bin .sub (.t 33) (.k (.c (.i 1)))),
V 35 (.call 76 [(.t 32),(.k (.c (.i 0))),(.t 34)]),
V 36 (.not (.t 35)),
V 37 (.mv (.t 36)),
Vg 38 37 false (.fad 1 (.t 3)),
Vg 39 37 false (.ld none (.t 38)),
Vg 40 37 false (.mv (.t 7)),
Vg 41 37 false (.idx 2 (.t 39) (.t 40)),
Vg 42 37 false (.fad 1 (.t 41)),
Vg 43 37 false (.ld none (.t 42)),
Vg 44 37 false (.mv (.t 2)),
Vg 45 37 false (.call 145 [(.t 43),(.t 44)]),
Vg 46 37 false (.not (.t 45)),
V 47 (.pick (.t 37) (.k (.c (.b true))) (.t 46))]) (.cond (.t 47) (.seq (.rg [V 6 (.mv (.k (.c (.b false))))]) (.ret)) (.skip))) (.seq (.rg [V 8 (.mv (.k (.c (.i 0))))]) (.block 2 (.loop vf78b0))))) (.rg [V 25 (.mv (.t 7)),
V 26 (.bin .add (.t 25) (.k (.c (.i 1)))),
V 7 (.mv (.t 26))]))
def vf78c : VC := .seq (.rg [V 3 (.box (.t 0)),
V 6 (.mv (.k (.c (.b false))))]) (.seq (.seq (.rg [V 9 (.fad 0 (.t 3)),
V 10 (.ld none (.t 9)),
V 11 (.mv (.t 2)),
V 12 (.call 145 [(.t 10),(.t 11)]),
V 13 (.not (.t 12)),
V 14 (.mv (.t 13)),
Vg 15 14 false (.fad 1 (.t 3)),
Vg 16 14 false (.ld none (.t 15)),
Vg 17 14 false (.len (.t 16)),
Vg 18 14 false (.bin .gt (.t 17) (.k (.c (.i 16)))),
V 19 (.pick (.t 14) (.k (.c (.b true))) (.t 18))]) (.cond (.t 19) (.seq (.rg [V 6 (.mv (.k (.c (.b false))))]) (.ret)) (.skip))) (.seq (.seq (.rg [V 7 (.mv (.k (.c (.i 0))))]) (.block 0 (.loop vf78b1))) (.seq (.rg [V 6 (.mv (.k (.c (.b true))))]) (.ret))))
def vf78 : VF := ⟨vf78c,vf78v,[(6,none)]⟩
theorem ok78 : chkF Tryz.prog Tryz.f78 vf78 = true := by kernel_rfl
theorem dr78 : drawsB vf78.body = true := by kernel_rfl
/-- loop.example/g00192/spec.l2Ins -/
def vf79v : List Nat := [0,1,2,4,5,6,7,20,36,51,74,92,112]
def vf79c : VC := .seq (.rg [V 2 (.box (.t 0)),
V 4 (.mv (.k (.c (.b false))))]) (.seq (.rg [V 8 (.fad 1 (.t 2)),
V 9 (.ld none (.t 8)),
V 10 (.mv (.t 1)),
V 11 (.call 145 [(.t 9),(.t 10)]),
V 5 (.mv (.t 11))]) (.seq (.rg [V 12 (.fad 2 (.t 2)),
V 13 (.ld none (.t 12)),
V 14 (.mv (.t 1)),
V 15 (.call 145 [(.t 13),(.t 14)]),
V 6 (.mv (.t 15))]) (.seq (.rg [V 16 (.fad 3 (.t 2)),
V 17 (.ld none (.t 16)),
V 18 (.mv (.t 1)),
V 19 (.call 145 [(.t 17),(.t 18)]),
V 7 (.mv (.t 19))]) (.seq (.block 0 (.seq (.rg [V 21 (.fad 0 (.t 2)),
V 22 (.ld none (.t 21)),
V 23 (.call 116 [(.t 22)]),
V 20 (.mv (.t 23))]) (.cond (.t 20) (.seq (.rg [V 24 (.mv (.t 5)),
V 25 (.mv (.t 24)),
Vg 26 25 true (.mv (.t 6)),
V 27 (.pick (.t 25) (.t 26) (.k (.c (.b false)))),
V 28 (.mv (.t 27)),
Vg 29 28 true (.mv (.t 7)),
V 30 (.pick (.t 28) (.t 29) (.k (.c (.b false)))),
V 31 (.mv (.t 30)),
Vg 32 31 true (.fad 4 (.t 2)),
Vg 33 31 true (.ld none (.t 32)),
Vg 34 31 true (.bin .eq (.t 33) (.k (.c (.i 0)))),
V 35 (.pick (.t 31) (.t 34) (.k (.c (.b false)))),
V 4 (.mv (.t 35))]) (.ret)) (.seq (.rg [V 37 (.fad 0 (.t 2)),
V 38 (.ld none (.t 37)),
V 39 (.bin .eq (.t 38) (.k (.c (.i 20)))),
V 36 (.mv (.t 39))]) (.cond (.t 36) (.seq (.rg [V 40 (.mv (.t 5)),
V 41 (.mv (.t 40)),
Vg 42 41 true (.fad 2 (.t 2)),
Vg 43 41 true (.ld none (.t 42)),
Vg 44 41 true (.bin .eq (.t 43) (.k (.c (.i 0)))),
V 45 (.pick (.t 41) (.t 44) (.k (.c (.b false)))),
V 46 (.mv (.t 45)),
Vg 47 46 true (.fad 3 (.t 2)),
Vg 48 46 true (.ld none (.t 47)),
Vg 49 46 true (.bin .eq (.t 48) (.k (.c (.i 0)))),
V 50 (.pick (.t 46) (.t 49) (.k (.c (.b false)))),
V 4 (.mv (.t 50))]) (.ret)) (.seq (.rg [V 52 (.fad 0 (.t 2)),
V 53 (.ld none (.t 52)),
V 54 (.bin .eq (.t 53) (.k (.c (.i 21)))),
V 55 (.mv (.t 54)),
Vg 56 55 false (.fad 0 (.t 2)),
Vg 57 55 false (.ld none (.t 56)),
Vg 58 55 false (.bin .eq (.t 57) (.k (.c (.i 25)))),
V 59 (.pick (.t 55) (.k (.c (.b true))) (.t 58)),
V 51 (.mv (.t 59))]) (.cond (.t 51) (.seq (.rg [V 60 (.mv (.t 5)),
V 61 (.mv (.t 60)),
Vg 62 61 true (.mv (.t 6)),
V 63 (.pick (.t 61) (.t 62) (.k (.c (.b false)))),
V 64 (.mv (.t 63)),
Vg 65 64 true (.fad 3 (.t 2)),
Vg 66 64 true (.ld none (.t 65)),
Vg 67 64 true (.bin .eq (.t 66) (.k (.c (.i 0)))),
V 68 (.pick (.t 64) (.t 67) (.k (.c (.b false)))),
V 69 (.mv (.t 68)),
Vg 70 69 true (.fad 4 (.t 2)),
Vg 71 69 true (.ld none (.t 70)),
Vg 72 69 true (.bin .eq (.t 71) (.k (.c (.i 0)))),
V 73 (.pick (.t 69) (.t 72) (.k (.c (.b false)))),
V 4 (.mv (.t 73))]) (.ret)) (.seq (.rg [V 75 (.fad 0 (.t 2)),
V 76 (.ld none (.t 75)),
V 77 (.bin .eq (.t 76) (.k (.c (.i 22)))),
V 74 (.mv (.t 77))]) (.cond (.t 74) (.seq (.rg [V 78 (.mv (.t 6)),
V 79 (.mv (.t 78)),
Vg 80 79 true (.mv (.t 7)),
V 81 (.pick (.t 79) (.t 80) (.k (.c (.b false)))),
V 82 (.mv (.t 81)),
Vg 83 82 true (.fad 1 (.t 2)),
Vg 84 82 true (.ld none (.t 83)),
Vg 85 82 true (.bin .eq (.t 84) (.k (.c (.i 0)))),
V 86 (.pick (.t 82) (.t 85) (.k (.c (.b false)))),
V 87 (.mv (.t 86)),
Vg 88 87 true (.fad 4 (.t 2)),
Vg 89 87 true (.ld none (.t 88)),
Vg 90 87 true (.bin .eq (.t 89) (.k (.c (.i 0)))),
V 91 (.pick (.t 87) (.t 90) (.k (.c (.b false)))),
V 4 (.mv (.t 91))]) (.ret)) (.seq (.rg [V 93 (.fad 0 (.t 2)),
V 94 (.ld none (.t 93)),
V 95 (.bin .eq (.t 94) (.k (.c (.i 23)))),
V 92 (.mv (.t 95))]) (.cond (.t 92) (.seq (.rg [V 96 (.mv (.t 6)),
V 97 (.mv (.t 96)),
Vg 98 97 true (.fad 1 (.t 2)),
Vg 99 97 true (.ld none (.t 98)),
Vg 100 97 true (.bin .eq (.t 99) (.k (.c (.i 0)))),
V 101 (.pick (.t 97) (.t 100) (.k (.c (.b false)))),
V 102 (.mv (.t 101)),
Vg 103 102 true (.fad 3 (.t 2)),
Vg 104 102 true (.ld none (.t 103)),
Vg 105 102 true (.bin .eq (.t 104) (.k (.c (.i 0)))),
V 106 (.pick (.t 102) (.t 105) (.k (.c (.b false)))),
V 107 (.mv (.t 106)),
Vg 108 107 true (.fad 4 (.t 2)),
Vg 109 107 true (.ld none (.t 108)),
Vg 110 107 true (.bin .eq (.t 109) (.k (.c (.i 0)))),
V 111 (.pick (.t 107) (.t 110) (.k (.c (.b false)))),
V 4 (.mv (.t 111))]) (.ret)) (.seq (.rg [V 113 (.fad 0 (.t 2)),
V 114 (.ld none (.t 113)),
V 115 (.bin .eq (.t 114) (.k (.c (.i 24)))),
V 112 (.mv (.t 115))]) (.cond (.t 112) (.seq (.rg [V 116 (.mv (.t 5)),
V 117 (.mv (.t 116)),
Vg 118 117 true (.fad 2 (.t 2)),
Vg 119 117 true (.ld none (.t 118)),
Vg 120 117 true (.bin .eq (.t 119) (.k (.c (.i 0)))),
V 121 (.pick (.t 117) (.t 120) (.k (.c (.b false)))),
V 122 (.mv (.t 121)),
Vg 123 122 true (.fad 3 (.t 2)),
Vg 124 122 true (.ld none (.t 123)),
Vg 125 122 true (.bin .eq (.t 124) (.k (.c (.i 0)))),
V 126 (.pick (.t 122) (.t 125) (.k (.c (.b false)))),
V 127 (.mv (.t 126)),
Vg 128 127 true (.fad 4 (.t 2)),
Vg 129 127 true (.ld none (.t 128)),
Vg 130 127 true (.bin .eq (.t 129) (.k (.c (.i 0)))),
V 131 (.pick (.t 127) (.t 130) (.k (.c (.b false)))),
V 4 (.mv (.t 131))]) (.ret)) (.skip)))))))))))))) (.seq (.rg [V 4 (.mv (.k (.c (.b false))))]) (.ret))))))
def vf79 : VF := ⟨vf79c,vf79v,[(4,none)]⟩
theorem ok79 : chkF Tryz.prog Tryz.f79 vf79 = true := by kernel_rfl
theorem dr79 : drawsB vf79.body = true := by kernel_rfl
/-- loop.example/g00192/impl.order -/
def vf81v : List Nat := [0,1,2,3,4,5]
def vf81c : VC := .seq (.rg [V 1 (.box (.t 0)),
V 2 (.mv (.k (.c .ns))),
V 3 (.mv (.k (.c .ns)))]) (.seq (.rg [V 6 (.fad 0 (.t 1)),
V 7 (.ld none (.t 6)),
V 8 (.len (.t 7)),
V 9 (.mks 1 [.b false] (.t 8)),
V 4 (.mv (.t 9))]) (.seq (.rg [V 10 (.ld (some 2) (.t 1)),
V 11 (.mv (.t 4)),
V 12 (.call 147 [(.t 10),(.k (.c (.i 0))),(.t 11),(.k (.c .ns))]),
V 5 (.mv (.t 12))]) (.seq (.rg [V 13 (.mv (.t 5)),
V 14 (.call 148 [(.t 13)])]) (.seq (.rg [V 15 (.mv (.t 5)),
V 16 (.mv (.t 4)),
V 2 (.mv (.t 15)),
V 3 (.mv (.t 16))]) (.ret)))))
def vf81 : VF := ⟨vf81c,vf81v,[(2,none),(3,none)]⟩
theorem ok81 : chkF Tryz.prog Tryz.f81 vf81 = true := by kernel_rfl
theorem dr81 : drawsB vf81.body = true := by kernel_rfl
/-- loop.example/g00192/impl.reachedWithout -/
def vf82v : List Nat := [0,1,2,4,5,11]
def vf82c : VC := .seq (.rg [V 2 (.box (.t 0)),
V 4 (.mv (.k (.c .ns)))]) (.seq (.rg [V 6 (.fad 0 (.t 2)),
V 7 (.ld none (.t 6)),
V 8 (.len (.t 7)),
V 9 (.mks 1 [.b false] (.t 8)),
V 5 (.mv (.t 9))]) (.seq (.seq (.rg [V 10 (.mv (.t 1)),
V 11 (.bin .eq (.t 10) (.k (.c (.i 0))))]) (.cond (.t 11) (.seq (.rg [V 12 (.mv (.t 5)),
V 4 (.mv (.t 12))]) (.ret)) (.skip))) (.seq (.rg [V 13 (.mv (.t 5)),
V 14 (.mv (.t 1)),
V 15 (.idx 1 (.t 13) (.t 14)),
Vn (.st 1 (.t 15) (.k (.c (.b true))))]) (.seq (.rg [V 16 (.ld (some 2) (.t 2)),
V 17 (.mv (.t 5)),
V 18 (.call 147 [(.t 16),(.k (.c (.i 0))),(.t 17),(.k (.c .ns))])]) (.seq (.rg [V 19 (.mv (.t 5)),
V 20 (.mv (.t 1)),
V 21 (.idx 1 (.t 19) (.t 20)),
Vn (.st 1 (.t 21) (.k (.c (.b false))))]) (.seq (.rg [V 22 (.mv (.t 5)),
V 4 (.mv (.t 22))]) (.ret)))))))
def vf82 : VF := ⟨vf82c,vf82v,[(4,none)]⟩
theorem ok82 : chkF Tryz.prog Tryz.f82 vf82 = true := by kernel_rfl
theorem dr82 : drawsB vf82.body = true := by kernel_rfl
/-- loop.example/g00192/impl.succs -/
def vf83v : List Nat := [0,1,2,4,5,12,31]
def vf83c : VC := .seq (.rg [V 2 (.box (.t 0)),
V 4 (.mv (.k (.c .ns)))]) (.seq (.rg [V 6 (.fad 0 (.t 2)),
V 7 (.ld none (.t 6)),
V 8 (.mv (.t 1)),
V 9 (.idx 6 (.t 7) (.t 8)),
V 10 (.fad 2 (.t 9)),
V 11 (.ld (some 4) (.t 10)),
V 5 (.alloc [.i 0,.i 0,.i 0,.i 0]),
Vn (.st 4 (.t 5) (.t 11))]) (.seq (.block 0 (.seq (.rg [V 13 (.fad 0 (.t 5)),
V 14 (.ld none (.t 13)),
V 15 (.bin .eq (.t 14) (.k (.c (.i 1)))),
V 16 (.mv (.t 15)),
Vg 17 16 false (.fad 0 (.t 5)),
Vg 18 16 false (.ld none (.t 17)),
Vg 19 16 false (.bin .eq (.t 18) (.k (.c (.i 2)))),
Vg 20 16 false (.mv (.t 19)),
Vg 21 20 true (.fad 2 (.t 5)),
Vg 22 20 true (.ld none (.t 21)),
Vg 23 20 true (.fad 3 (.t 5)),
Vg 24 20 true (.ld none (.t 23)),
Vg 25 20 true (.bin .eq (.t 22) (.t 24)),
Vg 26 16 false (.pick (.t 20) (.t 25) (.k (.c (.b false)))),
V 27 (.pick (.t 16) (.k (.c (.b true))) (.t 26)),
V 12 (.mv (.t 27))]) (.cond (.t 12) (.seq (.rg [V 28 (.fad 2 (.t 5)),
V 29 (.ld none (.t 28)),
V 30 (.bsl 1 [.i 0] 1 [(0,1,(.t 29))]),
V 4 (.mv (.t 30))]) (.ret)) (.seq (.rg [V 32 (.fad 0 (.t 5)),
V 33 (.ld none (.t 32)),
V 34 (.bin .eq (.t 33) (.k (.c (.i 2)))),
V 31 (.mv (.t 34))]) (.cond (.t 31) (.seq (.rg [V 35 (.fad 2 (.t 5)),
V 36 (.ld none (.t 35)),
V 37 (.fad 3 (.t 5)),
V 38 (.ld none (.t 37)),
V 39 (.bsl 1 [.i 0] 2 [(0,1,(.t 36)),(1,1,(.t 38))]),
V 4 (.mv (.t 39))]) (.ret)) (.skip)))))) (.seq (.rg [V 4 (.mv (.k (.c .ns)))]) (.ret))))
def vf83 : VF := ⟨vf83c,vf83v,[(4,none)]⟩
theorem ok83 : chkF Tryz.prog Tryz.f83 vf83 = true := by kernel_rfl
theorem dr83 : drawsB vf83.body = true := by kernel_rfl
/-- loop.example/g00192/impl.preds -/
def vf84v : List Nat := [0,1,2,4,5,6,10,11,12,18]
def vf84b0 : VC := .seq (.rg [V 12 (.bin .lt (.t 11) (.t 10))]) (.seq (.cond (.t 12) (.skip) (.exit 0)) (.seq (.block 1 (.seq (.rg [V 13 (.mv (.t 11)),
V 6 (.mv (.t 13))]) (.seq (.rg [V 14 (.ld (some 2) (.t 2)),
V 15 (.mv (.t 6)),
V 16 (.call 83 [(.t 14),(.t 15)]),
V 17 (.mv (.t 1)),
V 18 (.call 149 [(.t 16),(.t 17)])]) (.cond (.t 18) (.rg [V 19 (.mv (.t 5)),
V 20 (.mv (.t 6)),
V 21 (.bsl 1 [.i 0] 1 [(0,1,(.t 20))]),
V 22 (.app 1 (.t 19) (.t 21)),
V 5 (.mv (.t 22))]) (.skip))))) (.rg [V 23 (.bin .add (.t 11) (.k (.c (.i 1)))),
V 11 (.mv (.t 23))])))
def vf84c : VC := .seq (.rg [V 2 (.box (.t 0)),
V 4 (.mv (.k (.c .ns)))]) (.seq (.rg [V 7 (.bsl 1 [.i 0] 0 []),
V 5 (.mv (.t 7))]) (.seq (.seq (.rg [V 8 (.fad 0 (.t 2)),
V 9 (.ld none (.t 8)),
V 10 (.len (.t 9)),
V 11 (.mv (.k (.c (.i 0))))]) (.block 0 (.loop vf84b0))) (.seq (.rg [V 24 (.mv (.t 5)),
V 4 (.mv (.t 24))]) (.ret))))
def vf84 : VF := ⟨vf84c,vf84v,[(4,none)]⟩
theorem ok84 : chkF Tryz.prog Tryz.f84 vf84 = true := by kernel_rfl
theorem dr84 : drawsB vf84.body = true := by kernel_rfl
/-- loop.example/g00192/impl.copies -/
def vf85v : List Nat := [0,1,2]
def vf85c : VC := .seq (.rg [V 1 (.box (.t 0)),
V 2 (.mv (.k (.c (.b false))))]) (.seq (.rg [V 3 (.fad 0 (.t 1)),
V 4 (.ld none (.t 3)),
V 5 (.call 67 [(.t 4),(.k (.f 150 []))]),
V 2 (.mv (.t 5))]) (.ret))
def vf85 : VF := ⟨vf85c,vf85v,[(2,none)]⟩
theorem ok85 : chkF Tryz.prog Tryz.f85 vf85 = true := by kernel_rfl
theorem dr85 : drawsB vf85.body = true := by kernel_rfl
/-- slices.Containsboolbool -/
def vf86v : List Nat := [0,1,4]
def vf86c : VC := .seq (.rg [V 4 (.mv (.k (.c (.b false))))]) (.seq (.rg [V 5 (.mv (.t 0)),
V 6 (.mv (.t 1)),
V 7 (.call 152 [(.t 5),(.t 6)]),
V 8 (.bin .ge (.t 7) (.k (.c (.i 0)))),
V 4 (.mv (.t 8))]) (.ret))
def vf86 : VF := ⟨vf86c,vf86v,[(4,none)]⟩
theorem ok86 : chkF Tryz.prog Tryz.f86 vf86 = true := by kernel_rfl
theorem dr86 : drawsB vf86.body = true := by kernel_rfl
/-- loop.example/g00192/impl.armsWrong -/
def vf87v : List Nat := [0,1,2,3,4,5,7,8,10,12,13,14,15,23,24,25,26,31,32,33,34,48]
def vf87b0 : VC := .seq (.rg [V 34 (.bin .lt (.t 33) (.t 32))]) (.seq (.cond (.t 34) (.skip) (.exit 4)) (.seq (.block 5 (.seq (.rg [V 35 (.idx 2 (.t 31) (.t 33)),
V 36 (.ld (some 2) (.t 35)),
V 10 (.alloc [.i 0,.i 0]),
Vn (.st 2 (.t 10) (.t 36))]) (.rg [V 37 (.mv (.t 8)),
V 38 (.fad 0 (.t 10)),
V 39 (.ld none (.t 38)),
V 40 (.bsl 1 [.i 0] 1 [(0,1,(.t 39))]),
V 41 (.app 1 (.t 37) (.t 40)),
V 8 (.mv (.t 41))]))) (.rg [V 42 (.bin .add (.t 33) (.k (.c (.i 1)))),
V 33 (.mv (.t 42))])))
def vf87b1 : VC := .seq (.rg [V 26 (.bin .lt (.t 25) (.t 24))]) (.seq (.cond (.t 26) (.skip) (.exit 2)) (.seq (.block 3 (.seq (.rg [V 27 (.idx 2 (.t 23) (.t 25)),
V 28 (.ld (some 2) (.t 27)),
V 7 (.alloc [.i 0,.ns]),
Vn (.st 2 (.t 7) (.t 28))]) (.seq (.rg [V 29 (.bsl 1 [.i 0] 0 []),
V 8 (.mv (.t 29))]) (.seq (.seq (.rg [V 30 (.fad 1 (.t 7)),
V 31 (.ld none (.t 30)),
V 32 (.len (.t 31)),
V 33 (.mv (.k (.c (.i 0))))]) (.block 4 (.loop vf87b0))) (.seq (.rg [V 43 (.mv (.t 8)),
V 44 (.call 132 [(.t 43)])]) (.seq (.rg [V 45 (.mv (.t 8)),
V 46 (.mv (.t 5)),
V 47 (.call 153 [(.t 45),(.t 46)]),
V 48 (.not (.t 47))]) (.cond (.t 48) (.seq (.rg [V 2 (.mv (.k (.c (.b true))))]) (.ret)) (.skip)))))))) (.rg [V 49 (.bin .add (.t 25) (.k (.c (.i 1)))),
V 25 (.mv (.t 49))])))
def vf87b2 : VC := .seq (.rg [V 15 (.bin .lt (.t 14) (.t 13))]) (.seq (.cond (.t 15) (.skip) (.exit 0)) (.seq (.block 1 (.seq (.rg [V 16 (.mv (.t 14)),
V 17 (.idx 6 (.t 12) (.t 14)),
V 18 (.ld (some 6) (.t 17)),
V 4 (.alloc [.ns,.ns,.i 0,.i 0,.i 0,.i 0]),
V 3 (.mv (.t 16)),
Vn (.st 6 (.t 4) (.t 18))]) (.seq (.rg [V 19 (.ld (some 2) (.t 1)),
V 20 (.mv (.t 3)),
V 21 (.call 84 [(.t 19),(.t 20)]),
V 5 (.mv (.t 21))]) (.seq (.rg [V 22 (.fad 0 (.t 4)),
V 23 (.ld none (.t 22)),
V 24 (.len (.t 23)),
V 25 (.mv (.k (.c (.i 0))))]) (.block 2 (.loop vf87b1)))))) (.rg [V 50 (.bin .add (.t 14) (.k (.c (.i 1)))),
V 14 (.mv (.t 50))])))
def vf87c : VC := .seq (.rg [V 1 (.box (.t 0)),
V 2 (.mv (.k (.c (.b false))))]) (.seq (.seq (.rg [V 11 (.fad 0 (.t 1)),
V 12 (.ld none (.t 11)),
V 13 (.len (.t 12)),
V 14 (.mv (.k (.c (.i 0))))]) (.block 0 (.loop vf87b2))) (.seq (.rg [V 2 (.mv (.k (.c (.b false))))]) (.ret)))
def vf87 : VF := ⟨vf87c,vf87v,[(2,none)]⟩
theorem ok87 : chkF Tryz.prog Tryz.f87 vf87 = true := by kernel_rfl
theorem dr87 : drawsB vf87.body = true := by kernel_rfl
/-- slices.ContainsFuncintint -/
def vf88v : List Nat := [0,1,4]
def vf88c : VC := .seq (.rg [V 4 (.mv (.k (.c (.b false))))]) (.seq (.rg [V 5 (.mv (.t 0)),
V 6 (.mv (.t 1)),
V 7 (.call 154 [(.t 5),(.t 6)]),
V 8 (.bin .ge (.t 7) (.k (.c (.i 0)))),
V 4 (.mv (.t 8))]) (.ret))
def vf88 : VF := ⟨vf88c,vf88v,[(4,none)]⟩
theorem ok88 : chkF Tryz.prog Tryz.f88 vf88 = true := by kernel_rfl
theorem dr88 : drawsB vf88.body = true := by kernel_rfl
/-- loop.example/g00192/impl.made -/
def vf89v : List Nat := [0,1,2,3,5,7,9,10,15,16,17,18,22,23,24,25,37,38,39,40,46]
def vf89b0 : VC := .seq (.rg [V 25 (.bin .lt (.t 24) (.t 23))]) (.seq (.cond (.t 25) (.skip) (.exit 2)) (.seq (.block 3 (.seq (.rg [V 26 (.idx 2 (.t 22) (.t 24)),
V 27 (.ld (some 2) (.t 26)),
V 7 (.alloc [.i 0,.ns]),
Vn (.st 2 (.t 7) (.t 27))]) (.rg [V 28 (.mv (.t 3)),
V 29 (.fad 0 (.t 7)),
V 30 (.ld none (.t 29)),
V 31 (.idx 1 (.t 28) (.t 30)),
V 32 (.ld none (.t 31)),
V 33 (.bin .add (.t 32) (.k (.c (.i 1)))),
V 34 (.idx 1 (.t 28) (.t 30)),
Vn (.st 1 (.t 34) (.t 33))]))) (.rg [V 35 (.bin .add (.t 24) (.k (.c (.i 1)))),
V 24 (.mv (.t 35))])))
def vf89b1 : VC := .seq (.rg [V 40 (.bin .lt (.t 39) (.t 38))]) (.seq (.cond (.t 40) (.skip) (.exit 4)) (.seq (.block 5 (.seq (.rg [V 41 (.idx 5 (.t 37) (.t 39)),
V 42 (.ld (some 5) (.t 41)),
V 9 (.alloc [.i 0,.i 0,.i 0,.i 0,.i 0]),
Vn (.st 5 (.t 9) (.t 42))]) (.seq (.rg [V 43 (.ld (some 5) (.t 9)),
V 44 (.call 33 [(.t 43)]),
V 10 (.mv (.t 44))]) (.seq (.rg [V 45 (.mv (.t 10)),
V 46 (.bin .ge (.t 45) (.k (.c (.i 0))))]) (.cond (.t 46) (.rg [V 47 (.mv (.t 3)),
V 48 (.mv (.t 10)),
V 49 (.idx 1 (.t 47) (.t 48)),
V 50 (.ld none (.t 49)),
V 51 (.bin .add (.t 50) (.k (.c (.i 1)))),
V 52 (.idx 1 (.t 47) (.t 48)),
Vn (.st 1 (.t 52) (.t 51))]) (.skip)))))) (.rg [V 53 (.bin .add (.t 39) (.k (.c (.i 1)))),
V 39 (.mv (.t 53))])))
def vf89b2 : VC := .seq (.rg [V 18 (.bin .lt (.t 17) (.t 16))]) (.seq (.cond (.t 18) (.skip) (.exit 0)) (.seq (.block 1 (.seq (.rg [V 19 (.idx 6 (.t 15) (.t 17)),
V 20 (.ld (some 6) (.t 19)),
V 5 (.alloc [.ns,.ns,.i 0,.i 0,.i 0,.i 0]),
Vn (.st 6 (.t 5) (.t 20))]) (.seq (.seq (.rg [V 21 (.fad 0 (.t 5)),
V 22 (.ld none (.t 21)),
V 23 (.len (.t 22)),
V 24 (.mv (.k (.c (.i 0))))]) (.block 2 (.loop vf89b0))) (.seq (.rg [V 36 (.fad 1 (.t 5)),
V 37 (.ld none (.t 36)),
V 38 (.len (.t 37)),
V 39 (.mv (.k (.c (.i 0))))]) (.block 4 (.loop vf89b1)))))) (.rg [V 54 (.bin .add (.t 17) (.k (.c (.i 1)))),
V 17 (.mv (.t 54))])))
def vf89c : VC := .seq (.rg [V 1 (.box (.t 0)),
V 2 (.mv (.k (.c .ns)))]) (.seq (.rg [V 11 (.fad 1 (.t 1)),
V 12 (.ld none (.t 11)),
V 13 (.mks 1 [.i 0] (.t 12)),
V 3 (.mv (.t 13))]) (.seq (.seq (.rg [V 14 (.fad 0 (.t 1)),
V 15 (.ld none (.t 14)),
V 16 (.len (.t 15)),
V 17 (.mv (.k (.c (.i 0))))]) (.block 0 (.loop vf89b2))) (.seq (.rg [V 55 (.mv (.t 3)),
V 2 (.mv (.t 55))]) (.ret))))
def vf89 : VF := ⟨vf89c,vf89v,[(2,none)]⟩
theorem ok89 : chkF Tryz.prog Tryz.f89 vf89 = true := by kernel_rfl
theorem dr89 : drawsB vf89.body = true := by kernel_rfl
/-- loop.example/g00192/impl.Check$1 -/
def vf90v : List Nat := [0,2]
def vf90c : VC := .seq (.rg [V 2 (.mv (.k (.c (.b false))))]) (.seq (.rg [V 3 (.mv (.t 0)),
V 4 (.bin .gt (.t 3) (.k (.c (.i 1)))),
V 2 (.mv (.t 4))]) (.ret))
def vf90 : VF := ⟨vf90c,vf90v,[(2,none)]⟩
theorem ok90 : chkF Tryz.prog Tryz.f90 vf90 = true := by kernel_rfl
theorem dr90 : drawsB vf90.body = true := by kernel_rfl
/-- loop.example/g00192/impl.takenWrong -/
def vf91v : List Nat := [0,1,2,3,4,11,12,13,18]
def vf91r0 : List VO := [V 5 (.ld (some 2) (.t 1)),V 6 (.ld (some 2) (.t 1)),Vd [1] (V 7 (.call 23 [(.t 6)])),Vd [0,2] (V 8 (.build [.ns,.i 0,.ns] [(0,2,(.t 5)),(2,1,(.t 7))])),V 3 (.alloc [.ns,.i 0,.ns]),Vd [3,4] (Vn (.st 3 (.t 3) (.t 8)))]
def vf91t0 : VT := .split 2 4 (.leaf [(0,Vc [] [] true (V 5 (.ld (some 2) (.t 1)))),
(1,Vc [] [] false (V 6 (.ld (some 2) (.t 1)))),
(2,Vc [1] [0] false (V 7 (.call 23 [(.t 6)]))),
(3,Vc [0,2] [] false (V 8 (.build [.ns,.i 0,.ns] [(0,2,(.t 5)),(2,1,(.t 7))]))),
(4,Vc [] [0] false (V 3 (.alloc [.ns,.i 0,.ns]))),
(5,Vc [3,4] [] false (Vn (.st 3 (.t 3) (.t 8))))]) (.leaf [(0,Vc [] [] true (V 5 (.ld (some 2) (.t 1)))),
(1,Vc [] [] true (V 6 (.ld (some 2) (.t 1)))),
(4,Vc [] [0,1] false (V 3 (.alloc [.ns,.i 0,.ns]))),
(2,Vc [1] [0] false (V 7 (.call 23 [(.t 6)]))),
(3,Vc [0,2] [] false (V 8 (.build [.ns,.i 0,.ns] [(0,2,(.t 5)),(2,1,(.t 7))]))),
(5,Vc [3,4] [] false (Vn (.st 3 (.t 3) (.t 8))))])
def vf91b0 : VC := .seq (.rg [V 13 (.bin .lt (.t 12) (.t 11))]) (.seq (.cond (.t 13) (.skip) (.exit 0)) (.seq (.block 1 (.seq (.rg [V 14 (.mv (.t 12)),
V 4 (.mv (.t 14))]) (.seq (.rg [V 15 (.ld (some 3) (.t 3)),
V 16 (.mv (.t 4)),
V 17 (.call 155 [(.t 15),(.t 16)]),
V 18 (.not (.t 17))]) (.cond (.t 18) (.seq (.rg [V 2 (.mv (.k (.c (.b true))))]) (.ret)) (.skip))))) (.rg [V 19 (.bin .add (.t 12) (.k (.c (.i 1)))),
V 12 (.mv (.t 19))])))
def vf91c : VC := .seq (.rg [V 1 (.box (.t 0)),
V 2 (.mv (.k (.c (.b false))))]) (.seq (.rx vf91r0 vf91t0) (.seq (.seq (.rg [V 9 (.fad 0 (.t 1)),
V 10 (.ld none (.t 9)),
V 11 (.len (.t 10)),
V 12 (.mv (.k (.c (.i 0))))]) (.block 0 (.loop vf91b0))) (.seq (.rg [V 2 (.mv (.k (.c (.b false))))]) (.ret))))
def vf91 : VF := ⟨vf91c,vf91v,[(2,none)]⟩
theorem ok91 : chkF Tryz.prog Tryz.f91 vf91 = true := by kernel_rfl
theorem dr91 : drawsB vf91.body = true := by kernel_rfl
/-- loop.example/g00192/spec.l5Copies -/
def vf93v : List Nat := [0,1,2,3,4,9,20,33]
def vf93b0 : VC := .seq (.seq (.rg [V 12 (.mv (.t 4)),
V 13 (.fad 0 (.t 1)),
V 14 (.ld none (.t 13)),
V 15 (.mv (.t 3)),
V 16 (.idx 6 (.t 14) (.t 15)),
V 17 (.fad 1 (.t 16)),
V 18 (.ld none (.t 17)),
V 19 (.len (.t 18)),
V 20 (.bin .lt (.t 12) (.t 19))]) (.cond (.t 20) (.skip) (.exit 2))) (.seq (.block 3 (.seq (.rg [V 23 (.fad 0 (.t 1)),
V 24 (.ld none (.t 23)),
V 25 (.mv (.t 3)),
V 26 (.idx 6 (.t 24) (.t 25)),
V 27 (.fad 1 (.t 26)),
V 28 (.ld none (.t 27)),
V 29 (.mv (.t 4)),
V 30 (.idx 5 (.t 28) (.t 29)),
V 31 (.fad 0 (.t 30)),
V 32 (.ld none (.t 31)),
V 33 (.bin .eq (.t 32) (.k (.c (.i 25))))]) (.cond (.t 33) (.seq (.rg [V 2 (.mv (.k (.c (.b true))))]) (.ret)) (.skip)))) (.rg [V 21 (.mv (.t 4)),
V 22 (.bin .add (.t 21) (.k (.c (.i 1)))),
V 4 (.mv (.t 22))]))
def vf93b1 : VC := .seq (.seq (.rg [V 5 (.mv (.t 3)),
V 6 (.fad 0 (.t 1)),
V 7 (.ld none (.t 6)),
V 8 (.len (.t 7)),
V 9 (.bin .lt (.t 5) (.t 8))]) (.cond (.t 9) (.skip) (.exit 0))) (.seq (.block 1 (.seq (.rg [V 4 (.mv (.k (.c (.i 0))))]) (.block 2 (.loop vf93b0)))) (.rg [V 10 (.mv (.t 3)),
V 11 (.bin .add (.t 10) (.k (.c (.i 1)))),
V 3 (.mv (.t 11))]))
def vf93c : VC := .seq (.rg [V 1 (.box (.t 0)),
V 2 (.mv (.k (.c (.b false))))]) (.seq (.seq (.rg [V 3 (.mv (.k (.c (.i 0))))]) (.block 0 (.loop vf93b1))) (.seq (.rg [V 2 (.mv (.k (.c (.b false))))]) (.ret)))
def vf93 : VF := ⟨vf93c,vf93v,[(2,none)]⟩
theorem ok93 : chkF Tryz.prog Tryz.f93 vf93 = true := by kernel_rfl
theorem dr93 : drawsB vf93.body = true := by kernel_rfl
/-- loop.example/g00192/spec.l3Order -/
def vf94v : List Nat := [0,1,2,3,4,5,18]
def vf94r0 : List VO := [V 6 (.ld (some 2) (.t 1)),V 7 (.fad 0 (.t 1)),Vd [1] (V 8 (.ld none (.t 7))),Vd [2] (V 9 (.len (.t 8))),Vd [3] (V 10 (.mks 1 [.b false] (.t 9))),V 11 (.bsl 1 [.i 0] 0 []),Vd [0,4,5] (V 12 (.call 156 [(.t 6),(.k (.c (.i 0))),(.t 10),(.t 11)])),Vd [6] (V 3 (.mv (.t 12)))]
def vf94t0 : VT := .split 4 5 (.leaf [(0,Vc [] [] true (V 6 (.ld (some 2) (.t 1)))),
(1,Vc [] [] false (V 7 (.fad 0 (.t 1)))),
(2,Vc [1] [] false (V 8 (.ld none (.t 7)))),
(3,Vc [2] [] false (V 9 (.len (.t 8)))),
(4,Vc [3] [0] false (V 10 (.mks 1 [.b false] (.t 9)))),
(5,Vc [] [0] false (V 11 (.bsl 1 [.i 0] 0 []))),
(6,Vc [0,4,5] [] false (V 12 (.call 156 [(.t 6),(.k (.c (.i 0))),(.t 10),(.t 11)]))),
(7,Vc [6] [] false (V 3 (.mv (.t 12))))]) (.leaf [(0,Vc [] [] true (V 6 (.ld (some 2) (.t 1)))),
(1,Vc [] [] false (V 7 (.fad 0 (.t 1)))),
(2,Vc [1] [] true (V 8 (.ld none (.t 7)))),
(3,Vc [2] [] false (V 9 (.len (.t 8)))),
(5,Vc [] [0,2] false (V 11 (.bsl 1 [.i 0] 0 []))),
(4,Vc [3] [0] false (V 10 (.mks 1 [.b false] (.t 9)))),
(6,Vc [0,4,5] [] false (V 12 (.call 156 [(.t 6),(.k (.c (.i 0))),(.t 10),(.t 11)]))),
(7,Vc [6] [] false (V 3 (.mv (.t 12))))])
def vf94b0 : VC := .seq (.seq (.rg [V 17 (.mv (.t 5)),
V 18 (.bin .ge (.t 17) (.k (.c (.i 0))))]) (.cond (.t 18) (.skip) (.exit 0))) (.seq (.block 1 (.rg [V 21 (.mv (.t 4)),
V 22 (.mv (.t 3)),
V 23 (.mv (.t 5)),
V 24 (.idx 1 (.t 22) (.t 23)),
V 25 (.ld none (.t 24)),
V 26 (.bsl 1 [.i 0] 1 [(0,1,(.t 25))]),
V 27 (.app 1 (.t 21) (.t 26)),
V 4 (.mv (.t 27))])) (.rg [V 19 (.mv (.t 5)),
V 20 (.bin .sub (.t 19) (.k (.c (.i 1)))),
V 5 (.mv (.t 20))]))
def vf94c : VC := .seq (.rg [V 1 (.box (.t 0)),
V 2 (.mv (.k (.c .ns)))]) (.seq (.rx vf94r0 vf94t0) (.seq (.rg [V 13 (.bsl 1 [.i 0] 0 []),
V 4 (.mv (.t 13))]) (.seq (.seq (.rg [V 14 (.mv (.t 3)),
V 15 (.len (.t 14)),
V 16 (.bin .sub (.t 15) (.k (.c (.i 1)))),
V 5 (.mv (.t 16))]) (.block 0 (.loop vf94b0))) (.seq (.rg [V 28 (.mv (.t 4)),
V 2 (.mv (.t 28))]) (.ret)))))
def vf94 : VF := ⟨vf94c,vf94v,[(2,none)]⟩
theorem ok94 : chkF Tryz.prog Tryz.f94 vf94 = true := by kernel_rfl
theorem dr94 : drawsB vf94.body = true := by kernel_rfl
/-- loop.example/g00192/spec.l3Preds -/
def vf95v : List Nat := [0,1,2,4,5,6,12,19]
def vf95b0 : VC := .seq (.seq (.rg [V 8 (.mv (.t 6)),
V 9 (.fad 0 (.t 2)),
V 10 (.ld none (.t 9)),
V 11 (.len (.t 10)),
V 12 (.bin .lt (.t 8) (.t 11))]) (.cond (.t 12) (.skip) (.exit 0))) (.seq (.block 1 (.seq (.rg [V 15 (.ld (some 2) (.t 2)),
V 16 (.mv (.t 6)),
V 17 (.call 126 [(.t 15),(.t 16)]),
V 18 (.mv (.t 1)),
V 19 (.call 157 [(.t 17),(.t 18)])]) (.cond (.t 19) (.rg [V 20 (.mv (.t 5)),
V 21 (.mv (.t 6)),
V 22 (.bsl 1 [.i 0] 1 [(0,1,(.t 21))]),
V 23 (.app 1 (.t 20) (.t 22)),
V 5 (.mv (.t 23))]) (.skip)))) (.rg [V 13 (.mv (.t 6)),
V 14 (.bin .add (.t 13) (.k (.c (.i 1)))),
V 6 (.mv (.t 14))]))
def vf95c : VC := .seq (.rg [V 2 (.box (.t 0)),
V 4 (.mv (.k (.c .ns)))]) (.seq (.rg [V 7 (.bsl 1 [.i 0] 0 []),
V 5 (.mv (.t 7))]) (.seq (.seq (.rg [V 6 (.mv (.k (.c (.i 0))))]) (.block 0 (.loop vf95b0))) (.seq (.rg [V 24 (.mv (.t 5)),
V 4 (.mv (.t 24))]) (.ret))))
def vf95 : VF := ⟨vf95c,vf95v,[(4,none)]⟩
theorem ok95 : chkF Tryz.prog Tryz.f95 vf95 = true := by kernel_rfl
theorem dr95 : drawsB vf95.body = true := by kernel_rfl
/-- loop.example/g00192/spec.l5Arms -/
def vf96v : List Nat := [0,1,2,3,4,5,6,7,12,26,43,47,57]
def vf96b0 : VC := .seq (.seq (.rg [V 44 (.mv (.t 7)),
V 45 (.mv (.t 6)),
V 46 (.len (.t 45)),
V 47 (.bin .lt (.t 44) (.t 46))]) (.cond (.t 47) (.skip) (.exit 4))) (.seq (.block 5 (.seq (.rg [V 50 (.mv (.t 4)),
V 51 (.mv (.t 6)),
V 52 (.mv (.t 7)),
V 53 (.idx 2 (.t 51) (.t 52)),
V 54 (.fad 0 (.t 53)),
V 55 (.ld none (.t 54)),
V 56 (.call 157 [(.t 50),(.t 55)]),
V 57 (.not (.t 56))]) (.cond (.t 57) (.seq (.rg [V 2 (.mv (.k (.c (.b false))))]) (.ret)) (.skip)))) (.rg [V 48 (.mv (.t 7)),
V 49 (.bin .add (.t 48) (.k (.c (.i 1)))),
V 7 (.mv (.t 49))]))
def vf96b1 : VC := .seq (.seq (.rg [V 18 (.mv (.t 5)),
V 19 (.fad 0 (.t 1)),
V 20 (.ld none (.t 19)),
V 21 (.mv (.t 3)),
V 22 (.idx 6 (.t 20) (.t 21)),
V 23 (.fad 0 (.t 22)),
V 24 (.ld none (.t 23)),
V 25 (.len (.t 24)),
V 26 (.bin .lt (.t 18) (.t 25))]) (.cond (.t 26) (.skip) (.exit 2))) (.seq (.block 3 (.seq (.rg [V 29 (.fad 0 (.t 1)),
V 30 (.ld none (.t 29)),
V 31 (.mv (.t 3)),
V 32 (.idx 6 (.t 30) (.t 31)),
V 33 (.fad 0 (.t 32)),
V 34 (.ld none (.t 33)),
V 35 (.mv (.t 5)),
V 36 (.idx 2 (.t 34) (.t 35)),
V 37 (.fad 1 (.t 36)),
V 38 (.ld none (.t 37)),
V 6 (.mv (.t 38))]) (.seq (.seq (.rg [V 39 (.mv (.t 6)),
V 40 (.len (.t 39)),
V 41 (.mv (.t 4)),
V 42 (.len (.t 41)),
V 43 (.bin .ne (.t 40) (.t 42))]) (.cond (.t 43) (.seq (.rg [V 2 (.mv (.k (.c (.b false))))]) (.ret)) (.skip))) (.seq (.rg [V 7 (.mv (.k (.c (.i 0))))]) (.block 4 (.loop vf96b0)))))) (.rg [V 27 (.mv (.t 5)),
V 28 (.bin .add (.t 27) (.k (.c (.i 1)))),
V 5 (.mv (.t 28))]))
def vf96b2 : VC := .seq (.seq (.rg [V 8 (.mv (.t 3)),
V 9 (.fad 0 (.t 1)),
V 10 (.ld none (.t 9)),
V 11 (.len (.t 10)),
V 12 (.bin .lt (.t 8) (.t 11))]) (.cond (.t 12) (.skip) (.exit 0))) (.seq (.block 1 (.seq (.rg [V 15 (.ld (some 2) (.t 1)),
V 16 (.mv (.t 3)),
V 17 (.call 95 [(.t 15),(.t 16)]),
V 4 (.mv (.t 17))]) (.seq (.rg [V 5 (.mv (.k (.c (.i 0))))]) (.block 2 (.loop vf96b1))))) (.rg [V 13 (.mv (.t 3)),
V 14 (.bin .add (.t 13) (.k (.c (.i 1)))),
V 3 (.mv (.t 14))]))
def vf96c : VC := .seq (.rg [V 1 (.box (.t 0)),
V 2 (.mv (.k (.c (.b false))))]) (.seq (.seq (.rg [V 3 (.mv (.k (.c (.i 0))))]) (.block 0 (.loop vf96b2))) (.seq (.rg [V 2 (.mv (.k (.c (.b true))))]) (.ret)))
def vf96 : VF := ⟨vf96c,vf96v,[(2,none)]⟩
theorem ok96 : chkF Tryz.prog Tryz.f96 vf96 = true := by kernel_rfl
theorem dr96 : drawsB vf96.body = true := by kernel_rfl
/-- loop.example/g00192/spec.l5Made -/
def vf97v : List Nat := [0,1,2,3,4,5,6,7,15,26,52,66]
def vf97b0 : VC := .seq (.seq (.rg [V 18 (.mv (.t 5)),
V 19 (.fad 0 (.t 1)),
V 20 (.ld none (.t 19)),
V 21 (.mv (.t 4)),
V 22 (.idx 6 (.t 20) (.t 21)),
V 23 (.fad 0 (.t 22)),
V 24 (.ld none (.t 23)),
V 25 (.len (.t 24)),
V 26 (.bin .lt (.t 18) (.t 25))]) (.cond (.t 26) (.skip) (.exit 2))) (.seq (.block 3 (.rg [V 29 (.mv (.t 3)),
V 30 (.fad 0 (.t 1)),
V 31 (.ld none (.t 30)),
V 32 (.mv (.t 4)),
V 33 (.idx 6 (.t 31) (.t 32)),
V 34 (.fad 0 (.t 33)),
V 35 (.ld none (.t 34)),
V 36 (.mv (.t 5)),
V 37 (.idx 2 (.t 35) (.t 36)),
V 38 (.fad 0 (.t 37)),
V 39 (.ld none (.t 38)),
V 40 (.idx 1 (.t 29) (.t 39)),
V 41 (.ld none (.t 40)),
V 42 (.bin .add (.t 41) (.k (.c (.i 1)))),
V 43 (.idx 1 (.t 29) (.t 39)),
Vn (.st 1 (.t 43) (.t 42))])) (.rg [V 27 (.mv (.t 5)),
V 28 (.bin .add (.t 27) (.k (.c (.i 1)))),
V 5 (.mv (.t 28))]))
def vf97b1 : VC := .seq (.seq (.rg [V 44 (.mv (.t 6)),
V 45 (.fad 0 (.t 1)),
V 46 (.ld none (.t 45)),
V 47 (.mv (.t 4)),
V 48 (.idx 6 (.t 46) (.t 47)),
V 49 (.fad 1 (.t 48)),
V 50 (.ld none (.t 49)),
V 51 (.len (.t 50)),
V 52 (.bin .lt (.t 44) (.t 51))]) (.cond (.t 52) (.skip) (.exit 4))) (.seq (.block 5 (.seq (.rg [V 55 (.fad 0 (.t 1)),
V 56 (.ld none (.t 55)),
V 57 (.mv (.t 4)),
V 58 (.idx 6 (.t 56) (.t 57)),
V 59 (.fad 1 (.t 58)),
V 60 (.ld none (.t 59)),
V 61 (.mv (.t 6)),
V 62 (.idx 5 (.t 60) (.t 61)),
V 63 (.ld (some 5) (.t 62)),
V 64 (.call 121 [(.t 63)]),
V 7 (.mv (.t 64))]) (.seq (.rg [V 65 (.mv (.t 7)),
V 66 (.bin .ge (.t 65) (.k (.c (.i 0))))]) (.cond (.t 66) (.rg [V 67 (.mv (.t 3)),
V 68 (.mv (.t 7)),
V 69 (.idx 1 (.t 67) (.t 68)),
V 70 (.ld none (.t 69)),
V 71 (.bin .add (.t 70) (.k (.c (.i 1)))),
V 72 (.idx 1 (.t 67) (.t 68)),
Vn (.st 1 (.t 72) (.t 71))]) (.skip))))) (.rg [V 53 (.mv (.t 6)),
V 54 (.bin .add (.t 53) (.k (.c (.i 1)))),
V 6 (.mv (.t 54))]))
def vf97b2 : VC := .seq (.seq (.rg [V 11 (.mv (.t 4)),
V 12 (.fad 0 (.t 1)),
V 13 (.ld none (.t 12)),
V 14 (.len (.t 13)),
V 15 (.bin .lt (.t 11) (.t 14))]) (.cond (.t 15) (.skip) (.exit 0))) (.seq (.block 1 (.seq (.seq (.rg [V 5 (.mv (.k (.c (.i 0))))]) (.block 2 (.loop vf97b0))) (.seq (.rg [V 6 (.mv (.k (.c (.i 0))))]) (.block 4 (.loop vf97b1))))) (.rg [V 16 (.mv (.t 4)),
V 17 (.bin .add (.t 16) (.k (.c (.i 1)))),
V 4 (.mv (.t 17))]))
def vf97c : VC := .seq (.rg [V 1 (.box (.t 0)),
V 2 (.mv (.k (.c .ns)))]) (.seq (.rg [V 8 (.fad 1 (.t 1)),
V 9 (.ld none (.t 8)),
V 10 (.mks 1 [.i 0] (.t 9)),
V 3 (.mv (.t 10))]) (.seq (.seq (.rg [V 4 (.mv (.k (.c (.i 0))))]) (.block 0 (.loop vf97b2))) (.seq (.rg [V 73 (.mv (.t 3)),
V 2 (.mv (.t 73))]) (.ret))))
def vf97 : VF := ⟨vf97c,vf97v,[(2,none)]⟩
theorem ok97 : chkF Tryz.prog Tryz.f97 vf97 = true := by kernel_rfl
theorem dr97 : drawsB vf97.body = true := by kernel_rfl
end Go.Proofs.YtgdfgnppeekfjaaGreat.Vm
