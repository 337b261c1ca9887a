/- The ideal machine's code for some of the program's functions, each checked against the translated one. No conditions. -/
import Derived.Test.YtnmnpfdjigpgaaaChecked
import Derived.Test.YtnmnpfdjigpgaaaVmQ
import Derived.Test.YtnmnpfdjigpgaaaVmC
namespace Go.Proofs.Ytnmnpfdjigpgaaa.Vm
set_option linter.unusedVariables false
set_option maxRecDepth 100000
/-- loop.example/g00192/laws.FnExactMovesOk -/
def vf3v : List Nat := [0,1,4,5,6,7,8,13,25,30]
def vf3c : VC := .seq (.rg [V 4 (.mv (.k (.c (.b false))))]) (.seq (.rg [V 5 (.mv (.k (.c (.i 1048576))))]) (.seq (.rg [V 9 (.mv (.t 0)),
V 10 (.mv (.t 5)),
V 11 (.call 15 [(.t 9),(.t 10)]),
V 5 (.mv (.t 11))]) (.seq (.seq (.rg [V 12 (.mv (.t 5)),
V 13 (.bin .lt (.t 12) (.k (.c (.i 0))))]) (.cond (.t 13) (.seq (.rg [V 4 (.mv (.k (.c (.b true))))]) (.ret)) (.skip))) (.seq (.rg [V 14 (.mv (.t 0)),
V 15 (.call 17 [(.t 14)]),
V 16 (.mv (.t 1)),
V 17 (.call 16 [(.t 15),(.t 16)]),
V 6 (.mv (.t 17))]) (.seq (.rg [V 18 (.mv (.t 0)),
V 19 (.call 17 [(.t 18)]),
V 7 (.mv (.t 19))]) (.seq (.rg [V 20 (.mv (.t 7)),
V 21 (.mv (.t 1)),
V 22 (.call 18 [(.t 20),(.t 21)]),
V 8 (.mv (.t 22))]) (.seq (.seq (.rg [V 23 (.mv (.t 8)),
V 24 (.mv (.t 6)),
V 25 (.eqb true (.t 23) (.t 24))]) (.cond (.t 25) (.seq (.rg [V 4 (.mv (.k (.c (.b false))))]) (.ret)) (.skip))) (.seq (.seq (.rg [V 26 (.mv (.t 7)),
V 27 (.mv (.t 0)),
V 28 (.call 17 [(.t 27)]),
V 29 (.call 19 [(.t 26),(.t 28)]),
V 30 (.not (.t 29))]) (.cond (.t 30) (.seq (.rg [V 4 (.mv (.k (.c (.b false))))]) (.ret)) (.skip))) (.seq (.rg [V 4 (.mv (.k (.c (.b true))))]) (.ret))))))))))
def vf3 : VF := ⟨vf3c,vf3v,[(4,none)]⟩
theorem ok3 : chkF Try.prog Try.f3 vf3 = true := by kernel_rfl
theorem dr3 : drawsB vf3.body = true := by kernel_rfl
/-- loop.example/g00192/laws.FnExactShapeOk -/
def vf4v : List Nat := [0,1,2,3,4,5,6,11,21,26]
def vf4c : VC := .seq (.rg [V 1 (.box (.t 0)),
V 2 (.mv (.k (.c (.b false))))]) (.seq (.rg [V 3 (.mv (.k (.c (.i 1048576))))]) (.seq (.rg [V 7 (.ld (some 2) (.t 1)),
V 8 (.mv (.t 3)),
V 9 (.call 20 [(.t 7),(.t 8)]),
V 3 (.mv (.t 9))]) (.seq (.seq (.rg [V 10 (.mv (.t 3)),
V 11 (.bin .lt (.t 10) (.k (.c (.i 0))))]) (.cond (.t 11) (.seq (.rg [V 2 (.mv (.k (.c (.b true))))]) (.ret)) (.skip))) (.seq (.rg [V 12 (.ld (some 2) (.t 1)),
V 13 (.call 22 [(.t 12)]),
V 14 (.call 21 [(.t 13)]),
V 4 (.mv (.t 14))]) (.seq (.rg [V 15 (.ld (some 2) (.t 1)),
V 16 (.call 22 [(.t 15)]),
V 5 (.alloc [.ns,.i 0]),
Vn (.st 2 (.t 5) (.t 16))]) (.seq (.rg [V 17 (.ld (some 2) (.t 5)),
V 18 (.call 23 [(.t 17)]),
V 6 (.mv (.t 18))]) (.seq (.seq (.rg [V 19 (.mv (.t 6)),
V 20 (.mv (.t 4)),
V 21 (.eqb true (.t 19) (.t 20))]) (.cond (.t 21) (.seq (.rg [V 2 (.mv (.k (.c (.b false))))]) (.ret)) (.skip))) (.seq (.seq (.rd [Vc [] [] true (V 22 (.ld (some 2) (.t 5))),
V 23 (.ld (some 2) (.t 1)),
Vc [1] [0] false (V 24 (.call 22 [(.t 23)])),
Vd [0,2] (V 25 (.call 24 [(.t 22),(.t 24)])),
Vd [3] (V 26 (.not (.t 25)))]) (.cond (.t 26) (.seq (.rg [V 2 (.mv (.k (.c (.b false))))]) (.ret)) (.skip))) (.seq (.rg [V 2 (.mv (.k (.c (.b true))))]) (.ret))))))))))
def vf4 : VF := ⟨vf4c,vf4v,[(2,none)]⟩
theorem ok4 : chkF Try.prog Try.f4 vf4 = true := by kernel_rfl
theorem dr4 : drawsB vf4.body = true := by kernel_rfl
/-- loop.example/g00192/laws.FnExactPlainOk -/
def vf5v : List Nat := [0,1,2,3,4,5,6,11,21,26]
def vf5c : VC := .seq (.rg [V 1 (.box (.t 0)),
V 2 (.mv (.k (.c (.b false))))]) (.seq (.rg [V 3 (.mv (.k (.c (.i 1048576))))]) (.seq (.rg [V 7 (.ld (some 2) (.t 1)),
V 8 (.mv (.t 3)),
V 9 (.call 20 [(.t 7),(.t 8)]),
V 3 (.mv (.t 9))]) (.seq (.seq (.rg [V 10 (.mv (.t 3)),
V 11 (.bin .lt (.t 10) (.k (.c (.i 0))))]) (.cond (.t 11) (.seq (.rg [V 2 (.mv (.k (.c (.b true))))]) (.ret)) (.skip))) (.seq (.rg [V 12 (.ld (some 2) (.t 1)),
V 13 (.call 22 [(.t 12)]),
V 14 (.call 25 [(.t 13)]),
V 4 (.mv (.t 14))]) (.seq (.rg [V 15 (.ld (some 2) (.t 1)),
V 16 (.call 22 [(.t 15)]),
V 5 (.alloc [.ns,.i 0]),
Vn (.st 2 (.t 5) (.t 16))]) (.seq (.rg [V 17 (.ld (some 2) (.t 5)),
V 18 (.call 26 [(.t 17)]),
V 6 (.mv (.t 18))]) (.seq (.seq (.rg [V 19 (.mv (.t 6)),
V 20 (.mv (.t 4)),
V 21 (.eqb true (.t 19) (.t 20))]) (.cond (.t 21) (.seq (.rg [V 2 (.mv (.k (.c (.b false))))]) (.ret)) (.skip))) (.seq (.seq (.rd [Vc [] [] true (V 22 (.ld (some 2) (.t 5))),
V 23 (.ld (some 2) (.t 1)),
Vc [1] [0] false (V 24 (.call 22 [(.t 23)])),
Vd [0,2] (V 25 (.call 24 [(.t 22),(.t 24)])),
Vd [3] (V 26 (.not (.t 25)))]) (.cond (.t 26) (.seq (.rg [V 2 (.mv (.k (.c (.b false))))]) (.ret)) (.skip))) (.seq (.rg [V 2 (.mv (.k (.c (.b true))))]) (.ret))))))))))
def vf5 : VF := ⟨vf5c,vf5v,[(2,none)]⟩
theorem ok5 : chkF Try.prog Try.f5 vf5 = true := by kernel_rfl
theorem dr5 : drawsB vf5.body = true := by kernel_rfl
/-- loop.example/g00192/laws.FnExactCost -/
def vf6v : List Nat := [0,1,2,3,4,5,6,11,21,26]
def vf6c : VC := .seq (.rg [V 1 (.box (.t 0)),
V 2 (.mv (.k (.c (.b false))))]) (.seq (.rg [V 3 (.mv (.k (.c (.i 1048576))))]) (.seq (.rg [V 7 (.ld (some 2) (.t 1)),
V 8 (.mv (.t 3)),
V 9 (.call 20 [(.t 7),(.t 8)]),
V 3 (.mv (.t 9))]) (.seq (.seq (.rg [V 10 (.mv (.t 3)),
V 11 (.bin .lt (.t 10) (.k (.c (.i 0))))]) (.cond (.t 11) (.seq (.rg [V 2 (.mv (.k (.c (.b true))))]) (.ret)) (.skip))) (.seq (.rg [V 12 (.ld (some 2) (.t 1)),
V 13 (.call 22 [(.t 12)]),
V 14 (.call 27 [(.t 13)]),
V 4 (.mv (.t 14))]) (.seq (.rg [V 15 (.ld (some 2) (.t 1)),
V 16 (.call 22 [(.t 15)]),
V 5 (.alloc [.ns,.i 0]),
Vn (.st 2 (.t 5) (.t 16))]) (.seq (.rg [V 17 (.ld (some 2) (.t 5)),
V 18 (.call 28 [(.t 17)]),
V 6 (.mv (.t 18))]) (.seq (.seq (.rg [V 19 (.mv (.t 6)),
V 20 (.mv (.t 4)),
V 21 (.bin .ne (.t 19) (.t 20))]) (.cond (.t 21) (.seq (.rg [V 2 (.mv (.k (.c (.b false))))]) (.ret)) (.skip))) (.seq (.seq (.rd [Vc [] [] true (V 22 (.ld (some 2) (.t 5))),
V 23 (.ld (some 2) (.t 1)),
Vc [1] [0] false (V 24 (.call 22 [(.t 23)])),
Vd [0,2] (V 25 (.call 24 [(.t 22),(.t 24)])),
Vd [3] (V 26 (.not (.t 25)))]) (.cond (.t 26) (.seq (.rg [V 2 (.mv (.k (.c (.b false))))]) (.ret)) (.skip))) (.seq (.rg [V 2 (.mv (.k (.c (.b true))))]) (.ret))))))))))
def vf6 : VF := ⟨vf6c,vf6v,[(2,none)]⟩
theorem ok6 : chkF Try.prog Try.f6 vf6 = true := by kernel_rfl
theorem dr6 : drawsB vf6.body = true := by kernel_rfl
/-- loop.example/g00192/laws.FnExactDefAt -/
def vf7v : List Nat := [0,1,2,4,5,6,7,8,9,10,15,38,43]
def vf7c : VC := .seq (.rg [V 2 (.box (.t 0)),
V 4 (.mv (.k (.c (.b false))))]) (.seq (.rg [V 5 (.mv (.k (.c (.i 1048576))))]) (.seq (.rg [V 11 (.ld (some 2) (.t 2)),
V 12 (.mv (.t 5)),
V 13 (.call 20 [(.t 11),(.t 12)]),
V 5 (.mv (.t 13))]) (.seq (.seq (.rg [V 14 (.mv (.t 5)),
V 15 (.bin .lt (.t 14) (.k (.c (.i 0))))]) (.cond (.t 15) (.seq (.rg [V 4 (.mv (.k (.c (.b true))))]) (.ret)) (.skip))) (.seq (.rg [V 17 (.ld (some 2) (.t 2)),
V 18 (.call 22 [(.t 17)]),
V 19 (.mv (.t 1)),
V 20 (.call 29 [(.t 18),(.t 19)]),
V 16 (.mv (.t 20)),
V 21 (.ext 0 (.t 16)),
V 22 (.ext 1 (.t 16)),
V 6 (.mv (.t 21)),
V 7 (.mv (.t 22))]) (.seq (.rg [V 23 (.ld (some 2) (.t 2)),
V 24 (.call 22 [(.t 23)]),
V 8 (.alloc [.ns,.i 0]),
Vn (.st 2 (.t 8) (.t 24))]) (.seq (.rg [V 26 (.ld (some 2) (.t 8)),
V 27 (.mv (.t 1)),
V 28 (.call 30 [(.t 26),(.t 27)]),
V 25 (.mv (.t 28)),
V 29 (.ext 0 (.t 25)),
V 30 (.ext 1 (.t 25)),
V 9 (.mv (.t 29)),
V 10 (.mv (.t 30))]) (.seq (.seq (.rg [V 31 (.mv (.t 9)),
V 32 (.mv (.t 6)),
V 33 (.bin .ne (.t 31) (.t 32)),
V 34 (.mv (.t 33)),
Vg 35 34 false (.mv (.t 10)),
Vg 36 34 false (.mv (.t 7)),
Vg 37 34 false (.bin .ne (.t 35) (.t 36)),
V 38 (.pick (.t 34) (.k (.c (.b true))) (.t 37))]) (.cond (.t 38) (.seq (.rg [V 4 (.mv (.k (.c (.b false))))]) (.ret)) (.skip))) (.seq (.seq (.rd [Vc [] [] true (V 39 (.ld (some 2) (.t 8))),
V 40 (.ld (some 2) (.t 2)),
Vc [1] [0] false (V 41 (.call 22 [(.t 40)])),
Vd [0,2] (V 42 (.call 24 [(.t 39),(.t 41)])),
Vd [3] (V 43 (.not (.t 42)))]) (.cond (.t 43) (.seq (.rg [V 4 (.mv (.k (.c (.b false))))]) (.ret)) (.skip))) (.seq (.rg [V 4 (.mv (.k (.c (.b true))))]) (.ret))))))))))
def vf7 : VF := ⟨vf7c,vf7v,[(4,none)]⟩
theorem ok7 : chkF Try.prog Try.f7 vf7 = true := by kernel_rfl
theorem dr7 : drawsB vf7.body = true := by kernel_rfl
/-- loop.example/g00192/laws.FnExactSuccs -/
def vf8v : List Nat := [0,1,2,4,5,6,7,8,9,10,11,12,17,30,35,46,54,57,65,70,73]
def vf8c : VC := .seq (.rg [V 2 (.box (.t 0)),
V 4 (.mv (.k (.c (.b false))))]) (.seq (.rg [V 5 (.mv (.k (.c (.i 1048576))))]) (.seq (.rg [V 13 (.ld (some 2) (.t 2)),
V 14 (.mv (.t 5)),
V 15 (.call 20 [(.t 13),(.t 14)]),
V 5 (.mv (.t 15))]) (.seq (.seq (.rg [V 16 (.mv (.t 5)),
V 17 (.bin .lt (.t 16) (.k (.c (.i 0))))]) (.cond (.t 17) (.seq (.rg [V 4 (.mv (.k (.c (.b true))))]) (.ret)) (.skip))) (.seq (.rg [V 18 (.ld (some 2) (.t 2)),
V 19 (.call 22 [(.t 18)]),
V 20 (.mv (.t 1)),
V 21 (.call 31 [(.t 19),(.t 20)]),
V 6 (.mv (.t 21))]) (.seq (.rg [V 22 (.ld (some 2) (.t 2)),
V 23 (.call 22 [(.t 22)]),
V 7 (.alloc [.ns,.i 0]),
Vn (.st 2 (.t 7) (.t 23))]) (.seq (.rg [V 24 (.ld (some 2) (.t 7)),
V 25 (.mv (.t 1)),
V 26 (.call 32 [(.t 24),(.t 25)]),
V 8 (.mv (.t 26))]) (.seq (.seq (.rg [V 27 (.mv (.t 8)),
V 28 (.mv (.t 6)),
V 29 (.call 33 [(.t 27),(.t 28)]),
V 30 (.not (.t 29))]) (.cond (.t 30) (.seq (.rg [V 4 (.mv (.k (.c (.b false))))]) (.ret)) (.skip))) (.seq (.seq (.rd [Vc [] [] true (V 31 (.ld (some 2) (.t 7))),
V 32 (.ld (some 2) (.t 2)),
Vc [1] [0] false (V 33 (.call 22 [(.t 32)])),
Vd [0,2] (V 34 (.call 24 [(.t 31),(.t 33)])),
Vd [3] (V 35 (.not (.t 34)))]) (.cond (.t 35) (.seq (.rg [V 4 (.mv (.k (.c (.b false))))]) (.ret)) (.skip))) (.seq (.rg [V 9 (.mv (.k (.c (.i 1))))]) (.seq (.rg [V 36 (.ld (some 2) (.t 7)),
V 37 (.mv (.t 9)),
V 38 (.call 34 [(.t 36),(.t 37)]),
V 9 (.mv (.t 38))]) (.seq (.seq (.rg [V 39 (.mv (.t 9)),
V 40 (.bin .lt (.t 39) (.k (.c (.i 0)))),
V 41 (.mv (.t 40)),
Vg 42 41 false (.mv (.t 8)),
Vg 43 41 false (.mv (.t 6)),
Vg 44 41 false (.call 33 [(.t 42),(.t 43)]),
Vg 45 41 false (.not (.t 44)),
V 46 (.pick (.t 41) (.k (.c (.b true))) (.t 45))]) (.cond (.t 46) (.seq (.rg [V 4 (.mv (.k (.c (.b false))))]) (.ret)) (.skip))) (.seq (.rg [V 10 (.mv (.k (.c (.i 1))))]) (.seq (.rg [V 47 (.mv (.t 8)),
V 48 (.mv (.t 10)),
V 49 (.call 35 [(.t 47),(.t 48)]),
V 10 (.mv (.t 49))]) (.seq (.rg [V 11 (.mv (.k (.c (.i 1))))]) (.seq (.rg [V 50 (.mv (.t 8)),
V 51 (.mv (.t 11)),
V 52 (.call 36 [(.t 50),(.t 51)]),
V 11 (.mv (.t 52))]) (.seq (.seq (.rg [V 53 (.mv (.t 11)),
V 54 (.bin .lt (.t 53) (.k (.c (.i 0))))]) (.cond (.t 54) (.seq (.rg [V 4 (.mv (.k (.c (.b false))))]) (.ret)) (.skip))) (.seq (.seq (.rg [V 55 (.mv (.t 11)),
V 56 (.mv (.t 10)),
V 57 (.bin .ne (.t 55) (.t 56))]) (.cond (.t 57) (.seq (.rg [V 4 (.mv (.k (.c (.b false))))]) (.ret)) (.skip))) (.seq (.rg [V 58 (.ld (some 2) (.t 2)),
V 59 (.call 22 [(.t 58)]),
V 60 (.mv (.t 1)),
V 61 (.call 32 [(.t 59),(.t 60)]),
V 12 (.mv (.t 61))]) (.seq (.seq (.rg [V 62 (.mv (.t 12)),
V 63 (.mv (.t 6)),
V 64 (.call 33 [(.t 62),(.t 63)]),
V 65 (.not (.t 64))]) (.cond (.t 65) (.seq (.rg [V 4 (.mv (.k (.c (.b false))))]) (.ret)) (.skip))) (.seq (.rg [V 11 (.mv (.k (.c (.i 1))))]) (.seq (.rg [V 66 (.mv (.t 8)),
V 67 (.mv (.t 11)),
V 68 (.call 36 [(.t 66),(.t 67)]),
V 11 (.mv (.t 68))]) (.seq (.seq (.rg [V 69 (.mv (.t 11)),
V 70 (.bin .lt (.t 69) (.k (.c (.i 0))))]) (.cond (.t 70) (.seq (.rg [V 4 (.mv (.k (.c (.b false))))]) (.ret)) (.skip))) (.seq (.seq (.rg [V 71 (.mv (.t 11)),
V 72 (.mv (.t 10)),
V 73 (.bin .ne (.t 71) (.t 72))]) (.cond (.t 73) (.seq (.rg [V 4 (.mv (.k (.c (.b false))))]) (.ret)) (.skip))) (.seq (.rg [V 4 (.mv (.k (.c (.b true))))]) (.ret)))))))))))))))))))))))))
def vf8 : VF := ⟨vf8c,vf8v,[(4,none)]⟩
theorem ok8 : chkF Try.prog Try.f8 vf8 = true := by kernel_rfl
theorem dr8 : drawsB vf8.body = true := by kernel_rfl
/-- loop.example/g00192/laws.FnExactPreds -/
def vf9v : List Nat := [0,1,2,4,5,6,7,8,9,10,11,12,17,30,35,46,54,57,65,70,73]
def vf9c : VC := .seq (.rg [V 2 (.box (.t 0)),
V 4 (.mv (.k (.c (.b false))))]) (.seq (.rg [V 5 (.mv (.k (.c (.i 1048576))))]) (.seq (.rg [V 13 (.ld (some 2) (.t 2)),
V 14 (.mv (.t 5)),
V 15 (.call 20 [(.t 13),(.t 14)]),
V 5 (.mv (.t 15))]) (.seq (.seq (.rg [V 16 (.mv (.t 5)),
V 17 (.bin .lt (.t 16) (.k (.c (.i 0))))]) (.cond (.t 17) (.seq (.rg [V 4 (.mv (.k (.c (.b true))))]) (.ret)) (.skip))) (.seq (.rg [V 18 (.ld (some 2) (.t 2)),
V 19 (.call 22 [(.t 18)]),
V 20 (.mv (.t 1)),
V 21 (.call 37 [(.t 19),(.t 20)]),
V 6 (.mv (.t 21))]) (.seq (.rg [V 22 (.ld (some 2) (.t 2)),
V 23 (.call 22 [(.t 22)]),
V 7 (.alloc [.ns,.i 0]),
Vn (.st 2 (.t 7) (.t 23))]) (.seq (.rg [V 24 (.ld (some 2) (.t 7)),
V 25 (.mv (.t 1)),
V 26 (.call 38 [(.t 24),(.t 25)]),
V 8 (.mv (.t 26))]) (.seq (.seq (.rg [V 27 (.mv (.t 8)),
V 28 (.mv (.t 6)),
V 29 (.call 33 [(.t 27),(.t 28)]),
V 30 (.not (.t 29))]) (.cond (.t 30) (.seq (.rg [V 4 (.mv (.k (.c (.b false))))]) (.ret)) (.skip))) (.seq (.seq (.rd [Vc [] [] true (V 31 (.ld (some 2) (.t 7))),
V 32 (.ld (some 2) (.t 2)),
Vc [1] [0] false (V 33 (.call 22 [(.t 32)])),
Vd [0,2] (V 34 (.call 24 [(.t 31),(.t 33)])),
Vd [3] (V 35 (.not (.t 34)))]) (.cond (.t 35) (.seq (.rg [V 4 (.mv (.k (.c (.b false))))]) (.ret)) (.skip))) (.seq (.rg [V 9 (.mv (.k (.c (.i 1))))]) (.seq (.rg [V 36 (.ld (some 2) (.t 7)),
V 37 (.mv (.t 9)),
V 38 (.call 34 [(.t 36),(.t 37)]),
V 9 (.mv (.t 38))]) (.seq (.seq (.rg [V 39 (.mv (.t 9)),
V 40 (.bin .lt (.t 39) (.k (.c (.i 0)))),
V 41 (.mv (.t 40)),
Vg 42 41 false (.mv (.t 8)),
Vg 43 41 false (.mv (.t 6)),
Vg 44 41 false (.call 33 [(.t 42),(.t 43)]),
Vg 45 41 false (.not (.t 44)),
V 46 (.pick (.t 41) (.k (.c (.b true))) (.t 45))]) (.cond (.t 46) (.seq (.rg [V 4 (.mv (.k (.c (.b false))))]) (.ret)) (.skip))) (.seq (.rg [V 10 (.mv (.k (.c (.i 1))))]) (.seq (.rg [V 47 (.mv (.t 8)),
V 48 (.mv (.t 10)),
V 49 (.call 35 [(.t 47),(.t 48)]),
V 10 (.mv (.t 49))]) (.seq (.rg [V 11 (.mv (.k (.c (.i 1))))]) (.seq (.rg [V 50 (.mv (.t 8)),
V 51 (.mv (.t 11)),
V 52 (.call 36 [(.t 50),(.t 51)]),
V 11 (.mv (.t 52))]) (.seq (.seq (.rg [V 53 (.mv (.t 11)),
V 54 (.bin .lt (.t 53) (.k (.c (.i 0))))]) (.cond (.t 54) (.seq (.rg [V 4 (.mv (.k (.c (.b false))))]) (.ret)) (.skip))) (.seq (.seq (.rg [V 55 (.mv (.t 11)),
V 56 (.mv (.t 10)),
V 57 (.bin .ne (.t 55) (.t 56))]) (.cond (.t 57) (.seq (.rg [V 4 (.mv (.k (.c (.b false))))]) (.ret)) (.skip))) (.seq (.rg [V 58 (.ld (some 2) (.t 2)),
V 59 (.call 22 [(.t 58)]),
V 60 (.mv (.t 1)),
V 61 (.call 38 [(.t 59),(.t 60)]),
V 12 (.mv (.t 61))]) (.seq (.seq (.rg [V 62 (.mv (.t 12)),
V 63 (.mv (.t 6)),
V 64 (.call 33 [(.t 62),(.t 63)]),
V 65 (.not (.t 64))]) (.cond (.t 65) (.seq (.rg [V 4 (.mv (.k (.c (.b false))))]) (.ret)) (.skip))) (.seq (.rg [V 11 (.mv (.k (.c (.i 1))))]) (.seq (.rg [V 66 (.mv (.t 8)),
V 67 (.mv (.t 11)),
V 68 (.call 36 [(.t 66),(.t 67)]),
V 11 (.mv (.t 68))]) (.seq (.seq (.rg [V 69 (.mv (.t 11)),
V 70 (.bin .lt (.t 69) (.k (.c (.i 0))))]) (.cond (.t 70) (.seq (.rg [V 4 (.mv (.k (.c (.b false))))]) (.ret)) (.skip))) (.seq (.seq (.rg [V 71 (.mv (.t 11)),
V 72 (.mv (.t 10)),
V 73 (.bin .ne (.t 71) (.t 72))]) (.cond (.t 73) (.seq (.rg [V 4 (.mv (.k (.c (.b false))))]) (.ret)) (.skip))) (.seq (.rg [V 4 (.mv (.k (.c (.b true))))]) (.ret)))))))))))))))))))))))))
def vf9 : VF := ⟨vf9c,vf9v,[(4,none)]⟩
theorem ok9 : chkF Try.prog Try.f9 vf9 = true := by kernel_rfl
theorem dr9 : drawsB vf9.body = true := by kernel_rfl
/-- loop.example/g00192/laws.FnExactDominates -/
def vf10v : List Nat := [0,1,2,3,6,7,8,9,10,15,29,34]
def vf10c : VC := .seq (.rg [V 3 (.box (.t 0)),
V 6 (.mv (.k (.c (.b false))))]) (.seq (.rg [V 7 (.mv (.k (.c (.i 1048576))))]) (.seq (.rg [V 11 (.ld (some 2) (.t 3)),
V 12 (.mv (.t 7)),
V 13 (.call 20 [(.t 11),(.t 12)]),
V 7 (.mv (.t 13))]) (.seq (.seq (.rg [V 14 (.mv (.t 7)),
V 15 (.bin .lt (.t 14) (.k (.c (.i 0))))]) (.cond (.t 15) (.seq (.rg [V 6 (.mv (.k (.c (.b true))))]) (.ret)) (.skip))) (.seq (.rg [V 16 (.ld (some 2) (.t 3)),
V 17 (.call 22 [(.t 16)]),
V 18 (.mv (.t 1)),
V 19 (.mv (.t 2)),
V 20 (.call 39 [(.t 17),(.t 18),(.t 19)]),
V 8 (.mv (.t 20))]) (.seq (.rg [V 21 (.ld (some 2) (.t 3)),
V 22 (.call 22 [(.t 21)]),
V 9 (.alloc [.ns,.i 0]),
Vn (.st 2 (.t 9) (.t 22))]) (.seq (.rg [V 23 (.ld (some 2) (.t 9)),
V 24 (.mv (.t 1)),
V 25 (.mv (.t 2)),
V 26 (.call 40 [(.t 23),(.t 24),(.t 25)]),
V 10 (.mv (.t 26))]) (.seq (.seq (.rg [V 27 (.mv (.t 10)),
V 28 (.mv (.t 8)),
V 29 (.eqb true (.t 27) (.t 28))]) (.cond (.t 29) (.seq (.rg [V 6 (.mv (.k (.c (.b false))))]) (.ret)) (.skip))) (.seq (.seq (.rd [Vc [] [] true (V 30 (.ld (some 2) (.t 9))),
V 31 (.ld (some 2) (.t 3)),
Vc [1] [0] false (V 32 (.call 22 [(.t 31)])),
Vd [0,2] (V 33 (.call 24 [(.t 30),(.t 32)])),
Vd [3] (V 34 (.not (.t 33)))]) (.cond (.t 34) (.seq (.rg [V 6 (.mv (.k (.c (.b false))))]) (.ret)) (.skip))) (.seq (.rg [V 6 (.mv (.k (.c (.b true))))]) (.ret))))))))))
def vf10 : VF := ⟨vf10c,vf10v,[(6,none)]⟩
theorem ok10 : chkF Try.prog Try.f10 vf10 = true := by kernel_rfl
theorem dr10 : drawsB vf10.body = true := by kernel_rfl
/-- loop.example/g00192/laws.FnExactAbove -/
def vf11v : List Nat := [0,1,2,4,5,6,7,8,13,25,30]
def vf11c : VC := .seq (.rg [V 2 (.box (.t 0)),
V 4 (.mv (.k (.c (.b false))))]) (.seq (.rg [V 5 (.mv (.k (.c (.i 1048576))))]) (.seq (.rg [V 9 (.ld (some 2) (.t 2)),
V 10 (.mv (.t 5)),
V 11 (.call 20 [(.t 9),(.t 10)]),
V 5 (.mv (.t 11))]) (.seq (.seq (.rg [V 12 (.mv (.t 5)),
V 13 (.bin .lt (.t 12) (.k (.c (.i 0))))]) (.cond (.t 13) (.seq (.rg [V 4 (.mv (.k (.c (.b true))))]) (.ret)) (.skip))) (.seq (.rg [V 14 (.ld (some 2) (.t 2)),
V 15 (.call 22 [(.t 14)]),
V 16 (.mv (.t 1)),
V 17 (.call 41 [(.t 15),(.t 16)]),
V 6 (.mv (.t 17))]) (.seq (.rg [V 18 (.ld (some 2) (.t 2)),
V 19 (.call 22 [(.t 18)]),
V 7 (.alloc [.ns,.i 0]),
Vn (.st 2 (.t 7) (.t 19))]) (.seq (.rg [V 20 (.ld (some 2) (.t 7)),
V 21 (.mv (.t 1)),
V 22 (.call 42 [(.t 20),(.t 21)]),
V 8 (.mv (.t 22))]) (.seq (.seq (.rg [V 23 (.mv (.t 8)),
V 24 (.mv (.t 6)),
V 25 (.bin .ne (.t 23) (.t 24))]) (.cond (.t 25) (.seq (.rg [V 4 (.mv (.k (.c (.b false))))]) (.ret)) (.skip))) (.seq (.seq (.rd [Vc [] [] true (V 26 (.ld (some 2) (.t 7))),
V 27 (.ld (some 2) (.t 2)),
Vc [1] [0] false (V 28 (.call 22 [(.t 27)])),
Vd [0,2] (V 29 (.call 24 [(.t 26),(.t 28)])),
Vd [3] (V 30 (.not (.t 29)))]) (.cond (.t 30) (.seq (.rg [V 4 (.mv (.k (.c (.b false))))]) (.ret)) (.skip))) (.seq (.rg [V 4 (.mv (.k (.c (.b true))))]) (.ret))))))))))
def vf11 : VF := ⟨vf11c,vf11v,[(4,none)]⟩
theorem ok11 : chkF Try.prog Try.f11 vf11 = true := by kernel_rfl
theorem dr11 : drawsB vf11.body = true := by kernel_rfl
/-- loop.example/g00192/laws.FnExactOrder -/
def vf12v : List Nat := [0,1,2,3,4,5,6,7,8,9,10,15,26,31,42,50,53,60,65,68]
def vf12c : VC := .seq (.rg [V 1 (.box (.t 0)),
V 2 (.mv (.k (.c (.b false))))]) (.seq (.rg [V 3 (.mv (.k (.c (.i 1048576))))]) (.seq (.rg [V 11 (.ld (some 2) (.t 1)),
V 12 (.mv (.t 3)),
V 13 (.call 20 [(.t 11),(.t 12)]),
V 3 (.mv (.t 13))]) (.seq (.seq (.rg [V 14 (.mv (.t 3)),
V 15 (.bin .lt (.t 14) (.k (.c (.i 0))))]) (.cond (.t 15) (.seq (.rg [V 2 (.mv (.k (.c (.b true))))]) (.ret)) (.skip))) (.seq (.rg [V 16 (.ld (some 2) (.t 1)),
V 17 (.call 22 [(.t 16)]),
V 18 (.call 43 [(.t 17)]),
V 4 (.mv (.t 18))]) (.seq (.rg [V 19 (.ld (some 2) (.t 1)),
V 20 (.call 22 [(.t 19)]),
V 5 (.alloc [.ns,.i 0]),
Vn (.st 2 (.t 5) (.t 20))]) (.seq (.rg [V 21 (.ld (some 2) (.t 5)),
V 22 (.call 44 [(.t 21)]),
V 6 (.mv (.t 22))]) (.seq (.seq (.rg [V 23 (.mv (.t 6)),
V 24 (.mv (.t 4)),
V 25 (.call 33 [(.t 23),(.t 24)]),
V 26 (.not (.t 25))]) (.cond (.t 26) (.seq (.rg [V 2 (.mv (.k (.c (.b false))))]) (.ret)) (.skip))) (.seq (.seq (.rd [Vc [] [] true (V 27 (.ld (some 2) (.t 5))),
V 28 (.ld (some 2) (.t 1)),
Vc [1] [0] false (V 29 (.call 22 [(.t 28)])),
Vd [0,2] (V 30 (.call 24 [(.t 27),(.t 29)])),
Vd [3] (V 31 (.not (.t 30)))]) (.cond (.t 31) (.seq (.rg [V 2 (.mv (.k (.c (.b false))))]) (.ret)) (.skip))) (.seq (.rg [V 7 (.mv (.k (.c (.i 1))))]) (.seq (.rg [V 32 (.ld (some 2) (.t 5)),
V 33 (.mv (.t 7)),
V 34 (.call 34 [(.t 32),(.t 33)]),
V 7 (.mv (.t 34))]) (.seq (.seq (.rg [V 35 (.mv (.t 7)),
V 36 (.bin .lt (.t 35) (.k (.c (.i 0)))),
V 37 (.mv (.t 36)),
Vg 38 37 false (.mv (.t 6)),
Vg 39 37 false (.mv (.t 4)),
Vg 40 37 false (.call 33 [(.t 38),(.t 39)]),
Vg 41 37 false (.not (.t 40)),
V 42 (.pick (.t 37) (.k (.c (.b true))) (.t 41))]) (.cond (.t 42) (.seq (.rg [V 2 (.mv (.k (.c (.b false))))]) (.ret)) (.skip))) (.seq (.rg [V 8 (.mv (.k (.c (.i 1))))]) (.seq (.rg [V 43 (.mv (.t 6)),
V 44 (.mv (.t 8)),
V 45 (.call 35 [(.t 43),(.t 44)]),
V 8 (.mv (.t 45))]) (.seq (.rg [V 9 (.mv (.k (.c (.i 1))))]) (.seq (.rg [V 46 (.mv (.t 6)),
V 47 (.mv (.t 9)),
V 48 (.call 36 [(.t 46),(.t 47)]),
V 9 (.mv (.t 48))]) (.seq (.seq (.rg [V 49 (.mv (.t 9)),
V 50 (.bin .lt (.t 49) (.k (.c (.i 0))))]) (.cond (.t 50) (.seq (.rg [V 2 (.mv (.k (.c (.b false))))]) (.ret)) (.skip))) (.seq (.seq (.rg [V 51 (.mv (.t 9)),
V 52 (.mv (.t 8)),
V 53 (.bin .ne (.t 51) (.t 52))]) (.cond (.t 53) (.seq (.rg [V 2 (.mv (.k (.c (.b false))))]) (.ret)) (.skip))) (.seq (.rg [V 54 (.ld (some 2) (.t 1)),
V 55 (.call 22 [(.t 54)]),
V 56 (.call 44 [(.t 55)]),
V 10 (.mv (.t 56))]) (.seq (.seq (.rg [V 57 (.mv (.t 10)),
V 58 (.mv (.t 4)),
V 59 (.call 33 [(.t 57),(.t 58)]),
V 60 (.not (.t 59))]) (.cond (.t 60) (.seq (.rg [V 2 (.mv (.k (.c (.b false))))]) (.ret)) (.skip))) (.seq (.rg [V 9 (.mv (.k (.c (.i 1))))]) (.seq (.rg [V 61 (.mv (.t 6)),
V 62 (.mv (.t 9)),
V 63 (.call 36 [(.t 61),(.t 62)]),
V 9 (.mv (.t 63))]) (.seq (.seq (.rg [V 64 (.mv (.t 9)),
V 65 (.bin .lt (.t 64) (.k (.c (.i 0))))]) (.cond (.t 65) (.seq (.rg [V 2 (.mv (.k (.c (.b false))))]) (.ret)) (.skip))) (.seq (.seq (.rg [V 66 (.mv (.t 9)),
V 67 (.mv (.t 8)),
V 68 (.bin .ne (.t 66) (.t 67))]) (.cond (.t 68) (.seq (.rg [V 2 (.mv (.k (.c (.b false))))]) (.ret)) (.skip))) (.seq (.rg [V 2 (.mv (.k (.c (.b true))))]) (.ret)))))))))))))))))))))))))
def vf12 : VF := ⟨vf12c,vf12v,[(2,none)]⟩
theorem ok12 : chkF Try.prog Try.f12 vf12 = true := by kernel_rfl
theorem dr12 : drawsB vf12.body = true := by kernel_rfl
/-- loop.example/g00192/laws.FnExactReached -/
def vf13v : List Nat := [0,1,2,3,4,5,6,7,8,9,10,15,26,31,42,50,53,60,65,68]
def vf13c : VC := .seq (.rg [V 1 (.box (.t 0)),
V 2 (.mv (.k (.c (.b false))))]) (.seq (.rg [V 3 (.mv (.k (.c (.i 1048576))))]) (.seq (.rg [V 11 (.ld (some 2) (.t 1)),
V 12 (.mv (.t 3)),
V 13 (.call 20 [(.t 11),(.t 12)]),
V 3 (.mv (.t 13))]) (.seq (.seq (.rg [V 14 (.mv (.t 3)),
V 15 (.bin .lt (.t 14) (.k (.c (.i 0))))]) (.cond (.t 15) (.seq (.rg [V 2 (.mv (.k (.c (.b true))))]) (.ret)) (.skip))) (.seq (.rg [V 16 (.ld (some 2) (.t 1)),
V 17 (.call 22 [(.t 16)]),
V 18 (.call 45 [(.t 17)]),
V 4 (.mv (.t 18))]) (.seq (.rg [V 19 (.ld (some 2) (.t 1)),
V 20 (.call 22 [(.t 19)]),
V 5 (.alloc [.ns,.i 0]),
Vn (.st 2 (.t 5) (.t 20))]) (.seq (.rg [V 21 (.ld (some 2) (.t 5)),
V 22 (.call 46 [(.t 21)]),
V 6 (.mv (.t 22))]) (.seq (.seq (.rg [V 23 (.mv (.t 6)),
V 24 (.mv (.t 4)),
V 25 (.call 47 [(.t 23),(.t 24)]),
V 26 (.not (.t 25))]) (.cond (.t 26) (.seq (.rg [V 2 (.mv (.k (.c (.b false))))]) (.ret)) (.skip))) (.seq (.seq (.rd [Vc [] [] true (V 27 (.ld (some 2) (.t 5))),
V 28 (.ld (some 2) (.t 1)),
Vc [1] [0] false (V 29 (.call 22 [(.t 28)])),
Vd [0,2] (V 30 (.call 24 [(.t 27),(.t 29)])),
Vd [3] (V 31 (.not (.t 30)))]) (.cond (.t 31) (.seq (.rg [V 2 (.mv (.k (.c (.b false))))]) (.ret)) (.skip))) (.seq (.rg [V 7 (.mv (.k (.c (.i 1))))]) (.seq (.rg [V 32 (.ld (some 2) (.t 5)),
V 33 (.mv (.t 7)),
V 34 (.call 34 [(.t 32),(.t 33)]),
V 7 (.mv (.t 34))]) (.seq (.seq (.rg [V 35 (.mv (.t 7)),
V 36 (.bin .lt (.t 35) (.k (.c (.i 0)))),
V 37 (.mv (.t 36)),
Vg 38 37 false (.mv (.t 6)),
Vg 39 37 false (.mv (.t 4)),
Vg 40 37 false (.call 47 [(.t 38),(.t 39)]),
Vg 41 37 false (.not (.t 40)),
V 42 (.pick (.t 37) (.k (.c (.b true))) (.t 41))]) (.cond (.t 42) (.seq (.rg [V 2 (.mv (.k (.c (.b false))))]) (.ret)) (.skip))) (.seq (.rg [V 8 (.mv (.k (.c (.i 1))))]) (.seq (.rg [V 43 (.mv (.t 6)),
V 44 (.mv (.t 8)),
V 45 (.call 48 [(.t 43),(.t 44)]),
V 8 (.mv (.t 45))]) (.seq (.rg [V 9 (.mv (.k (.c (.i 1))))]) (.seq (.rg [V 46 (.mv (.t 6)),
V 47 (.mv (.t 9)),
V 48 (.call 49 [(.t 46),(.t 47)]),
V 9 (.mv (.t 48))]) (.seq (.seq (.rg [V 49 (.mv (.t 9)),
V 50 (.bin .lt (.t 49) (.k (.c (.i 0))))]) (.cond (.t 50) (.seq (.rg [V 2 (.mv (.k (.c (.b false))))]) (.ret)) (.skip))) (.seq (.seq (.rg [V 51 (.mv (.t 9)),
V 52 (.mv (.t 8)),
V 53 (.bin .ne (.t 51) (.t 52))]) (.cond (.t 53) (.seq (.rg [V 2 (.mv (.k (.c (.b false))))]) (.ret)) (.skip))) (.seq (.rg [V 54 (.ld (some 2) (.t 1)),
V 55 (.call 22 [(.t 54)]),
V 56 (.call 46 [(.t 55)]),
V 10 (.mv (.t 56))]) (.seq (.seq (.rg [V 57 (.mv (.t 10)),
V 58 (.mv (.t 4)),
V 59 (.call 47 [(.t 57),(.t 58)]),
V 60 (.not (.t 59))]) (.cond (.t 60) (.seq (.rg [V 2 (.mv (.k (.c (.b false))))]) (.ret)) (.skip))) (.seq (.rg [V 9 (.mv (.k (.c (.i 1))))]) (.seq (.rg [V 61 (.mv (.t 6)),
V 62 (.mv (.t 9)),
V 63 (.call 49 [(.t 61),(.t 62)]),
V 9 (.mv (.t 63))]) (.seq (.seq (.rg [V 64 (.mv (.t 9)),
V 65 (.bin .lt (.t 64) (.k (.c (.i 0))))]) (.cond (.t 65) (.seq (.rg [V 2 (.mv (.k (.c (.b false))))]) (.ret)) (.skip))) (.seq (.seq (.rg [V 66 (.mv (.t 9)),
V 67 (.mv (.t 8)),
V 68 (.bin .ne (.t 66) (.t 67))]) (.cond (.t 68) (.seq (.rg [V 2 (.mv (.k (.c (.b false))))]) (.ret)) (.skip))) (.seq (.rg [V 2 (.mv (.k (.c (.b true))))]) (.ret)))))))))))))))))))))))))
def vf13 : VF := ⟨vf13c,vf13v,[(2,none)]⟩
theorem ok13 : chkF Try.prog Try.f13 vf13 = true := by kernel_rfl
theorem dr13 : drawsB vf13.body = true := by kernel_rfl
/-- loop.example/g00192/laws.FnExactCritical -/
def vf14v : List Nat := [0,1,2,3,4,5,6,7,8,9,10,15,26,31,42,50,53,60,65,68]
def vf14c : VC := .seq (.rg [V 1 (.box (.t 0)),
V 2 (.mv (.k (.c (.b false))))]) (.seq (.rg [V 3 (.mv (.k (.c (.i 1048576))))]) (.seq (.rg [V 11 (.ld (some 2) (.t 1)),
V 12 (.mv (.t 3)),
V 13 (.call 20 [(.t 11),(.t 12)]),
V 3 (.mv (.t 13))]) (.seq (.seq (.rg [V 14 (.mv (.t 3)),
V 15 (.bin .lt (.t 14) (.k (.c (.i 0))))]) (.cond (.t 15) (.seq (.rg [V 2 (.mv (.k (.c (.b true))))]) (.ret)) (.skip))) (.seq (.rg [V 16 (.ld (some 2) (.t 1)),
V 17 (.call 22 [(.t 16)]),
V 18 (.call 50 [(.t 17)]),
V 4 (.mv (.t 18))]) (.seq (.rg [V 19 (.ld (some 2) (.t 1)),
V 20 (.call 22 [(.t 19)]),
V 5 (.alloc [.ns,.i 0]),
Vn (.st 2 (.t 5) (.t 20))]) (.seq (.rg [V 21 (.ld (some 2) (.t 5)),
V 22 (.call 51 [(.t 21)]),
V 6 (.mv (.t 22))]) (.seq (.seq (.rg [V 23 (.mv (.t 6)),
V 24 (.mv (.t 4)),
V 25 (.call 52 [(.t 23),(.t 24)]),
V 26 (.not (.t 25))]) (.cond (.t 26) (.seq (.rg [V 2 (.mv (.k (.c (.b false))))]) (.ret)) (.skip))) (.seq (.seq (.rd [Vc [] [] true (V 27 (.ld (some 2) (.t 5))),
V 28 (.ld (some 2) (.t 1)),
Vc [1] [0] false (V 29 (.call 22 [(.t 28)])),
Vd [0,2] (V 30 (.call 24 [(.t 27),(.t 29)])),
Vd [3] (V 31 (.not (.t 30)))]) (.cond (.t 31) (.seq (.rg [V 2 (.mv (.k (.c (.b false))))]) (.ret)) (.skip))) (.seq (.rg [V 7 (.mv (.k (.c (.i 1))))]) (.seq (.rg [V 32 (.ld (some 2) (.t 5)),
V 33 (.mv (.t 7)),
V 34 (.call 34 [(.t 32),(.t 33)]),
V 7 (.mv (.t 34))]) (.seq (.seq (.rg [V 35 (.mv (.t 7)),
V 36 (.bin .lt (.t 35) (.k (.c (.i 0)))),
V 37 (.mv (.t 36)),
Vg 38 37 false (.mv (.t 6)),
Vg 39 37 false (.mv (.t 4)),
Vg 40 37 false (.call 52 [(.t 38),(.t 39)]),
Vg 41 37 false (.not (.t 40)),
V 42 (.pick (.t 37) (.k (.c (.b true))) (.t 41))]) (.cond (.t 42) (.seq (.rg [V 2 (.mv (.k (.c (.b false))))]) (.ret)) (.skip))) (.seq (.rg [V 8 (.mv (.k (.c (.i 1))))]) (.seq (.rg [V 43 (.mv (.t 6)),
V 44 (.mv (.t 8)),
V 45 (.call 53 [(.t 43),(.t 44)]),
V 8 (.mv (.t 45))]) (.seq (.rg [V 9 (.mv (.k (.c (.i 1))))]) (.seq (.rg [V 46 (.mv (.t 6)),
V 47 (.mv (.t 9)),
V 48 (.call 54 [(.t 46),(.t 47)]),
V 9 (.mv (.t 48))]) (.seq (.seq (.rg [V 49 (.mv (.t 9)),
V 50 (.bin .lt (.t 49) (.k (.c (.i 0))))]) (.cond (.t 50) (.seq (.rg [V 2 (.mv (.k (.c (.b false))))]) (.ret)) (.skip))) (.seq (.seq (.rg [V 51 (.mv (.t 9)),
V 52 (.mv (.t 8)),
V 53 (.bin .ne (.t 51) (.t 52))]) (.cond (.t 53) (.seq (.rg [V 2 (.mv (.k (.c (.b false))))]) (.ret)) (.skip))) (.seq (.rg [V 54 (.ld (some 2) (.t 1)),
V 55 (.call 22 [(.t 54)]),
V 56 (.call 51 [(.t 55)]),
V 10 (.mv (.t 56))]) (.seq (.seq (.rg [V 57 (.mv (.t 10)),
V 58 (.mv (.t 4)),
V 59 (.call 52 [(.t 57),(.t 58)]),
V 60 (.not (.t 59))]) (.cond (.t 60) (.seq (.rg [V 2 (.mv (.k (.c (.b false))))]) (.ret)) (.skip))) (.seq (.rg [V 9 (.mv (.k (.c (.i 1))))]) (.seq (.rg [V 61 (.mv (.t 6)),
V 62 (.mv (.t 9)),
V 63 (.call 54 [(.t 61),(.t 62)]),
V 9 (.mv (.t 63))]) (.seq (.seq (.rg [V 64 (.mv (.t 9)),
V 65 (.bin .lt (.t 64) (.k (.c (.i 0))))]) (.cond (.t 65) (.seq (.rg [V 2 (.mv (.k (.c (.b false))))]) (.ret)) (.skip))) (.seq (.seq (.rg [V 66 (.mv (.t 9)),
V 67 (.mv (.t 8)),
V 68 (.bin .ne (.t 66) (.t 67))]) (.cond (.t 68) (.seq (.rg [V 2 (.mv (.k (.c (.b false))))]) (.ret)) (.skip))) (.seq (.rg [V 2 (.mv (.k (.c (.b true))))]) (.ret)))))))))))))))))))))))))
def vf14 : VF := ⟨vf14c,vf14v,[(2,none)]⟩
theorem ok14 : chkF Try.prog Try.f14 vf14 = true := by kernel_rfl
theorem dr14 : drawsB vf14.body = true := by kernel_rfl
/-- loop.example/g00192/laws.szMoveS -/
def vf15v : List Nat := [0,1,4,10]
def vf15c : VC := .seq (.rg [V 4 (.mv (.k (.c (.i 0))))]) (.seq (.rg [V 5 (.mv (.t 1)),
V 6 (.mv (.t 0)),
V 7 (.len (.t 6)),
V 8 (.bin .sub (.t 5) (.t 7)),
V 1 (.mv (.t 8))]) (.seq (.seq (.rg [V 9 (.mv (.t 1)),
V 10 (.bin .lt (.t 9) (.k (.c (.i 0))))]) (.cond (.t 10) (.seq (.rg [V 4 (.mv (.k (.c (.i (-1)))))]) (.ret)) (.skip))) (.seq (.rg [V 11 (.mv (.t 1)),
V 4 (.mv (.t 11))]) (.ret))))
def vf15 : VF := ⟨vf15c,vf15v,[(4,none)]⟩
theorem ok15 : chkF Try.prog Try.f15 vf15 = true := by kernel_rfl
theorem dr15 : drawsB vf15.body = true := by kernel_rfl
/-- loop.example/g00192/spec.MovesOk -/
def vf16v : List Nat := [0,1,4,5,6,10,44,47,60]
def vf16b0 : VC := .seq (.seq (.rg [V 45 (.mv (.t 6)),
V 46 (.mv (.t 5)),
V 47 (.bin .lt (.t 45) (.t 46))]) (.cond (.t 47) (.skip) (.exit 2))) (.seq (.block 3 (.seq (.rd [V 50 (.mv (.t 0)),
V 51 (.mv (.t 6)),
Vd [0,1] (V 52 (.idx 2 (.t 50) (.t 51))),
Vd [2] (V 53 (.fad 0 (.t 52))),
Vd [3] (V 54 (.ld none (.t 53))),
V 55 (.mv (.t 0)),
V 56 (.mv (.t 5)),
Vd [5,6] (V 57 (.idx 2 (.t 55) (.t 56))),
Vd [7] (V 58 (.fad 0 (.t 57))),
Vd [8] (V 59 (.ld none (.t 58))),
Vd [4,9] (V 60 (.bin .eq (.t 54) (.t 59)))]) (.cond (.t 60) (.seq (.rg [V 4 (.mv (.k (.c (.b false))))]) (.ret)) (.skip)))) (.rg [V 48 (.mv (.t 6)),
V 49 (.bin .add (.t 48) (.k (.c (.i 1)))),
V 6 (.mv (.t 49))]))
def vf16b1 : VC := .seq (.seq (.rg [V 7 (.mv (.t 5)),
V 8 (.mv (.t 0)),
V 9 (.len (.t 8)),
V 10 (.bin .lt (.t 7) (.t 9))]) (.cond (.t 10) (.skip) (.exit 0))) (.seq (.block 1 (.seq (.seq (.rg [V 13 (.mv (.t 0)),
V 14 (.mv (.t 5)),
V 15 (.idx 2 (.t 13) (.t 14)),
V 16 (.fad 0 (.t 15)),
V 17 (.ld none (.t 16)),
V 18 (.bin .lt (.t 17) (.k (.c (.i 0)))),
V 19 (.mv (.t 18)),
Vg 20 19 false (.mv (.t 0)),
Vg 21 19 false (.mv (.t 5)),
Vg 22 19 false (.idx 2 (.t 20) (.t 21)),
Vg 23 19 false (.fad 0 (.t 22)),
Vg 24 19 false (.ld none (.t 23)),
Vg 25 19 false (.mv (.t 1)),
Vg 26 19 false (.bin .ge (.t 24) (.t 25)),
V 27 (.pick (.t 19) (.k (.c (.b true))) (.t 26)),
V 28 (.mv (.t 27)),
Vg 29 28 false (.mv (.t 0)),
Vg 30 28 false (.mv (.t 5)),
Vg 31 28 false (.idx 2 (.t 29) (.t 30)),
Vg 32 28 false (.fad 1 (.t 31)),
Vg 33 28 false (.ld none (.t 32)),
Vg 34 28 false (.bin .lt (.t 33) (.k (.c (.i 0)))),
V 35 (.pick (.t 28) (.k (.c (.b true))) (.t 34)),
V 36 (.mv (.t 35)),
Vg 37 36 false (.mv (.t 0)),
Vg 38 36 false (.mv (.t 5)),
Vg 39 36 false (.idx 2 (.t 37) (.t 38)),
Vg 40 36 false (.fad 1 (.t 39)),
Vg 41 36 false (.ld none (.t 40)),
Vg 42 36 false (.mv (.t 1)),
Vg 43 36 false (.bin .ge (.t 41) (.t 42)),
V 44 (.pick (.t 36) (.k (.c (.b true))) (.t 43))]) (.cond (.t 44) (.seq (.rg [V 4 (.mv (.k (.c (.b false))))]) (.ret)) (.skip))) (.seq (.rg [V 6 (.mv (.k (.c (.i 0))))]) (.block 2 (.loop vf16b0))))) (.rg [V 11 (.mv (.t 5)),
V 12 (.bin .add (.t 11) (.k (.c (.i 1)))),
V 5 (.mv (.t 12))]))
def vf16c : VC := .seq (.rg [V 4 (.mv (.k (.c (.b false))))]) (.seq (.seq (.rg [V 5 (.mv (.k (.c (.i 0))))]) (.block 0 (.loop vf16b1))) (.seq (.rg [V 61 (.mv (.t 0)),
V 62 (.len (.t 61)),
V 63 (.bin .le (.t 62) (.k (.c (.i 24)))),
V 4 (.mv (.t 63))]) (.ret)))
def vf16 : VF := ⟨vf16c,vf16v,[(4,none)]⟩
theorem ok16 : chkF Try.prog Try.f16 vf16 = true := by kernel_rfl
theorem dr16 : drawsB vf16.body = true := by kernel_rfl
/-- loop.example/g00192/laws.toMoveS -/
def vf17v : List Nat := [0,2,3,4,11]
def vf17b0 : VC := .seq (.seq (.rg [V 8 (.mv (.t 4)),
V 9 (.mv (.t 0)),
V 10 (.len (.t 9)),
V 11 (.bin .lt (.t 8) (.t 10))]) (.cond (.t 11) (.skip) (.exit 0))) (.seq (.block 1 (.rg [V 14 (.mv (.t 3)),
V 15 (.mv (.t 4)),
V 16 (.mv (.t 0)),
V 17 (.mv (.t 4)),
V 18 (.idx 2 (.t 16) (.t 17)),
V 19 (.ld (some 2) (.t 18)),
V 20 (.call 55 [(.t 19)]),
V 21 (.idx 2 (.t 14) (.t 15)),
Vn (.st 2 (.t 21) (.t 20))])) (.rg [V 12 (.mv (.t 4)),
V 13 (.bin .add (.t 12) (.k (.c (.i 1)))),
V 4 (.mv (.t 13))]))
def vf17c : VC := .seq (.rg [V 2 (.mv (.k (.c .ns)))]) (.seq (.rg [V 5 (.mv (.t 0)),
V 6 (.len (.t 5)),
V 7 (.mks 2 [.i 0,.i 0] (.t 6)),
V 3 (.mv (.t 7))]) (.seq (.seq (.rg [V 4 (.mv (.k (.c (.i 0))))]) (.block 0 (.loop vf17b0))) (.seq (.rg [V 22 (.mv (.t 3)),
V 2 (.mv (.t 22))]) (.ret))))
def vf17 : VF := ⟨vf17c,vf17v,[(2,none)]⟩
theorem ok17 : chkF Try.prog Try.f17 vf17 = true := by kernel_rfl
theorem dr17 : drawsB vf17.body = true := by kernel_rfl
/-- loop.example/g00192/impl.MovesOk -/
def vf18v : List Nat := [0,1,4,5,6,7,8,9,10,40]
def vf18b0 : VC := .seq (.rg [V 10 (.bin .lt (.t 9) (.t 8))]) (.seq (.cond (.t 10) (.skip) (.exit 0)) (.seq (.block 1 (.seq (.rg [V 11 (.mv (.t 9)),
V 12 (.idx 2 (.t 7) (.t 9)),
V 13 (.ld (some 2) (.t 12)),
V 6 (.alloc [.i 0,.i 0]),
V 5 (.mv (.t 11)),
Vn (.st 2 (.t 6) (.t 13))]) (.seq (.rg [V 14 (.fad 0 (.t 6)),
V 15 (.ld none (.t 14)),
V 16 (.bin .lt (.t 15) (.k (.c (.i 0)))),
V 17 (.mv (.t 16)),
Vg 18 17 false (.fad 0 (.t 6)),
Vg 19 17 false (.ld none (.t 18)),
Vg 20 17 false (.mv (.t 1)),
Vg 21 17 false (.bin .ge (.t 19) (.t 20)),
V 22 (.pick (.t 17) (.k (.c (.b true))) (.t 21)),
V 23 (.mv (.t 22)),
Vg 24 23 false (.fad 1 (.t 6)),
Vg 25 23 false (.ld none (.t 24)),
Vg 26 23 false (.bin .lt (.t 25) (.k (.c (.i 0)))),
V 27 (.pick (.t 23) (.k (.c (.b true))) (.t 26)),
V 28 (.mv (.t 27)),
Vg 29 28 false (.fad 1 (.t 6)),
Vg 30 28 false (.ld none (.t 29)),
Vg 31 28 false (.mv (.t 1)),
Vg 32 28 false (.bin .ge (.t 30) (.t 31)),
V 33 (.pick (.t 28) (.k (.c (.b true))) (.t 32)),
V 34 (.mv (.t 33)),
Vg 35 34 false (.mv (.t 0)),
Vg 36 34 false (.mv (.t 5)),
Vg 37 34 false (.slc 2 (.t 35) none (some (.t 36))),
Vg 38 34 false (.mkf 57 [(.t 6)]),
Vg 39 34 false (.call 56 [(.t 37),(.t 38)]),
V 40 (.pick (.t 34) (.k (.c (.b true))) (.t 39))]) (.cond (.t 40) (.seq (.rg [V 4 (.mv (.k (.c (.b false))))]) (.ret)) (.skip))))) (.rg [V 41 (.bin .add (.t 9) (.k (.c (.i 1)))),
V 9 (.mv (.t 41))])))
def vf18c : VC := .seq (.rg [V 4 (.mv (.k (.c (.b false))))]) (.seq (.seq (.rg [V 7 (.mv (.t 0)),
V 8 (.len (.t 7)),
V 9 (.mv (.k (.c (.i 0))))]) (.block 0 (.loop vf18b0))) (.seq (.rg [V 42 (.mv (.t 0)),
V 43 (.len (.t 42)),
V 44 (.bin .le (.t 43) (.k (.c (.i 24)))),
V 4 (.mv (.t 44))]) (.ret)))
def vf18 : VF := ⟨vf18c,vf18v,[(4,none)]⟩
theorem ok18 : chkF Try.prog Try.f18 vf18 = true := by kernel_rfl
theorem dr18 : drawsB vf18.body = true := by kernel_rfl
/-- loop.example/g00192/laws.eqMoveS -/
def vf19v : List Nat := [0,1,4,5,10,14,26]
def vf19b0 : VC := .seq (.seq (.rg [V 11 (.mv (.t 5)),
V 12 (.mv (.t 0)),
V 13 (.len (.t 12)),
V 14 (.bin .lt (.t 11) (.t 13))]) (.cond (.t 14) (.skip) (.exit 0))) (.seq (.block 1 (.seq (.rd [V 17 (.mv (.t 0)),
V 18 (.mv (.t 5)),
Vd [0,1] (V 19 (.idx 2 (.t 17) (.t 18))),
Vd [2] (V 20 (.ld (some 2) (.t 19))),
V 21 (.mv (.t 1)),
V 22 (.mv (.t 5)),
Vd [4,5] (V 23 (.idx 2 (.t 21) (.t 22))),
Vd [6] (V 24 (.ld (some 2) (.t 23))),
Vd [3,7] (V 25 (.call 58 [(.t 20),(.t 24)])),
Vd [8] (V 26 (.not (.t 25)))]) (.cond (.t 26) (.seq (.rg [V 4 (.mv (.k (.c (.b false))))]) (.ret)) (.skip)))) (.rg [V 15 (.mv (.t 5)),
V 16 (.bin .add (.t 15) (.k (.c (.i 1)))),
V 5 (.mv (.t 16))]))
def vf19c : VC := .seq (.rg [V 4 (.mv (.k (.c (.b false))))]) (.seq (.seq (.rg [V 6 (.mv (.t 0)),
V 7 (.len (.t 6)),
V 8 (.mv (.t 1)),
V 9 (.len (.t 8)),
V 10 (.bin .ne (.t 7) (.t 9))]) (.cond (.t 10) (.seq (.rg [V 4 (.mv (.k (.c (.b false))))]) (.ret)) (.skip))) (.seq (.seq (.rg [V 5 (.mv (.k (.c (.i 0))))]) (.block 0 (.loop vf19b0))) (.seq (.rg [V 4 (.mv (.k (.c (.b true))))]) (.ret))))
def vf19 : VF := ⟨vf19c,vf19v,[(4,none)]⟩
theorem ok19 : chkF Try.prog Try.f19 vf19 = true := by kernel_rfl
theorem dr19 : drawsB vf19.body = true := by kernel_rfl
/-- loop.example/g00192/laws.szFn -/
def vf20v : List Nat := [0,1,2,4,10]
def vf20c : VC := .seq (.rg [V 2 (.box (.t 0)),
V 4 (.mv (.k (.c (.i 0))))]) (.seq (.rg [V 5 (.fad 0 (.t 2)),
V 6 (.ld none (.t 5)),
V 7 (.mv (.t 1)),
V 8 (.call 59 [(.t 6),(.t 7)]),
V 1 (.mv (.t 8))]) (.seq (.seq (.rg [V 9 (.mv (.t 1)),
V 10 (.bin .lt (.t 9) (.k (.c (.i 0))))]) (.cond (.t 10) (.seq (.rg [V 4 (.mv (.k (.c (.i (-1)))))]) (.ret)) (.skip))) (.seq (.rg [V 11 (.mv (.t 1)),
V 4 (.mv (.t 11))]) (.ret))))
def vf20 : VF := ⟨vf20c,vf20v,[(4,none)]⟩
theorem ok20 : chkF Try.prog Try.f20 vf20 = true := by kernel_rfl
theorem dr20 : drawsB vf20.body = true := by kernel_rfl
/-- loop.example/g00192/spec.ShapeOk -/
def vf21v : List Nat := [0,1,2,3,4,5,6,7,19,22,48,53,65,70,81]
def vf21b0 : VC := .seq (.seq (.rg [V 49 (.mv (.t 6)),
V 50 (.fad 0 (.t 5)),
V 51 (.ld none (.t 50)),
V 52 (.len (.t 51)),
V 53 (.bin .lt (.t 49) (.t 52))]) (.cond (.t 53) (.skip) (.exit 2))) (.seq (.block 3 (.seq (.rd [V 56 (.fad 0 (.t 5)),
Vd [0] (V 57 (.ld none (.t 56))),
V 58 (.mv (.t 6)),
Vd [1,2] (V 59 (.idx 2 (.t 57) (.t 58))),
Vd [3] (V 60 (.ld (some 2) (.t 59))),
V 61 (.mv (.t 3)),
V 62 (.fad 1 (.t 1)),
Vd [6] (V 63 (.ld none (.t 62))),
Vd [4,5,7] (V 64 (.call 62 [(.t 60),(.t 61),(.t 63)])),
Vd [8] (V 65 (.not (.t 64)))]) (.cond (.t 65) (.seq (.rg [V 2 (.mv (.k (.c (.b false))))]) (.ret)) (.skip)))) (.rg [V 54 (.mv (.t 6)),
V 55 (.bin .add (.t 54) (.k (.c (.i 1)))),
V 6 (.mv (.t 55))]))
def vf21b1 : VC := .seq (.seq (.rg [V 66 (.mv (.t 7)),
V 67 (.fad 1 (.t 5)),
V 68 (.ld none (.t 67)),
V 69 (.len (.t 68)),
V 70 (.bin .lt (.t 66) (.t 69))]) (.cond (.t 70) (.skip) (.exit 4))) (.seq (.block 5 (.seq (.rd [V 73 (.fad 1 (.t 5)),
Vd [0] (V 74 (.ld none (.t 73))),
V 75 (.mv (.t 7)),
Vd [1,2] (V 76 (.idx 5 (.t 74) (.t 75))),
Vd [3] (V 77 (.ld (some 5) (.t 76))),
V 78 (.fad 1 (.t 1)),
Vd [5] (V 79 (.ld none (.t 78))),
Vd [4,6] (V 80 (.call 63 [(.t 77),(.t 79)])),
Vd [7] (V 81 (.not (.t 80)))]) (.cond (.t 81) (.seq (.rg [V 2 (.mv (.k (.c (.b false))))]) (.ret)) (.skip)))) (.rg [V 71 (.mv (.t 7)),
V 72 (.bin .add (.t 71) (.k (.c (.i 1)))),
V 7 (.mv (.t 72))]))
def vf21b2 : VC := .seq (.seq (.rg [V 20 (.mv (.t 4)),
V 21 (.mv (.t 3)),
V 22 (.bin .lt (.t 20) (.t 21))]) (.cond (.t 22) (.skip) (.exit 0))) (.seq (.block 1 (.seq (.rg [V 25 (.fad 0 (.t 1)),
V 26 (.ld none (.t 25)),
V 27 (.mv (.t 4)),
V 28 (.idx 6 (.t 26) (.t 27)),
V 29 (.ld (some 6) (.t 28)),
V 5 (.alloc [.ns,.ns,.i 0,.i 0,.i 0,.i 0]),
Vn (.st 6 (.t 5) (.t 29))]) (.seq (.seq (.rg [V 30 (.fad 0 (.t 5)),
V 31 (.ld none (.t 30)),
V 32 (.len (.t 31)),
V 33 (.bin .gt (.t 32) (.k (.c (.i 24)))),
V 34 (.mv (.t 33)),
Vg 35 34 false (.fad 1 (.t 5)),
Vg 36 34 false (.ld none (.t 35)),
Vg 37 34 false (.len (.t 36)),
Vg 38 34 false (.bin .gt (.t 37) (.k (.c (.i 24)))),
V 39 (.pick (.t 34) (.k (.c (.b true))) (.t 38)),
V 40 (.mv (.t 39)),
Vg 41 40 false (.fad 2 (.t 5)),
Vg 42 40 false (.ld (some 4) (.t 41)),
Vg 43 40 false (.mv (.t 3)),
Vg 44 40 false (.fad 1 (.t 1)),
Vg 45 40 false (.ld none (.t 44)),
Vg 46 40 false (.call 61 [(.t 42),(.t 43),(.t 45)]),
Vg 47 40 false (.not (.t 46)),
V 48 (.pick (.t 40) (.k (.c (.b true))) (.t 47))]) (.cond (.t 48) (.seq (.rg [V 2 (.mv (.k (.c (.b false))))]) (.ret)) (.skip))) (.seq (.seq (.rg [V 6 (.mv (.k (.c (.i 0))))]) (.block 2 (.loop vf21b0))) (.seq (.rg [V 7 (.mv (.k (.c (.i 0))))]) (.block 4 (.loop vf21b1))))))) (.rg [V 23 (.mv (.t 4)),
V 24 (.bin .add (.t 23) (.k (.c (.i 1)))),
V 4 (.mv (.t 24))]))
def vf21c : VC := .seq (.rg [V 1 (.box (.t 0)),
V 2 (.mv (.k (.c (.b false))))]) (.seq (.rg [V 8 (.fad 0 (.t 1)),
V 9 (.ld none (.t 8)),
V 10 (.len (.t 9)),
V 3 (.mv (.t 10))]) (.seq (.seq (.rg [V 11 (.mv (.t 3)),
V 12 (.call 60 [(.t 11),(.k (.c (.i 1))),(.k (.c (.i 16)))]),
V 13 (.not (.t 12)),
V 14 (.mv (.t 13)),
Vg 15 14 false (.fad 1 (.t 1)),
Vg 16 14 false (.ld none (.t 15)),
Vg 17 14 false (.call 60 [(.t 16),(.k (.c (.i 0))),(.k (.c (.i 80)))]),
Vg 18 14 false (.not (.t 17)),
V 19 (.pick (.t 14) (.k (.c (.b true))) (.t 18))]) (.cond (.t 19) (.seq (.rg [V 2 (.mv (.k (.c (.b false))))]) (.ret)) (.skip))) (.seq (.seq (.rg [V 4 (.mv (.k (.c (.i 0))))]) (.block 0 (.loop vf21b2))) (.seq (.rg [V 2 (.mv (.k (.c (.b true))))]) (.ret)))))
def vf21 : VF := ⟨vf21c,vf21v,[(2,none)]⟩
theorem ok21 : chkF Try.prog Try.f21 vf21 = true := by kernel_rfl
theorem dr21 : drawsB vf21.body = true := by kernel_rfl
/-- loop.example/g00192/laws.toFn -/
def vf22v : List Nat := [0,1,2,3]
def vf22c : VC := .seq (.rg [V 1 (.box (.t 0)),
V 2 (.alloc [.ns,.i 0])]) (.seq (.rg [V 3 (.alloc [.ns,.i 0])]) (.seq (.rg [V 4 (.fad 0 (.t 1)),
V 5 (.ld none (.t 4)),
V 6 (.call 64 [(.t 5)]),
V 7 (.fad 0 (.t 3)),
Vn (.st 1 (.t 7) (.t 6))]) (.seq (.rg [V 8 (.fad 1 (.t 1)),
V 9 (.ld none (.t 8)),
V 10 (.fad 1 (.t 3)),
Vn (.st 1 (.t 10) (.t 9))]) (.seq (.rg [V 11 (.ld (some 2) (.t 3)),
Vn (.st 2 (.t 2) (.t 11))]) (.ret)))))
def vf22 : VF := ⟨vf22c,vf22v,[(2,(some (some 2)))]⟩
theorem ok22 : chkF Try.prog Try.f22 vf22 = true := by kernel_rfl
theorem dr22 : drawsB vf22.body = true := by kernel_rfl
/-- loop.example/g00192/impl.ShapeOk -/
def vf23v : List Nat := [0,1,2,3,15]
def vf23c : VC := .seq (.rg [V 1 (.box (.t 0)),
V 2 (.mv (.k (.c (.b false))))]) (.seq (.rg [V 4 (.fad 0 (.t 1)),
V 5 (.ld none (.t 4)),
V 6 (.len (.t 5)),
V 3 (.alloc [.i 0]),
Vn (.st 1 (.t 3) (.t 6))]) (.seq (.seq (.rg [V 7 (.ld none (.t 3)),
V 8 (.call 65 [(.t 7),(.k (.c (.i 1))),(.k (.c (.i 16)))]),
V 9 (.not (.t 8)),
V 10 (.mv (.t 9)),
Vg 11 10 false (.fad 1 (.t 1)),
Vg 12 10 false (.ld none (.t 11)),
Vg 13 10 false (.call 65 [(.t 12),(.k (.c (.i 0))),(.k (.c (.i 80)))]),
Vg 14 10 false (.not (.t 13)),
V 15 (.pick (.t 10) (.k (.c (.b true))) (.t 14))]) (.cond (.t 15) (.seq (.rg [V 2 (.mv (.k (.c (.b false))))]) (.ret)) (.skip))) (.seq (.rg [V 16 (.fad 0 (.t 1)),
V 17 (.ld none (.t 16)),
V 18 (.mkf 67 [(.t 3),(.t 1)]),
V 19 (.call 66 [(.t 17),(.t 18)]),
V 20 (.not (.t 19)),
V 2 (.mv (.t 20))]) (.ret))))
def vf23 : VF := ⟨vf23c,vf23v,[(2,none)]⟩
theorem ok23 : chkF Try.prog Try.f23 vf23 = true := by kernel_rfl
theorem dr23 : drawsB vf23.body = true := by kernel_rfl
/-- loop.example/g00192/laws.eqFn -/
def vf24v : List Nat := [0,1,2,3,4,10,15]
def vf24c : VC := .seq (.rg [V 2 (.box (.t 0)),
V 3 (.box (.t 1)),
V 4 (.mv (.k (.c (.b false))))]) (.seq (.seq (.rg [V 5 (.fad 0 (.t 2)),
V 6 (.ld none (.t 5)),
V 7 (.fad 0 (.t 3)),
V 8 (.ld none (.t 7)),
V 9 (.call 75 [(.t 6),(.t 8)]),
V 10 (.not (.t 9))]) (.cond (.t 10) (.seq (.rg [V 4 (.mv (.k (.c (.b false))))]) (.ret)) (.skip))) (.seq (.seq (.rg [V 11 (.fad 1 (.t 2)),
V 12 (.ld none (.t 11)),
V 13 (.fad 1 (.t 3)),
V 14 (.ld none (.t 13)),
V 15 (.bin .ne (.t 12) (.t 14))]) (.cond (.t 15) (.seq (.rg [V 4 (.mv (.k (.c (.b false))))]) (.ret)) (.skip))) (.seq (.rg [V 4 (.mv (.k (.c (.b true))))]) (.ret))))
def vf24 : VF := ⟨vf24c,vf24v,[(4,none)]⟩
theorem ok24 : chkF Try.prog Try.f24 vf24 = true := by kernel_rfl
theorem dr24 : drawsB vf24.body = true := by kernel_rfl
/-- loop.example/g00192/spec.PlainOk -/
def vf25v : List Nat := [0,1,2,3,6,11,21]
def vf25b0 : VC := .seq (.seq (.rg [V 7 (.mv (.t 3)),
V 8 (.fad 0 (.t 1)),
V 9 (.ld none (.t 8)),
V 10 (.len (.t 9)),
V 11 (.bin .lt (.t 7) (.t 10))]) (.cond (.t 11) (.skip) (.exit 0))) (.seq (.block 1 (.seq (.rg [V 14 (.fad 0 (.t 1)),
V 15 (.ld none (.t 14)),
V 16 (.mv (.t 3)),
V 17 (.idx 6 (.t 15) (.t 16)),
V 18 (.fad 0 (.t 17)),
V 19 (.ld none (.t 18)),
V 20 (.len (.t 19)),
V 21 (.bin .gt (.t 20) (.k (.c (.i 0))))]) (.cond (.t 21) (.seq (.rg [V 2 (.mv (.k (.c (.b false))))]) (.ret)) (.skip)))) (.rg [V 12 (.mv (.t 3)),
V 13 (.bin .add (.t 12) (.k (.c (.i 1)))),
V 3 (.mv (.t 13))]))
def vf25c : VC := .seq (.rg [V 1 (.box (.t 0)),
V 2 (.mv (.k (.c (.b false))))]) (.seq (.seq (.rg [V 4 (.ld (some 2) (.t 1)),
V 5 (.call 21 [(.t 4)]),
V 6 (.not (.t 5))]) (.cond (.t 6) (.seq (.rg [V 2 (.mv (.k (.c (.b false))))]) (.ret)) (.skip))) (.seq (.seq (.rg [V 3 (.mv (.k (.c (.i 0))))]) (.block 0 (.loop vf25b0))) (.seq (.rg [V 2 (.mv (.k (.c (.b true))))]) (.ret))))
def vf25 : VF := ⟨vf25c,vf25v,[(2,none)]⟩
theorem ok25 : chkF Try.prog Try.f25 vf25 = true := by kernel_rfl
theorem dr25 : drawsB vf25.body = true := by kernel_rfl
/-- loop.example/g00192/impl.PlainOk -/
def vf26v : List Nat := [0,1,2]
def vf26c : VC := .seq (.rg [V 1 (.box (.t 0)),
V 2 (.mv (.k (.c (.b false))))]) (.seq (.rg [V 3 (.ld (some 2) (.t 1)),
V 4 (.call 23 [(.t 3)]),
V 5 (.mv (.t 4)),
Vg 6 5 true (.fad 0 (.t 1)),
Vg 7 5 true (.ld none (.t 6)),
Vg 8 5 true (.call 66 [(.t 7),(.k (.f 76 []))]),
Vg 9 5 true (.not (.t 8)),
V 10 (.pick (.t 5) (.t 9) (.k (.c (.b false)))),
V 2 (.mv (.t 10))]) (.ret))
def vf26 : VF := ⟨vf26c,vf26v,[(2,none)]⟩
theorem ok26 : chkF Try.prog Try.f26 vf26 = true := by kernel_rfl
theorem dr26 : drawsB vf26.body = true := by kernel_rfl
/-- loop.example/g00192/spec.Cost -/
def vf27v : List Nat := [0,1,2,3,4,7,12]
def vf27b0 : VC := .seq (.seq (.rg [V 8 (.mv (.t 4)),
V 9 (.fad 0 (.t 1)),
V 10 (.ld none (.t 9)),
V 11 (.len (.t 10)),
V 12 (.bin .lt (.t 8) (.t 11))]) (.cond (.t 12) (.skip) (.exit 0))) (.seq (.block 1 (.rd [V 15 (.mv (.t 3)),
V 16 (.fad 0 (.t 1)),
Vd [1] (V 17 (.ld none (.t 16))),
V 18 (.mv (.t 4)),
Vd [2,3] (V 19 (.idx 6 (.t 17) (.t 18))),
Vd [4] (V 20 (.fad 0 (.t 19))),
Vd [5] (V 21 (.ld none (.t 20))),
Vd [6] (V 22 (.len (.t 21))),
Vd [0,7] (V 23 (.bin .add (.t 15) (.t 22))),
V 24 (.fad 0 (.t 1)),
Vd [9] (V 25 (.ld none (.t 24))),
V 26 (.mv (.t 4)),
Vd [10,11] (V 27 (.idx 6 (.t 25) (.t 26))),
Vd [12] (V 28 (.fad 1 (.t 27))),
Vd [13] (V 29 (.ld none (.t 28))),
Vd [14] (V 30 (.len (.t 29))),
Vd [8,15] (V 31 (.bin .add (.t 23) (.t 30))),
Vd [16] (V 3 (.mv (.t 31)))])) (.rg [V 13 (.mv (.t 4)),
V 14 (.bin .add (.t 13) (.k (.c (.i 1)))),
V 4 (.mv (.t 14))]))
def vf27c : VC := .seq (.rg [V 1 (.box (.t 0)),
V 2 (.mv (.k (.c (.i 0))))]) (.seq (.seq (.rg [V 5 (.ld (some 2) (.t 1)),
V 6 (.call 21 [(.t 5)]),
V 7 (.not (.t 6))]) (.cond (.t 7) (.seq (.rg [V 2 (.mv (.k (.c (.i (-1)))))]) (.ret)) (.skip))) (.seq (.rg [V 3 (.mv (.k (.c (.i 0))))]) (.seq (.seq (.rg [V 4 (.mv (.k (.c (.i 0))))]) (.block 0 (.loop vf27b0))) (.seq (.rg [V 32 (.mv (.t 3)),
V 2 (.mv (.t 32))]) (.ret)))))
def vf27 : VF := ⟨vf27c,vf27v,[(2,none)]⟩
theorem ok27 : chkF Try.prog Try.f27 vf27 = true := by kernel_rfl
theorem dr27 : drawsB vf27.body = true := by kernel_rfl
/-- loop.example/g00192/impl.Cost -/
def vf28v : List Nat := [0,1,2,3,5,8,10,11,12,13]
def vf28b0 : VC := .seq (.rg [V 13 (.bin .lt (.t 12) (.t 11))]) (.seq (.cond (.t 13) (.skip) (.exit 0)) (.seq (.block 1 (.seq (.rg [V 14 (.idx 6 (.t 10) (.t 12)),
V 15 (.ld (some 6) (.t 14)),
V 5 (.alloc [.ns,.ns,.i 0,.i 0,.i 0,.i 0]),
Vn (.st 6 (.t 5) (.t 15))]) (.rg [V 16 (.mv (.t 3)),
V 17 (.fad 0 (.t 5)),
V 18 (.ld none (.t 17)),
V 19 (.len (.t 18)),
V 20 (.fad 1 (.t 5)),
V 21 (.ld none (.t 20)),
V 22 (.len (.t 21)),
V 23 (.bin .add (.t 19) (.t 22)),
V 24 (.bin .add (.t 16) (.t 23)),
V 3 (.mv (.t 24))]))) (.rg [V 25 (.bin .add (.t 12) (.k (.c (.i 1)))),
V 12 (.mv (.t 25))])))
def vf28c : VC := .seq (.rg [V 1 (.box (.t 0)),
V 2 (.mv (.k (.c (.i 0))))]) (.seq (.seq (.rg [V 6 (.ld (some 2) (.t 1)),
V 7 (.call 23 [(.t 6)]),
V 8 (.not (.t 7))]) (.cond (.t 8) (.seq (.rg [V 2 (.mv (.k (.c (.i (-1)))))]) (.ret)) (.skip))) (.seq (.rg [V 3 (.mv (.k (.c (.i 0))))]) (.seq (.seq (.rg [V 9 (.fad 0 (.t 1)),
V 10 (.ld none (.t 9)),
V 11 (.len (.t 10)),
V 12 (.mv (.k (.c (.i 0))))]) (.block 0 (.loop vf28b0))) (.seq (.rg [V 26 (.mv (.t 3)),
V 2 (.mv (.t 26))]) (.ret)))))
def vf28 : VF := ⟨vf28c,vf28v,[(2,none)]⟩
theorem ok28 : chkF Try.prog Try.f28 vf28 = true := by kernel_rfl
theorem dr28 : drawsB vf28.body = true := by kernel_rfl
/-- loop.example/g00192/spec.DefAt -/
def vf29v : List Nat := [0,1,2,4,5,8]
def vf29c : VC := .seq (.rg [V 2 (.box (.t 0)),
V 4 (.mv (.k (.c (.i 0)))),
V 5 (.mv (.k (.c (.i 0))))]) (.seq (.seq (.rg [V 6 (.ld (some 2) (.t 2)),
V 7 (.call 21 [(.t 6)]),
V 8 (.not (.t 7))]) (.cond (.t 8) (.seq (.rg [V 4 (.mv (.k (.c (.i (-1))))),
V 5 (.mv (.k (.c (.i (-2)))))]) (.ret)) (.skip))) (.seq (.rg [V 9 (.ld (some 2) (.t 2)),
V 10 (.mv (.t 1)),
V 11 (.call 77 [(.t 9),(.t 10)]),
V 12 (.ext 0 (.t 11)),
V 13 (.ext 1 (.t 11)),
V 4 (.mv (.t 12)),
V 5 (.mv (.t 13))]) (.ret)))
def vf29 : VF := ⟨vf29c,vf29v,[(4,none),(5,none)]⟩
theorem ok29 : chkF Try.prog Try.f29 vf29 = true := by kernel_rfl
theorem dr29 : drawsB vf29.body = true := by kernel_rfl
/-- loop.example/g00192/impl.DefAt -/
def vf30v : List Nat := [0,1,2,3,4,5,6,7,8,11,13,14,15,16,23,30]
def vf30b0 : VC := .seq (.rg [V 16 (.bin .lt (.t 15) (.t 14))]) (.seq (.cond (.t 16) (.skip) (.exit 0)) (.seq (.block 1 (.seq (.rg [V 17 (.mv (.t 15)),
V 18 (.idx 6 (.t 13) (.t 15)),
V 19 (.ld (some 6) (.t 18)),
V 7 (.alloc [.ns,.ns,.i 0,.i 0,.i 0,.i 0]),
V 6 (.mv (.t 17)),
Vn (.st 6 (.t 7) (.t 19))]) (.seq (.seq (.rg [V 20 (.fad 0 (.t 7)),
V 21 (.ld none (.t 20)),
V 22 (.mkf 78 [(.t 3)]),
V 23 (.call 69 [(.t 21),(.t 22)])]) (.cond (.t 23) (.seq (.rg [V 24 (.mv (.t 6)),
V 4 (.mv (.t 24)),
V 5 (.mv (.k (.c (.i (-1)))))]) (.ret)) (.skip))) (.seq (.rg [V 25 (.fad 1 (.t 7)),
V 26 (.ld none (.t 25)),
V 27 (.mkf 80 [(.t 3)]),
V 28 (.call 79 [(.t 26),(.t 27)]),
V 8 (.mv (.t 28))]) (.seq (.rg [V 29 (.mv (.t 8)),
V 30 (.bin .ge (.t 29) (.k (.c (.i 0))))]) (.cond (.t 30) (.seq (.rg [V 31 (.mv (.t 6)),
V 32 (.mv (.t 8)),
V 4 (.mv (.t 31)),
V 5 (.mv (.t 32))]) (.ret)) (.skip))))))) (.rg [V 33 (.bin .add (.t 15) (.k (.c (.i 1)))),
V 15 (.mv (.t 33))])))
def vf30c : VC := .seq (.rg [V 2 (.box (.t 0)),
V 3 (.box (.t 1)),
V 4 (.mv (.k (.c (.i 0)))),
V 5 (.mv (.k (.c (.i 0))))]) (.seq (.seq (.rg [V 9 (.ld (some 2) (.t 2)),
V 10 (.call 23 [(.t 9)]),
V 11 (.not (.t 10))]) (.cond (.t 11) (.seq (.rg [V 4 (.mv (.k (.c (.i (-1))))),
V 5 (.mv (.k (.c (.i (-2)))))]) (.ret)) (.skip))) (.seq (.seq (.rg [V 12 (.fad 0 (.t 2)),
V 13 (.ld none (.t 12)),
V 14 (.len (.t 13)),
V 15 (.mv (.k (.c (.i 0))))]) (.block 0 (.loop vf30b0))) (.seq (.rg [V 4 (.mv (.k (.c (.i (-1))))),
V 5 (.mv (.k (.c (.i (-2)))))]) (.ret))))
def vf30 : VF := ⟨vf30c,vf30v,[(4,none),(5,none)]⟩
theorem ok30 : chkF Try.prog Try.f30 vf30 = true := by kernel_rfl
theorem dr30 : drawsB vf30.body = true := by kernel_rfl
/-- loop.example/g00192/spec.Succs -/
def vf31v : List Nat := [0,1,2,4,8]
def vf31c : VC := .seq (.rg [V 2 (.box (.t 0)),
V 4 (.mv (.k (.c .ns)))]) (.seq (.seq (.rg [V 5 (.ld (some 2) (.t 2)),
V 6 (.mv (.t 1)),
V 7 (.call 82 [(.t 5),(.t 6)]),
V 8 (.not (.t 7))]) (.cond (.t 8) (.seq (.rg [V 9 (.bsl 1 [.i 0] 0 []),
V 4 (.mv (.t 9))]) (.ret)) (.skip))) (.seq (.rg [V 10 (.ld (some 2) (.t 2)),
V 11 (.mv (.t 1)),
V 12 (.call 83 [(.t 10),(.t 11)]),
V 4 (.mv (.t 12))]) (.ret)))
def vf31 : VF := ⟨vf31c,vf31v,[(4,none)]⟩
theorem ok31 : chkF Try.prog Try.f31 vf31 = true := by kernel_rfl
theorem dr31 : drawsB vf31.body = true := by kernel_rfl
/-- loop.example/g00192/impl.Succs -/
def vf32v : List Nat := [0,1,2,4,8]
def vf32c : VC := .seq (.rg [V 2 (.box (.t 0)),
V 4 (.mv (.k (.c .ns)))]) (.seq (.seq (.rg [V 5 (.ld (some 2) (.t 2)),
V 6 (.mv (.t 1)),
V 7 (.call 84 [(.t 5),(.t 6)]),
V 8 (.not (.t 7))]) (.cond (.t 8) (.seq (.rg [V 4 (.mv (.k (.c .ns)))]) (.ret)) (.skip))) (.seq (.rg [V 9 (.ld (some 2) (.t 2)),
V 10 (.mv (.t 1)),
V 11 (.call 85 [(.t 9),(.t 10)]),
V 4 (.mv (.t 11))]) (.ret)))
def vf32 : VF := ⟨vf32c,vf32v,[(4,none)]⟩
theorem ok32 : chkF Try.prog Try.f32 vf32 = true := by kernel_rfl
theorem dr32 : drawsB vf32.body = true := by kernel_rfl
/-- loop.example/g00192/laws.eqIntS -/
def vf33v : List Nat := [0,1,4,5,10,14,25]
def vf33b0 : VC := .seq (.seq (.rg [V 11 (.mv (.t 5)),
V 12 (.mv (.t 0)),
V 13 (.len (.t 12)),
V 14 (.bin .lt (.t 11) (.t 13))]) (.cond (.t 14) (.skip) (.exit 0))) (.seq (.block 1 (.seq (.rd [V 17 (.mv (.t 0)),
V 18 (.mv (.t 5)),
Vd [0,1] (V 19 (.idx 1 (.t 17) (.t 18))),
Vd [2] (V 20 (.ld none (.t 19))),
V 21 (.mv (.t 1)),
V 22 (.mv (.t 5)),
Vd [4,5] (V 23 (.idx 1 (.t 21) (.t 22))),
Vd [6] (V 24 (.ld none (.t 23))),
Vd [3,7] (V 25 (.bin .ne (.t 20) (.t 24)))]) (.cond (.t 25) (.seq (.rg [V 4 (.mv (.k (.c (.b false))))]) (.ret)) (.skip)))) (.rg [V 15 (.mv (.t 5)),
V 16 (.bin .add (.t 15) (.k (.c (.i 1)))),
V 5 (.mv (.t 16))]))
def vf33c : VC := .seq (.rg [V 4 (.mv (.k (.c (.b false))))]) (.seq (.seq (.rg [V 6 (.mv (.t 0)),
V 7 (.len (.t 6)),
V 8 (.mv (.t 1)),
V 9 (.len (.t 8)),
V 10 (.bin .ne (.t 7) (.t 9))]) (.cond (.t 10) (.seq (.rg [V 4 (.mv (.k (.c (.b false))))]) (.ret)) (.skip))) (.seq (.seq (.rg [V 5 (.mv (.k (.c (.i 0))))]) (.block 0 (.loop vf33b0))) (.seq (.rg [V 4 (.mv (.k (.c (.b true))))]) (.ret))))
def vf33 : VF := ⟨vf33c,vf33v,[(4,none)]⟩
theorem ok33 : chkF Try.prog Try.f33 vf33 = true := by kernel_rfl
theorem dr33 : drawsB vf33.body = true := by kernel_rfl
/-- loop.example/g00192/laws.markFn -/
def vf34v : List Nat := [0,1,2,4]
def vf34c : VC := .seq (.rg [V 2 (.box (.t 0)),
V 4 (.mv (.k (.c (.i 0))))]) (.seq (.rg [V 5 (.fad 0 (.t 2)),
V 6 (.ld none (.t 5)),
V 7 (.mv (.t 1)),
V 8 (.call 86 [(.t 6),(.t 7)]),
V 1 (.mv (.t 8))]) (.seq (.rg [V 9 (.mv (.t 1)),
V 4 (.mv (.t 9))]) (.ret)))
def vf34 : VF := ⟨vf34c,vf34v,[(4,none)]⟩
theorem ok34 : chkF Try.prog Try.f34 vf34 = true := by kernel_rfl
theorem dr34 : drawsB vf34.body = true := by kernel_rfl
/-- loop.example/g00192/laws.markIntS -/
def vf35v : List Nat := [0,1,4,5,9]
def vf35b0 : VC := .seq (.seq (.rg [V 6 (.mv (.t 5)),
V 7 (.mv (.t 0)),
V 8 (.len (.t 7)),
V 9 (.bin .lt (.t 6) (.t 8))]) (.cond (.t 9) (.skip) (.exit 0))) (.seq (.block 1 (.seq (.rg [V 12 (.mv (.t 0)),
V 13 (.mv (.t 5)),
V 14 (.mv (.t 1)),
V 15 (.idx 1 (.t 12) (.t 13)),
Vn (.st 1 (.t 15) (.t 14))]) (.rg [V 16 (.mv (.t 1)),
V 17 (.bin .add (.t 16) (.k (.c (.i 1)))),
V 1 (.mv (.t 17))]))) (.rg [V 10 (.mv (.t 5)),
V 11 (.bin .add (.t 10) (.k (.c (.i 1)))),
V 5 (.mv (.t 11))]))
def vf35c : VC := .seq (.rg [V 4 (.mv (.k (.c (.i 0))))]) (.seq (.seq (.rg [V 5 (.mv (.k (.c (.i 0))))]) (.block 0 (.loop vf35b0))) (.seq (.rg [V 18 (.mv (.t 1)),
V 4 (.mv (.t 18))]) (.ret)))
def vf35 : VF := ⟨vf35c,vf35v,[(4,none)]⟩
theorem ok35 : chkF Try.prog Try.f35 vf35 = true := by kernel_rfl
theorem dr35 : drawsB vf35.body = true := by kernel_rfl
/-- loop.example/g00192/laws.heldIntS -/
def vf36v : List Nat := [0,1,4,5,9,17]
def vf36b0 : VC := .seq (.seq (.rg [V 6 (.mv (.t 5)),
V 7 (.mv (.t 0)),
V 8 (.len (.t 7)),
V 9 (.bin .lt (.t 6) (.t 8))]) (.cond (.t 9) (.skip) (.exit 0))) (.seq (.block 1 (.seq (.seq (.rg [V 12 (.mv (.t 0)),
V 13 (.mv (.t 5)),
V 14 (.idx 1 (.t 12) (.t 13)),
V 15 (.ld none (.t 14)),
V 16 (.mv (.t 1)),
V 17 (.bin .ne (.t 15) (.t 16))]) (.cond (.t 17) (.seq (.rg [V 4 (.mv (.k (.c (.i (-1)))))]) (.ret)) (.skip))) (.rg [V 18 (.mv (.t 1)),
V 19 (.bin .add (.t 18) (.k (.c (.i 1)))),
V 1 (.mv (.t 19))]))) (.rg [V 10 (.mv (.t 5)),
V 11 (.bin .add (.t 10) (.k (.c (.i 1)))),
V 5 (.mv (.t 11))]))
def vf36c : VC := .seq (.rg [V 4 (.mv (.k (.c (.i 0))))]) (.seq (.seq (.rg [V 5 (.mv (.k (.c (.i 0))))]) (.block 0 (.loop vf36b0))) (.seq (.rg [V 20 (.mv (.t 1)),
V 4 (.mv (.t 20))]) (.ret)))
def vf36 : VF := ⟨vf36c,vf36v,[(4,none)]⟩
theorem ok36 : chkF Try.prog Try.f36 vf36 = true := by kernel_rfl
theorem dr36 : drawsB vf36.body = true := by kernel_rfl
/-- loop.example/g00192/spec.Preds -/
def vf37v : List Nat := [0,1,2,4,8]
def vf37c : VC := .seq (.rg [V 2 (.box (.t 0)),
V 4 (.mv (.k (.c .ns)))]) (.seq (.seq (.rg [V 5 (.ld (some 2) (.t 2)),
V 6 (.mv (.t 1)),
V 7 (.call 82 [(.t 5),(.t 6)]),
V 8 (.not (.t 7))]) (.cond (.t 8) (.seq (.rg [V 9 (.bsl 1 [.i 0] 0 []),
V 4 (.mv (.t 9))]) (.ret)) (.skip))) (.seq (.rg [V 10 (.ld (some 2) (.t 2)),
V 11 (.mv (.t 1)),
V 12 (.call 87 [(.t 10),(.t 11)]),
V 4 (.mv (.t 12))]) (.ret)))
def vf37 : VF := ⟨vf37c,vf37v,[(4,none)]⟩
theorem ok37 : chkF Try.prog Try.f37 vf37 = true := by kernel_rfl
theorem dr37 : drawsB vf37.body = true := by kernel_rfl
/-- loop.example/g00192/impl.Preds -/
def vf38v : List Nat := [0,1,2,4,8]
def vf38c : VC := .seq (.rg [V 2 (.box (.t 0)),
V 4 (.mv (.k (.c .ns)))]) (.seq (.seq (.rg [V 5 (.ld (some 2) (.t 2)),
V 6 (.mv (.t 1)),
V 7 (.call 84 [(.t 5),(.t 6)]),
V 8 (.not (.t 7))]) (.cond (.t 8) (.seq (.rg [V 4 (.mv (.k (.c .ns)))]) (.ret)) (.skip))) (.seq (.rg [V 9 (.ld (some 2) (.t 2)),
V 10 (.mv (.t 1)),
V 11 (.call 88 [(.t 9),(.t 10)]),
V 4 (.mv (.t 11))]) (.ret)))
def vf38 : VF := ⟨vf38c,vf38v,[(4,none)]⟩
theorem ok38 : chkF Try.prog Try.f38 vf38 = true := by kernel_rfl
theorem dr38 : drawsB vf38.body = true := by kernel_rfl
/-- loop.example/g00192/spec.Dominates -/
def vf39v : List Nat := [0,1,2,3,6]
def vf39c : VC := .seq (.rg [V 3 (.box (.t 0)),
V 6 (.mv (.k (.c (.b false))))]) (.seq (.rg [V 7 (.ld (some 2) (.t 3)),
V 8 (.mv (.t 2)),
V 9 (.call 82 [(.t 7),(.t 8)]),
V 10 (.mv (.t 9)),
Vg 11 10 true (.ld (some 2) (.t 3)),
Vg 12 10 true (.call 90 [(.t 11)]),
Vg 13 10 true (.mv (.t 2)),
Vg 14 10 true (.idx 1 (.t 12) (.t 13)),
Vg 15 10 true (.ld none (.t 14)),
Vg 16 10 true (.mv (.t 1)),
Vg 17 10 true (.call 89 [(.t 15),(.t 16)]),
V 18 (.pick (.t 10) (.t 17) (.k (.c (.b false)))),
V 6 (.mv (.t 18))]) (.ret))
def vf39 : VF := ⟨vf39c,vf39v,[(6,none)]⟩
theorem ok39 : chkF Try.prog Try.f39 vf39 = true := by kernel_rfl
theorem dr39 : drawsB vf39.body = true := by kernel_rfl
/-- loop.example/g00192/impl.Dominates -/
def vf40v : List Nat := [0,1,2,3,6]
def vf40c : VC := .seq (.rg [V 3 (.box (.t 0)),
V 6 (.mv (.k (.c (.b false))))]) (.seq (.rg [V 7 (.ld (some 2) (.t 3)),
V 8 (.call 92 [(.t 7)]),
V 9 (.mv (.t 1)),
V 10 (.mv (.t 2)),
V 11 (.call 91 [(.t 8),(.t 9),(.t 10)]),
V 6 (.mv (.t 11))]) (.ret))
def vf40 : VF := ⟨vf40c,vf40v,[(6,none)]⟩
theorem ok40 : chkF Try.prog Try.f40 vf40 = true := by kernel_rfl
theorem dr40 : drawsB vf40.body = true := by kernel_rfl
/-- loop.example/g00192/spec.Above -/
def vf41v : List Nat := [0,1,2,4,5,6,7,11,20,46]
def vf41b0 : VC := .seq (.seq (.rg [V 14 (.mv (.t 6)),
V 15 (.mv (.t 5)),
V 16 (.mv (.t 1)),
V 17 (.idx 1 (.t 15) (.t 16)),
V 18 (.ld none (.t 17)),
V 19 (.len (.t 18)),
V 20 (.bin .lt (.t 14) (.t 19))]) (.cond (.t 20) (.skip) (.exit 0))) (.seq (.block 1 (.seq (.rg [V 23 (.mv (.t 5)),
V 24 (.mv (.t 1)),
V 25 (.idx 1 (.t 23) (.t 24)),
V 26 (.ld none (.t 25)),
V 27 (.mv (.t 6)),
V 28 (.idx 1 (.t 26) (.t 27)),
V 29 (.ld none (.t 28)),
V 7 (.mv (.t 29))]) (.seq (.rd [V 30 (.mv (.t 7)),
V 31 (.mv (.t 1)),
Vd [0,1] (V 32 (.bin .ne (.t 30) (.t 31))),
Vd [2] (V 33 (.mv (.t 32))),
Vd [3] (Vg 34 33 true (.mv (.t 5))),
Vd [3] (Vg 35 33 true (.mv (.t 7))),
Vd [4,5] (Vg 36 33 true (.idx 1 (.t 34) (.t 35))),
Vd [6] (Vg 37 33 true (.ld none (.t 36))),
Vd [7] (Vg 38 33 true (.len (.t 37))),
Vd [3] (Vg 39 33 true (.mv (.t 5))),
Vd [3] (Vg 40 33 true (.mv (.t 1))),
Vd [9,10] (Vg 41 33 true (.idx 1 (.t 39) (.t 40))),
Vd [11] (Vg 42 33 true (.ld none (.t 41))),
Vd [12] (Vg 43 33 true (.len (.t 42))),
Vd [13] (Vg 44 33 true (.bin .sub (.t 43) (.k (.c (.i 1))))),
Vd [8,14] (Vg 45 33 true (.bin .eq (.t 38) (.t 44))),
Vd [15] (V 46 (.pick (.t 33) (.t 45) (.k (.c (.b false)))))]) (.cond (.t 46) (.seq (.rg [V 47 (.mv (.t 7)),
V 4 (.mv (.t 47))]) (.ret)) (.skip))))) (.rg [V 21 (.mv (.t 6)),
V 22 (.bin .add (.t 21) (.k (.c (.i 1)))),
V 6 (.mv (.t 22))]))
def vf41c : VC := .seq (.rg [V 2 (.box (.t 0)),
V 4 (.mv (.k (.c (.i 0))))]) (.seq (.seq (.rg [V 8 (.ld (some 2) (.t 2)),
V 9 (.mv (.t 1)),
V 10 (.call 82 [(.t 8),(.t 9)]),
V 11 (.not (.t 10))]) (.cond (.t 11) (.seq (.rg [V 4 (.mv (.k (.c (.i (-1)))))]) (.ret)) (.skip))) (.seq (.rg [V 12 (.ld (some 2) (.t 2)),
V 13 (.call 90 [(.t 12)]),
V 5 (.mv (.t 13))]) (.seq (.seq (.rg [V 6 (.mv (.k (.c (.i 0))))]) (.block 0 (.loop vf41b0))) (.seq (.rg [V 4 (.mv (.k (.c (.i (-1)))))]) (.ret)))))
def vf41 : VF := ⟨vf41c,vf41v,[(4,none)]⟩
theorem ok41 : chkF Try.prog Try.f41 vf41 = true := by kernel_rfl
theorem dr41 : drawsB vf41.body = true := by kernel_rfl
/-- loop.example/g00192/impl.Above -/
def vf42v : List Nat := [0,1,2,3,4,5,7,8,16,20,21,22,23,28,39]
def vf42b0 : VC := .seq (.rg [V 23 (.bin .lt (.t 22) (.t 21))]) (.seq (.cond (.t 23) (.skip) (.exit 0)) (.seq (.block 1 (.seq (.rg [V 24 (.idx 1 (.t 20) (.t 22)),
V 25 (.ld none (.t 24)),
V 7 (.alloc [.i 0]),
Vn (.st 1 (.t 7) (.t 25))]) (.seq (.seq (.rg [V 26 (.ld none (.t 7)),
V 27 (.ld none (.t 3)),
V 28 (.bin .eq (.t 26) (.t 27))]) (.cond (.t 28) (.exit 1) (.skip))) (.seq (.rg [V 29 (.ld none (.t 5)),
V 30 (.ld none (.t 3)),
V 31 (.idx 1 (.t 29) (.t 30)),
V 32 (.ld none (.t 31)),
V 33 (.call 94 [(.t 32)]),
V 34 (.mkf 95 [(.t 3)]),
V 35 (.call 93 [(.t 33),(.t 34)]),
V 8 (.mv (.t 35))]) (.seq (.rg [V 36 (.mv (.t 8)),
V 37 (.mkf 97 [(.t 5),(.t 7)]),
V 38 (.call 96 [(.t 36),(.t 37)]),
V 39 (.not (.t 38))]) (.cond (.t 39) (.seq (.rg [V 40 (.ld none (.t 7)),
V 4 (.mv (.t 40))]) (.ret)) (.skip))))))) (.rg [V 41 (.bin .add (.t 22) (.k (.c (.i 1)))),
V 22 (.mv (.t 41))])))
def vf42c : VC := .seq (.rg [V 2 (.box (.t 0)),
V 3 (.box (.t 1)),
V 4 (.mv (.k (.c (.i 0))))]) (.seq (.rg [V 9 (.ld (some 2) (.t 2)),
V 10 (.call 92 [(.t 9)]),
V 5 (.alloc [.ns]),
Vn (.st 1 (.t 5) (.t 10))]) (.seq (.seq (.rg [V 11 (.ld none (.t 3)),
V 12 (.ld none (.t 5)),
V 13 (.len (.t 12)),
V 14 (.bin .sub (.t 13) (.k (.c (.i 1)))),
V 15 (.call 65 [(.t 11),(.k (.c (.i 0))),(.t 14)]),
V 16 (.not (.t 15))]) (.cond (.t 16) (.seq (.rg [V 4 (.mv (.k (.c (.i (-1)))))]) (.ret)) (.skip))) (.seq (.seq (.rg [V 17 (.ld none (.t 5)),
V 18 (.ld none (.t 3)),
V 19 (.idx 1 (.t 17) (.t 18)),
V 20 (.ld none (.t 19)),
V 21 (.len (.t 20)),
V 22 (.mv (.k (.c (.i 0))))]) (.block 0 (.loop vf42b0))) (.seq (.rg [V 4 (.mv (.k (.c (.i (-1)))))]) (.ret)))))
def vf42 : VF := ⟨vf42c,vf42v,[(4,none)]⟩
theorem ok42 : chkF Try.prog Try.f42 vf42 = true := by kernel_rfl
theorem dr42 : drawsB vf42.body = true := by kernel_rfl
/-- loop.example/g00192/spec.Order -/
def vf43v : List Nat := [0,1,2,5]
def vf43c : VC := .seq (.rg [V 1 (.box (.t 0)),
V 2 (.mv (.k (.c .ns)))]) (.seq (.seq (.rg [V 3 (.ld (some 2) (.t 1)),
V 4 (.call 21 [(.t 3)]),
V 5 (.not (.t 4))]) (.cond (.t 5) (.seq (.rg [V 6 (.bsl 1 [.i 0] 0 []),
V 2 (.mv (.t 6))]) (.ret)) (.skip))) (.seq (.rg [V 7 (.ld (some 2) (.t 1)),
V 8 (.call 98 [(.t 7)]),
V 2 (.mv (.t 8))]) (.ret)))
def vf43 : VF := ⟨vf43c,vf43v,[(2,none)]⟩
theorem ok43 : chkF Try.prog Try.f43 vf43 = true := by kernel_rfl
theorem dr43 : drawsB vf43.body = true := by kernel_rfl
/-- loop.example/g00192/impl.Order -/
def vf44v : List Nat := [0,1,2,3,7]
def vf44c : VC := .seq (.rg [V 1 (.box (.t 0)),
V 2 (.mv (.k (.c .ns)))]) (.seq (.seq (.rg [V 5 (.ld (some 2) (.t 1)),
V 6 (.call 23 [(.t 5)]),
V 7 (.not (.t 6))]) (.cond (.t 7) (.seq (.rg [V 2 (.mv (.k (.c .ns)))]) (.ret)) (.skip))) (.seq (.rg [V 9 (.ld (some 2) (.t 1)),
V 10 (.call 99 [(.t 9)]),
V 8 (.mv (.t 10)),
V 11 (.ext 0 (.t 8)),
V 12 (.ext 1 (.t 8)),
V 3 (.mv (.t 11)),
V 4 (.mv (.t 12))]) (.seq (.rg [V 13 (.mv (.t 3)),
V 2 (.mv (.t 13))]) (.ret))))
def vf44 : VF := ⟨vf44c,vf44v,[(2,none)]⟩
theorem ok44 : chkF Try.prog Try.f44 vf44 = true := by kernel_rfl
theorem dr44 : drawsB vf44.body = true := by kernel_rfl
/-- loop.example/g00192/spec.Reached -/
def vf45v : List Nat := [0,1,2,3,4,5,8,19]
def vf45b0 : VC := .seq (.seq (.rg [V 16 (.mv (.t 5)),
V 17 (.mv (.t 4)),
V 18 (.len (.t 17)),
V 19 (.bin .lt (.t 16) (.t 18))]) (.cond (.t 19) (.skip) (.exit 0))) (.seq (.block 1 (.rg [V 22 (.mv (.t 3)),
V 23 (.mv (.t 4)),
V 24 (.mv (.t 5)),
V 25 (.idx 1 (.t 23) (.t 24)),
V 26 (.ld none (.t 25)),
V 27 (.idx 1 (.t 22) (.t 26)),
Vn (.st 1 (.t 27) (.k (.c (.b true))))])) (.rg [V 20 (.mv (.t 5)),
V 21 (.bin .add (.t 20) (.k (.c (.i 1)))),
V 5 (.mv (.t 21))]))
def vf45c : VC := .seq (.rg [V 1 (.box (.t 0)),
V 2 (.mv (.k (.c .ns)))]) (.seq (.seq (.rg [V 6 (.ld (some 2) (.t 1)),
V 7 (.call 21 [(.t 6)]),
V 8 (.not (.t 7))]) (.cond (.t 8) (.seq (.rg [V 9 (.bsl 1 [.b false] 0 []),
V 2 (.mv (.t 9))]) (.ret)) (.skip))) (.seq (.rg [V 10 (.fad 0 (.t 1)),
V 11 (.ld none (.t 10)),
V 12 (.len (.t 11)),
V 13 (.mks 1 [.b false] (.t 12)),
V 3 (.mv (.t 13))]) (.seq (.rg [V 14 (.ld (some 2) (.t 1)),
V 15 (.call 98 [(.t 14)]),
V 4 (.mv (.t 15))]) (.seq (.seq (.rg [V 5 (.mv (.k (.c (.i 0))))]) (.block 0 (.loop vf45b0))) (.seq (.rg [V 28 (.mv (.t 3)),
V 2 (.mv (.t 28))]) (.ret))))))
def vf45 : VF := ⟨vf45c,vf45v,[(2,none)]⟩
theorem ok45 : chkF Try.prog Try.f45 vf45 = true := by kernel_rfl
theorem dr45 : drawsB vf45.body = true := by kernel_rfl
/-- loop.example/g00192/impl.Reached -/
def vf46v : List Nat := [0,1,2,4,7]
def vf46c : VC := .seq (.rg [V 1 (.box (.t 0)),
V 2 (.mv (.k (.c .ns)))]) (.seq (.seq (.rg [V 5 (.ld (some 2) (.t 1)),
V 6 (.call 23 [(.t 5)]),
V 7 (.not (.t 6))]) (.cond (.t 7) (.seq (.rg [V 2 (.mv (.k (.c .ns)))]) (.ret)) (.skip))) (.seq (.rg [V 9 (.ld (some 2) (.t 1)),
V 10 (.call 99 [(.t 9)]),
V 8 (.mv (.t 10)),
V 11 (.ext 0 (.t 8)),
V 12 (.ext 1 (.t 8)),
V 3 (.mv (.t 11)),
V 4 (.mv (.t 12))]) (.seq (.rg [V 13 (.mv (.t 4)),
V 2 (.mv (.t 13))]) (.ret))))
def vf46 : VF := ⟨vf46c,vf46v,[(2,none)]⟩
theorem ok46 : chkF Try.prog Try.f46 vf46 = true := by kernel_rfl
theorem dr46 : drawsB vf46.body = true := by kernel_rfl
/-- loop.example/g00192/laws.eqBoolS -/
def vf47v : List Nat := [0,1,4,5,10,14,25]
def vf47b0 : VC := .seq (.seq (.rg [V 11 (.mv (.t 5)),
V 12 (.mv (.t 0)),
V 13 (.len (.t 12)),
V 14 (.bin .lt (.t 11) (.t 13))]) (.cond (.t 14) (.skip) (.exit 0))) (.seq (.block 1 (.seq (.rd [V 17 (.mv (.t 0)),
V 18 (.mv (.t 5)),
Vd [0,1] (V 19 (.idx 1 (.t 17) (.t 18))),
Vd [2] (V 20 (.ld none (.t 19))),
V 21 (.mv (.t 1)),
V 22 (.mv (.t 5)),
Vd [4,5] (V 23 (.idx 1 (.t 21) (.t 22))),
Vd [6] (V 24 (.ld none (.t 23))),
Vd [3,7] (V 25 (.eqb true (.t 20) (.t 24)))]) (.cond (.t 25) (.seq (.rg [V 4 (.mv (.k (.c (.b false))))]) (.ret)) (.skip)))) (.rg [V 15 (.mv (.t 5)),
V 16 (.bin .add (.t 15) (.k (.c (.i 1)))),
V 5 (.mv (.t 16))]))
def vf47c : VC := .seq (.rg [V 4 (.mv (.k (.c (.b false))))]) (.seq (.seq (.rg [V 6 (.mv (.t 0)),
V 7 (.len (.t 6)),
V 8 (.mv (.t 1)),
V 9 (.len (.t 8)),
V 10 (.bin .ne (.t 7) (.t 9))]) (.cond (.t 10) (.seq (.rg [V 4 (.mv (.k (.c (.b false))))]) (.ret)) (.skip))) (.seq (.seq (.rg [V 5 (.mv (.k (.c (.i 0))))]) (.block 0 (.loop vf47b0))) (.seq (.rg [V 4 (.mv (.k (.c (.b true))))]) (.ret))))
def vf47 : VF := ⟨vf47c,vf47v,[(4,none)]⟩
theorem ok47 : chkF Try.prog Try.f47 vf47 = true := by kernel_rfl
theorem dr47 : drawsB vf47.body = true := by kernel_rfl
/-- loop.example/g00192/laws.markBoolS -/
def vf48v : List Nat := [0,1,4,5,9]
def vf48b0 : VC := .seq (.seq (.rg [V 6 (.mv (.t 5)),
V 7 (.mv (.t 0)),
V 8 (.len (.t 7)),
V 9 (.bin .lt (.t 6) (.t 8))]) (.cond (.t 9) (.skip) (.exit 0))) (.seq (.block 1 (.seq (.rg [V 12 (.mv (.t 0)),
V 13 (.mv (.t 5)),
V 14 (.mv (.t 1)),
V 15 (.bin .rem (.t 14) (.k (.c (.i 3)))),
V 16 (.bin .eq (.t 15) (.k (.c (.i 0)))),
V 17 (.idx 1 (.t 12) (.t 13)),
Vn (.st 1 (.t 17) (.t 16))]) (.rg [V 18 (.mv (.t 1)),
V 19 (.bin .add (.t 18) (.k (.c (.i 1)))),
V 1 (.mv (.t 19))]))) (.rg [V 10 (.mv (.t 5)),
V 11 (.bin .add (.t 10) (.k (.c (.i 1)))),
V 5 (.mv (.t 11))]))
def vf48c : VC := .seq (.rg [V 4 (.mv (.k (.c (.i 0))))]) (.seq (.seq (.rg [V 5 (.mv (.k (.c (.i 0))))]) (.block 0 (.loop vf48b0))) (.seq (.rg [V 20 (.mv (.t 1)),
V 4 (.mv (.t 20))]) (.ret)))
def vf48 : VF := ⟨vf48c,vf48v,[(4,none)]⟩
theorem ok48 : chkF Try.prog Try.f48 vf48 = true := by kernel_rfl
theorem dr48 : drawsB vf48.body = true := by kernel_rfl
end Go.Proofs.Ytnmnpfdjigpgaaa.Vm
