/- The ideal machine's code for some of the program's functions, each checked against the translated one. No conditions. -/
import Derived.Test.YtlhhmlldcpafiaaChecked
import Derived.Test.YtlhhmlldcpafiaaVmP
import Derived.Test.YtlhhmlldcpafiaaVmC
namespace Go.Proofs.Ytlhhmlldcpafiaa.Vm
set_option linter.unusedVariables false
set_option maxRecDepth 100000
/-- loop.example/g00192/laws.FnExactConstants -/
def vf3v : List Nat := [0]
def vf3 : VF := ⟨.seq (.rg [V 0 (.mv (.k (.c (.b false))))]) (.seq (.cond (.k (.c (.b false))) (.seq (.rg [V 0 (.mv (.k (.c (.b false))))]) (.ret)) (.skip)) (.seq (.cond (.k (.c (.b false))) (.seq (.rg [V 0 (.mv (.k (.c (.b false))))]) (.ret)) (.skip)) (.seq (.cond (.k (.c (.b false))) (.seq (.rg [V 0 (.mv (.k (.c (.b false))))]) (.ret)) (.skip)) (.seq (.cond (.k (.c (.b false))) (.seq (.rg [V 0 (.mv (.k (.c (.b false))))]) (.ret)) (.skip)) (.seq (.cond (.k (.c (.b false))) (.seq (.rg [V 0 (.mv (.k (.c (.b false))))]) (.ret)) (.skip)) (.seq (.cond (.k (.c (.b false))) (.seq (.rg [V 0 (.mv (.k (.c (.b false))))]) (.ret)) (.skip)) (.seq (.cond (.k (.c (.b false))) (.seq (.rg [V 0 (.mv (.k (.c (.b false))))]) (.ret)) (.skip)) (.seq (.cond (.k (.c (.b false))) (.seq (.rg [V 0 (.mv (.k (.c (.b false))))]) (.ret)) (.skip)) (.seq (.cond (.k (.c (.b false))) (.seq (.rg [V 0 (.mv (.k (.c (.b false))))]) (.ret)) (.skip)) (.seq (.cond (.k (.c (.b false))) (.seq (.rg [V 0 (.mv (.k (.c (.b false))))]) (.ret)) (.skip)) (.seq (.cond (.k (.c (.b false))) (.seq (.rg [V 0 (.mv (.k (.c (.b false))))]) (.ret)) (.skip)) (.seq (.cond (.k (.c (.b false))) (.seq (.rg [V 0 (.mv (.k (.c (.b false))))]) (.ret)) (.skip)) (.seq (.cond (.k (.c (.b false))) (.seq (.rg [V 0 (.mv (.k (.c (.b false))))]) (.ret)) (.skip)) (.seq (.cond (.k (.c (.b false))) (.seq (.rg [V 0 (.mv (.k (.c (.b false))))]) (.ret)) (.skip)) (.seq (.cond (.k (.c (.b false))) (.seq (.rg [V 0 (.mv (.k (.c (.b false))))]) (.ret)) (.skip)) (.seq (.cond (.k (.c (.b false))) (.seq (.rg [V 0 (.mv (.k (.c (.b false))))]) (.ret)) (.skip)) (.seq (.cond (.k (.c (.b false))) (.seq (.rg [V 0 (.mv (.k (.c (.b false))))]) (.ret)) (.skip)) (.seq (.cond (.k (.c (.b false))) (.seq (.rg [V 0 (.mv (.k (.c (.b false))))]) (.ret)) (.skip)) (.seq (.cond (.k (.c (.b false))) (.seq (.rg [V 0 (.mv (.k (.c (.b false))))]) (.ret)) (.skip)) (.seq (.cond (.k (.c (.b false))) (.seq (.rg [V 0 (.mv (.k (.c (.b false))))]) (.ret)) (.skip)) (.seq (.cond (.k (.c (.b false))) (.seq (.rg [V 0 (.mv (.k (.c (.b false))))]) (.ret)) (.skip)) (.seq (.cond (.k (.c (.b false))) (.seq (.rg [V 0 (.mv (.k (.c (.b false))))]) (.ret)) (.skip)) (.seq (.cond (.k (.c (.b false))) (.seq (.rg [V 0 (.mv (.k (.c (.b false))))]) (.ret)) (.skip)) (.seq (.cond (.k (.c (.b false))) (.seq (.rg [V 0 (.mv (.k (.c (.b false))))]) (.ret)) (.skip)) (.seq (.cond (.k (.c (.b false))) (.seq (.rg [V 0 (.mv (.k (.c (.b false))))]) (.ret)) (.skip)) (.seq (.cond (.k (.c (.b false))) (.seq (.rg [V 0 (.mv (.k (.c (.b false))))]) (.ret)) (.skip)) (.seq (.cond (.k (.c (.b false))) (.seq (.rg [V 0 (.mv (.k (.c (.b false))))]) (.ret)) (.skip)) (.seq (.cond (.k (.c (.b false))) (.seq (.rg [V 0 (.mv (.k (.c (.b false))))]) (.ret)) (.skip)) (.seq (.cond (.k (.c (.b false))) (.seq (.rg [V 0 (.mv (.k (.c (.b false))))]) (.ret)) (.skip)) (.seq (.cond (.k (.c (.b false))) (.seq (.rg [V 0 (.mv (.k (.c (.b false))))]) (.ret)) (.skip)) (.seq (.cond (.k (.c (.b false))) (.seq (.rg [V 0 (.mv (.k (.c (.b false))))]) (.ret)) (.skip)) (.seq (.cond (.k (.c (.b false))) (.seq (.rg [V 0 (.mv (.k (.c (.b false))))]) (.ret)) (.skip)) (.seq (.cond (.k (.c (.b false))) (.seq (.rg [V 0 (.mv (.k (.c (.b false))))]) (.ret)) (.skip)) (.seq (.cond (.k (.c (.b false))) (.seq (.rg [V 0 (.mv (.k (.c (.b false))))]) (.ret)) (.skip)) (.seq (.cond (.k (.c (.b false))) (.seq (.rg [V 0 (.mv (.k (.c (.b false))))]) (.ret)) (.skip)) (.seq (.cond (.k (.c (.b false))) (.seq (.rg [V 0 (.mv (.k (.c (.b false))))]) (.ret)) (.skip)) (.seq (.cond (.k (.c (.b false))) (.seq (.rg [V 0 (.mv (.k (.c (.b false))))]) (.ret)) (.skip)) (.seq (.cond (.k (.c (.b false))) (.seq (.rg [V 0 (.mv (.k (.c (.b false))))]) (.ret)) (.skip)) (.seq (.cond (.k (.c (.b false))) (.seq (.rg [V 0 (.mv (.k (.c (.b false))))]) (.ret)) (.skip)) (.seq (.cond (.k (.c (.b false))) (.seq (.rg [V 0 (.mv (.k (.c (.b false))))]) (.ret)) (.skip)) (.seq (.cond (.k (.c (.b false))) (.seq (.rg [V 0 (.mv (.k (.c (.b false))))]) (.ret)) (.skip)) (.seq (.cond (.k (.c (.b false))) (.seq (.rg [V 0 (.mv (.k (.c (.b false))))]) (.ret)) (.skip)) (.seq (.cond (.k (.c (.b false))) (.seq (.rg [V 0 (.mv (.k (.c (.b false))))]) (.ret)) (.skip)) (.seq (.cond (.k (.c (.b false))) (.seq (.rg [V 0 (.mv (.k (.c (.b false))))]) (.ret)) (.skip)) (.seq (.cond (.k (.c (.b false))) (.seq (.rg [V 0 (.mv (.k (.c (.b false))))]) (.ret)) (.skip)) (.seq (.cond (.k (.c (.b false))) (.seq (.rg [V 0 (.mv (.k (.c (.b false))))]) (.ret)) (.skip)) (.seq (.cond (.k (.c (.b false))) (.seq (.rg [V 0 (.mv (.k (.c (.b false))))]) (.ret)) (.skip)) (.seq (.cond (.k (.c (.b false))) (.seq (.rg [V 0 (.mv (.k (.c (.b false))))]) (.ret)) (.skip)) (.seq (.cond (.k (.c (.b false))) (.seq (.rg [V 0 (.mv (.k (.c (.b false))))]) (.ret)) (.skip)) (.seq (.cond (.k (.c (.b false))) (.seq (.rg [V 0 (.mv (.k (.c (.b false))))]) (.ret)) (.skip)) (.seq (.cond (.k (.c (.b false))) (.seq (.rg [V 0 (.mv (.k (.c (.b false))))]) (.ret)) (.skip)) (.seq (.cond (.k (.c (.b false))) (.seq (.rg [V 0 (.mv (.k (.c (.b false))))]) (.ret)) (.skip)) (.seq (.rg [V 0 (.mv (.k (.c (.b true))))]) (.ret)))))))))))))))))))))))))))))))))))))))))))))))))))))),
vf3v,[(0,none)]⟩
theorem ok3 : chkF Try.prog Try.f3 vf3 = true := by kernel_rfl
theorem dr3 : drawsB vf3.body = true := by kernel_rfl
/-- loop.example/g00192/laws.FnExactWordOk -/
def vf4v : List Nat := [0,2,3,4,11]
def vf4 : VF := ⟨.seq (.rg [V 2 (.mv (.k (.c (.b false))))]) (.seq (.rg [V 5 (.mv (.t 0)),
V 6 (.call 15 [(.t 5)]),
V 3 (.mv (.t 6))]) (.seq (.rg [V 7 (.mv (.t 0)),
V 8 (.call 16 [(.t 7)]),
V 4 (.mv (.t 8))]) (.seq (.seq (.rg [V 9 (.mv (.t 4)),
V 10 (.mv (.t 3)),
V 11 (.eqb true (.t 9) (.t 10))]) (.cond (.t 11) (.seq (.rg [V 2 (.mv (.k (.c (.b false))))]) (.ret)) (.skip))) (.seq (.rg [V 2 (.mv (.k (.c (.b true))))]) (.ret))))),
vf4v,[(2,none)]⟩
theorem ok4 : chkF Try.prog Try.f4 vf4 = true := by kernel_rfl
theorem dr4 : drawsB vf4.body = true := by kernel_rfl
/-- loop.example/g00192/laws.FnExactWordName -/
def vf5v : List Nat := [0,2,3,4,11]
def vf5 : VF := ⟨.seq (.rg [V 2 (.mv (.k (.c (.b false))))]) (.seq (.rg [V 5 (.mv (.t 0)),
V 6 (.call 17 [(.t 5)]),
V 3 (.mv (.t 6))]) (.seq (.rg [V 7 (.mv (.t 0)),
V 8 (.call 18 [(.t 7)]),
V 4 (.mv (.t 8))]) (.seq (.seq (.rg [V 9 (.mv (.t 4)),
V 10 (.mv (.t 3)),
V 11 (.bin .ne (.t 9) (.t 10))]) (.cond (.t 11) (.seq (.rg [V 2 (.mv (.k (.c (.b false))))]) (.ret)) (.skip))) (.seq (.rg [V 2 (.mv (.k (.c (.b true))))]) (.ret))))),
vf5v,[(2,none)]⟩
theorem ok5 : chkF Try.prog Try.f5 vf5 = true := by kernel_rfl
theorem dr5 : drawsB vf5.body = true := by kernel_rfl
/-- loop.example/g00192/laws.FnExactWordOf -/
def vf6v : List Nat := [0,2,3,4,7,14]
def vf6 : VF := ⟨.seq (.rg [V 2 (.mv (.k (.c (.b false))))]) (.seq (.seq (.rg [V 5 (.mv (.t 0)),
V 6 (.lens (.t 5)),
V 7 (.bin .gt (.t 6) (.k (.c (.i 1048576))))]) (.cond (.t 7) (.seq (.rg [V 2 (.mv (.k (.c (.b true))))]) (.ret)) (.skip))) (.seq (.rg [V 8 (.mv (.t 0)),
V 9 (.call 19 [(.t 8)]),
V 3 (.mv (.t 9))]) (.seq (.rg [V 10 (.mv (.t 0)),
V 11 (.call 20 [(.t 10)]),
V 4 (.mv (.t 11))]) (.seq (.seq (.rg [V 12 (.mv (.t 4)),
V 13 (.mv (.t 3)),
V 14 (.bin .ne (.t 12) (.t 13))]) (.cond (.t 14) (.seq (.rg [V 2 (.mv (.k (.c (.b false))))]) (.ret)) (.skip))) (.seq (.rg [V 2 (.mv (.k (.c (.b true))))]) (.ret)))))),
vf6v,[(2,none)]⟩
theorem ok6 : chkF Try.prog Try.f6 vf6 = true := by kernel_rfl
theorem dr6 : drawsB vf6.body = true := by kernel_rfl
/-- loop.example/g00192/laws.FnExactTermUses -/
def vf7v : List Nat := [0,1,2,3,4,5,6,7,17,25,28,35,40,43]
def vf7 : VF := ⟨.seq (.rg [V 1 (.box (.t 0)),
V 2 (.mv (.k (.c (.b false))))]) (.seq (.rg [V 8 (.ld (some 4) (.t 1)),
V 9 (.call 22 [(.t 8)]),
V 10 (.call 21 [(.t 9)]),
V 3 (.mv (.t 10))]) (.seq (.rg [V 11 (.ld (some 4) (.t 1)),
V 12 (.call 22 [(.t 11)]),
V 13 (.call 23 [(.t 12)]),
V 4 (.mv (.t 13))]) (.seq (.seq (.rg [V 14 (.mv (.t 4)),
V 15 (.mv (.t 3)),
V 16 (.call 24 [(.t 14),(.t 15)]),
V 17 (.not (.t 16))]) (.cond (.t 17) (.seq (.rg [V 2 (.mv (.k (.c (.b false))))]) (.ret)) (.skip))) (.seq (.rg [V 5 (.mv (.k (.c (.i 1))))]) (.seq (.rg [V 18 (.mv (.t 4)),
V 19 (.mv (.t 5)),
V 20 (.call 25 [(.t 18),(.t 19)]),
V 5 (.mv (.t 20))]) (.seq (.rg [V 6 (.mv (.k (.c (.i 1))))]) (.seq (.rg [V 21 (.mv (.t 4)),
V 22 (.mv (.t 6)),
V 23 (.call 26 [(.t 21),(.t 22)]),
V 6 (.mv (.t 23))]) (.seq (.seq (.rg [V 24 (.mv (.t 6)),
V 25 (.bin .lt (.t 24) (.k (.c (.i 0))))]) (.cond (.t 25) (.seq (.rg [V 2 (.mv (.k (.c (.b false))))]) (.ret)) (.skip))) (.seq (.seq (.rg [V 26 (.mv (.t 6)),
V 27 (.mv (.t 5)),
V 28 (.bin .ne (.t 26) (.t 27))]) (.cond (.t 28) (.seq (.rg [V 2 (.mv (.k (.c (.b false))))]) (.ret)) (.skip))) (.seq (.rg [V 29 (.ld (some 4) (.t 1)),
V 30 (.call 22 [(.t 29)]),
V 31 (.call 23 [(.t 30)]),
V 7 (.mv (.t 31))]) (.seq (.seq (.rg [V 32 (.mv (.t 7)),
V 33 (.mv (.t 3)),
V 34 (.call 24 [(.t 32),(.t 33)]),
V 35 (.not (.t 34))]) (.cond (.t 35) (.seq (.rg [V 2 (.mv (.k (.c (.b false))))]) (.ret)) (.skip))) (.seq (.rg [V 6 (.mv (.k (.c (.i 1))))]) (.seq (.rg [V 36 (.mv (.t 4)),
V 37 (.mv (.t 6)),
V 38 (.call 26 [(.t 36),(.t 37)]),
V 6 (.mv (.t 38))]) (.seq (.seq (.rg [V 39 (.mv (.t 6)),
V 40 (.bin .lt (.t 39) (.k (.c (.i 0))))]) (.cond (.t 40) (.seq (.rg [V 2 (.mv (.k (.c (.b false))))]) (.ret)) (.skip))) (.seq (.seq (.rg [V 41 (.mv (.t 6)),
V 42 (.mv (.t 5)),
V 43 (.bin .ne (.t 41) (.t 42))]) (.cond (.t 43) (.seq (.rg [V 2 (.mv (.k (.c (.b false))))]) (.ret)) (.skip))) (.seq (.rg [V 2 (.mv (.k (.c (.b true))))]) (.ret))))))))))))))))),
vf7v,[(2,none)]⟩
theorem ok7 : chkF Try.prog Try.f7 vf7 = true := by kernel_rfl
theorem dr7 : drawsB vf7.body = true := by kernel_rfl
/-- loop.example/g00192/laws.FnExactInsDef -/
def vf8v : List Nat := [0,1,2,3,4,13]
def vf8 : VF := ⟨.seq (.rg [V 1 (.box (.t 0)),
V 2 (.mv (.k (.c (.b false))))]) (.seq (.rg [V 5 (.ld (some 5) (.t 1)),
V 6 (.call 28 [(.t 5)]),
V 7 (.call 27 [(.t 6)]),
V 3 (.mv (.t 7))]) (.seq (.rg [V 8 (.ld (some 5) (.t 1)),
V 9 (.call 28 [(.t 8)]),
V 10 (.call 29 [(.t 9)]),
V 4 (.mv (.t 10))]) (.seq (.seq (.rg [V 11 (.mv (.t 4)),
V 12 (.mv (.t 3)),
V 13 (.bin .ne (.t 11) (.t 12))]) (.cond (.t 13) (.seq (.rg [V 2 (.mv (.k (.c (.b false))))]) (.ret)) (.skip))) (.seq (.rg [V 2 (.mv (.k (.c (.b true))))]) (.ret))))),
vf8v,[(2,none)]⟩
theorem ok8 : chkF Try.prog Try.f8 vf8 = true := by kernel_rfl
theorem dr8 : drawsB vf8.body = true := by kernel_rfl
/-- loop.example/g00192/laws.FnMoves -/
def vf9v : List Nat := [0,2,3,4,5,6,7,8,9,10,11,13,67,69]
def vf9 : VF := ⟨.seq (.rg [V 2 (.mv (.k (.c (.b false))))]) (.seq (.seq (.rg [V 12 (.mv (.t 0)),
V 13 (.call 30 [(.t 12)])]) (.cond (.t 13) (.seq (.rg [V 2 (.mv (.k (.c (.b true))))]) (.ret)) (.skip))) (.seq (.rg [V 15 (.mv (.t 0)),
V 16 (.call 31 [(.t 15)]),
V 14 (.mv (.t 16)),
V 17 (.ext 0 (.t 14)),
V 18 (.ext 1 (.t 14)),
V 3 (.mv (.t 17)),
V 4 (.mv (.t 18))]) (.seq (.rg [V 19 (.mv (.t 4)),
V 20 (.len (.t 19)),
V 5 (.mv (.t 20))]) (.seq (.rg [V 21 (.mv (.t 3)),
V 22 (.mv (.t 5)),
V 23 (.call 32 [(.t 21),(.t 22)]),
V 6 (.mv (.t 23))]) (.seq (.rg [V 25 (.mv (.t 3)),
V 26 (.mv (.t 5)),
V 27 (.call 33 [(.t 25),(.t 26)]),
V 24 (.mv (.t 27)),
V 28 (.ext 0 (.t 24)),
V 29 (.ext 1 (.t 24)),
V 7 (.mv (.t 28)),
V 8 (.mv (.t 29))]) (.seq (.rg [V 31 (.mv (.t 3)),
V 32 (.mv (.t 5)),
V 33 (.call 34 [(.t 31),(.t 32)]),
V 30 (.mv (.t 33)),
V 34 (.ext 0 (.t 30)),
V 35 (.ext 1 (.t 30)),
V 9 (.mv (.t 34)),
V 10 (.mv (.t 35))]) (.seq (.seq (.rg [V 36 (.mv (.t 6)),
V 37 (.mv (.t 3)),
V 38 (.mv (.t 5)),
V 39 (.call 35 [(.t 37),(.t 38)]),
V 40 (.eqb true (.t 36) (.t 39)),
V 41 (.mv (.t 40)),
Vg 42 41 false (.mv (.t 8)),
Vg 43 41 false (.mv (.t 10)),
Vg 44 41 false (.eqb true (.t 42) (.t 43)),
V 45 (.pick (.t 41) (.k (.c (.b true))) (.t 44)),
V 46 (.mv (.t 45)),
Vg 47 46 false (.mv (.t 6)),
Vg 48 46 false (.mv (.t 8)),
Vg 49 46 false (.eqb true (.t 47) (.t 48)),
V 50 (.pick (.t 46) (.k (.c (.b true))) (.t 49)),
V 51 (.mv (.t 50)),
Vg 52 51 false (.mv (.t 7)),
Vg 53 51 false (.len (.t 52)),
Vg 54 51 false (.mv (.t 9)),
Vg 55 51 false (.len (.t 54)),
Vg 56 51 false (.bin .ne (.t 53) (.t 55)),
V 57 (.pick (.t 51) (.k (.c (.b true))) (.t 56)),
V 58 (.mv (.t 57)),
Vg 59 58 false (.mv (.t 3)),
Vg 60 58 false (.mv (.t 4)),
Vg 61 58 false (.call 37 [(.t 59),(.t 60)]),
Vg 62 58 false (.mv (.t 3)),
Vg 63 58 false (.mv (.t 4)),
Vg 64 58 false (.call 38 [(.t 62),(.t 63)]),
Vg 65 58 false (.call 36 [(.t 61),(.t 64)]),
Vg 66 58 false (.not (.t 65)),
V 67 (.pick (.t 58) (.k (.c (.b true))) (.t 66))]) (.cond (.t 67) (.seq (.rg [V 2 (.mv (.k (.c (.b false))))]) (.ret)) (.skip))) (.seq (.seq (.rg [V 68 (.mv (.t 8)),
V 69 (.not (.t 68))]) (.cond (.t 69) (.seq (.rg [V 70 (.mv (.t 7)),
V 71 (.len (.t 70)),
V 72 (.bin .eq (.t 71) (.k (.c (.i 0)))),
V 73 (.mv (.t 72)),
Vg 74 73 true (.mv (.t 3)),
Vg 75 73 true (.mv (.t 4)),
Vg 76 73 true (.call 37 [(.t 74),(.t 75)]),
Vg 77 73 true (.mv (.t 4)),
Vg 78 73 true (.call 36 [(.t 76),(.t 77)]),
V 79 (.pick (.t 73) (.t 78) (.k (.c (.b false)))),
V 2 (.mv (.t 79))]) (.ret)) (.skip))) (.seq (.rg [V 80 (.mv (.t 7)),
V 81 (.bsl 1 [.i 0] 0 []),
V 82 (.mv (.t 4)),
V 83 (.app 1 (.t 81) (.t 82)),
V 84 (.bsl 1 [.i 0] 1 [(0,1,(.k (.c (.i 77))))]),
V 85 (.app 1 (.t 83) (.t 84)),
V 86 (.call 39 [(.t 80),(.t 85)]),
V 11 (.mv (.t 86))]) (.seq (.rd [V 87 (.mv (.t 11)),
V 88 (.mv (.t 5)),
Vd [0,1] (V 89 (.slc 1 (.t 87) none (some (.t 88)))),
V 90 (.mv (.t 3)),
V 91 (.mv (.t 4)),
Vd [3,4] (V 92 (.call 37 [(.t 90),(.t 91)])),
Vb [2,5] (V 93 (.call 36 [(.t 89),(.t 92)])),
Vd [6] (V 94 (.mv (.t 93))),
Vd [7] (Vg 95 94 true (.mv (.t 7))),
Vd [8] (Vg 96 94 true (.len (.t 95))),
Vd [7] (Vg 97 94 true (.mv (.t 3))),
Vd [10] (Vg 98 94 true (.len (.t 97))),
Vd [11] (Vg 99 94 true (.bin .mul (.k (.c (.i 2))) (.t 98))),
Vd [9,12] (Vg 100 94 true (.bin .le (.t 96) (.t 99))),
Vd [13] (V 101 (.pick (.t 94) (.t 100) (.k (.c (.b false))))),
Vd [14] (V 2 (.mv (.t 101)))]) (.ret))))))))))),
vf9v,[(2,none)]⟩
theorem ok9 : chkF Try.prog Try.f9 vf9 = true := by kernel_rfl
theorem dr9 : drawsB vf9.body = true := by kernel_rfl
/-- loop.example/g00192/laws.FnExactWord -/
def vf10v : List Nat := [0,1,2,6,7,8,19]
def vf10 : VF := ⟨.seq (.rg [V 6 (.mv (.k (.c (.b false))))]) (.seq (.rg [V 9 (.mv (.t 0)),
V 10 (.mv (.t 1)),
V 11 (.mv (.t 2)),
V 12 (.call 40 [(.t 9),(.t 10),(.t 11)]),
V 7 (.mv (.t 12))]) (.seq (.rg [V 13 (.mv (.t 0)),
V 14 (.mv (.t 1)),
V 15 (.mv (.t 2)),
V 16 (.call 41 [(.t 13),(.t 14),(.t 15)]),
V 8 (.mv (.t 16))]) (.seq (.seq (.rg [V 17 (.mv (.t 8)),
V 18 (.mv (.t 7)),
V 19 (.bin .ne (.t 17) (.t 18))]) (.cond (.t 19) (.seq (.rg [V 6 (.mv (.k (.c (.b false))))]) (.ret)) (.skip))) (.seq (.rg [V 6 (.mv (.k (.c (.b true))))]) (.ret))))),
vf10v,[(6,none)]⟩
theorem ok10 : chkF Try.prog Try.f10 vf10 = true := by kernel_rfl
theorem dr10 : drawsB vf10.body = true := by kernel_rfl
/-- loop.example/g00192/laws.FnExactMovesOk -/
def vf11v : List Nat := [0,1,4,5,6,7,8,13,25,30]
def vf11 : VF := ⟨.seq (.rg [V 4 (.mv (.k (.c (.b false))))]) (.seq (.rg [V 5 (.mv (.k (.c (.i 1048576))))]) (.seq (.rg [V 9 (.mv (.t 0)),
V 10 (.mv (.t 5)),
V 11 (.call 42 [(.t 9),(.t 10)]),
V 5 (.mv (.t 11))]) (.seq (.seq (.rg [V 12 (.mv (.t 5)),
V 13 (.bin .lt (.t 12) (.k (.c (.i 0))))]) (.cond (.t 13) (.seq (.rg [V 4 (.mv (.k (.c (.b true))))]) (.ret)) (.skip))) (.seq (.rg [V 14 (.mv (.t 0)),
V 15 (.call 43 [(.t 14)]),
V 16 (.mv (.t 1)),
V 17 (.call 35 [(.t 15),(.t 16)]),
V 6 (.mv (.t 17))]) (.seq (.rg [V 18 (.mv (.t 0)),
V 19 (.call 43 [(.t 18)]),
V 7 (.mv (.t 19))]) (.seq (.rg [V 20 (.mv (.t 7)),
V 21 (.mv (.t 1)),
V 22 (.call 32 [(.t 20),(.t 21)]),
V 8 (.mv (.t 22))]) (.seq (.seq (.rg [V 23 (.mv (.t 8)),
V 24 (.mv (.t 6)),
V 25 (.eqb true (.t 23) (.t 24))]) (.cond (.t 25) (.seq (.rg [V 4 (.mv (.k (.c (.b false))))]) (.ret)) (.skip))) (.seq (.seq (.rg [V 26 (.mv (.t 7)),
V 27 (.mv (.t 0)),
V 28 (.call 43 [(.t 27)]),
V 29 (.call 44 [(.t 26),(.t 28)]),
V 30 (.not (.t 29))]) (.cond (.t 30) (.seq (.rg [V 4 (.mv (.k (.c (.b false))))]) (.ret)) (.skip))) (.seq (.rg [V 4 (.mv (.k (.c (.b true))))]) (.ret)))))))))),
vf11v,[(4,none)]⟩
theorem ok11 : chkF Try.prog Try.f11 vf11 = true := by kernel_rfl
theorem dr11 : drawsB vf11.body = true := by kernel_rfl
/-- loop.example/g00192/laws.FnWordNames -/
def vf12v : List Nat := [0,2,3,4,5,7,24]
def vf12 : VF := ⟨.seq (.rg [V 2 (.mv (.k (.c (.b false))))]) (.seq (.seq (.rg [V 6 (.mv (.t 0)),
V 7 (.call 30 [(.t 6)])]) (.cond (.t 7) (.seq (.rg [V 2 (.mv (.k (.c (.b true))))]) (.ret)) (.skip))) (.seq (.rg [V 8 (.mv (.t 0)),
V 9 (.call 45 [(.t 8)]),
V 3 (.mv (.t 9))]) (.seq (.rg [V 10 (.mv (.t 0)),
V 11 (.call 46 [(.t 10)]),
V 4 (.mv (.t 11))]) (.seq (.rg [V 12 (.mv (.t 4)),
V 13 (.call 20 [(.t 12)]),
V 5 (.mv (.t 13))]) (.seq (.seq (.rg [V 14 (.mv (.t 3)),
V 15 (.call 18 [(.t 14)]),
V 16 (.mv (.t 3)),
V 17 (.call 17 [(.t 16)]),
V 18 (.bin .ne (.t 15) (.t 17)),
V 19 (.mv (.t 18)),
Vg 20 19 false (.mv (.t 5)),
Vg 21 19 false (.mv (.t 4)),
Vg 22 19 false (.call 19 [(.t 21)]),
Vg 23 19 false (.bin .ne (.t 20) (.t 22)),
V 24 (.pick (.t 19) (.k (.c (.b true))) (.t 23))]) (.cond (.t 24) (.seq (.rg [V 2 (.mv (.k (.c (.b false))))]) (.ret)) (.skip))) (.seq (.rg [V 25 (.mv (.t 3)),
V 26 (.call 18 [(.t 25)]),
V 27 (.bin .ne (.t 26) (.k (.c (.s ⟨#[]⟩)))),
V 28 (.mv (.t 3)),
V 29 (.call 16 [(.t 28)]),
V 30 (.eqb false (.t 27) (.t 29)),
V 31 (.mv (.t 30)),
Vg 32 31 true (.mv (.t 3)),
Vg 33 31 true (.call 16 [(.t 32)]),
Vg 34 31 true (.not (.t 33)),
Vg 35 31 true (.mv (.t 34)),
Vg 36 35 false (.mv (.t 3)),
Vg 37 35 false (.call 18 [(.t 36)]),
Vg 38 35 false (.call 20 [(.t 37)]),
Vg 39 35 false (.mv (.t 3)),
Vg 40 35 false (.bin .eq (.t 38) (.t 39)),
Vg 41 31 true (.pick (.t 35) (.k (.c (.b true))) (.t 40)),
V 42 (.pick (.t 31) (.t 41) (.k (.c (.b false)))),
V 43 (.mv (.t 42)),
Vg 44 43 true (.mv (.t 5)),
Vg 45 43 true (.bin .eq (.t 44) (.k (.c (.i 0)))),
Vg 46 43 true (.mv (.t 45)),
Vg 47 46 false (.mv (.t 5)),
Vg 48 46 false (.call 18 [(.t 47)]),
Vg 49 46 false (.mv (.t 4)),
Vg 50 46 false (.bin .eq (.t 48) (.t 49)),
Vg 51 43 true (.pick (.t 46) (.k (.c (.b true))) (.t 50)),
V 52 (.pick (.t 43) (.t 51) (.k (.c (.b false)))),
V 2 (.mv (.t 52))]) (.ret))))))),
vf12v,[(2,none)]⟩
theorem ok12 : chkF Try.prog Try.f12 vf12 = true := by kernel_rfl
theorem dr12 : drawsB vf12.body = true := by kernel_rfl
/-- loop.example/g00192/laws.FnExactInsUses -/
def vf13v : List Nat := [0,1,2,3,4,5,6,7,17,25,28,35,40,43]
def vf13 : VF := ⟨.seq (.rg [V 1 (.box (.t 0)),
V 2 (.mv (.k (.c (.b false))))]) (.seq (.rg [V 8 (.ld (some 5) (.t 1)),
V 9 (.call 28 [(.t 8)]),
V 10 (.call 47 [(.t 9)]),
V 3 (.mv (.t 10))]) (.seq (.rg [V 11 (.ld (some 5) (.t 1)),
V 12 (.call 28 [(.t 11)]),
V 13 (.call 48 [(.t 12)]),
V 4 (.mv (.t 13))]) (.seq (.seq (.rg [V 14 (.mv (.t 4)),
V 15 (.mv (.t 3)),
V 16 (.call 24 [(.t 14),(.t 15)]),
V 17 (.not (.t 16))]) (.cond (.t 17) (.seq (.rg [V 2 (.mv (.k (.c (.b false))))]) (.ret)) (.skip))) (.seq (.rg [V 5 (.mv (.k (.c (.i 1))))]) (.seq (.rg [V 18 (.mv (.t 4)),
V 19 (.mv (.t 5)),
V 20 (.call 25 [(.t 18),(.t 19)]),
V 5 (.mv (.t 20))]) (.seq (.rg [V 6 (.mv (.k (.c (.i 1))))]) (.seq (.rg [V 21 (.mv (.t 4)),
V 22 (.mv (.t 6)),
V 23 (.call 26 [(.t 21),(.t 22)]),
V 6 (.mv (.t 23))]) (.seq (.seq (.rg [V 24 (.mv (.t 6)),
V 25 (.bin .lt (.t 24) (.k (.c (.i 0))))]) (.cond (.t 25) (.seq (.rg [V 2 (.mv (.k (.c (.b false))))]) (.ret)) (.skip))) (.seq (.seq (.rg [V 26 (.mv (.t 6)),
V 27 (.mv (.t 5)),
V 28 (.bin .ne (.t 26) (.t 27))]) (.cond (.t 28) (.seq (.rg [V 2 (.mv (.k (.c (.b false))))]) (.ret)) (.skip))) (.seq (.rg [V 29 (.ld (some 5) (.t 1)),
V 30 (.call 28 [(.t 29)]),
V 31 (.call 48 [(.t 30)]),
V 7 (.mv (.t 31))]) (.seq (.seq (.rg [V 32 (.mv (.t 7)),
V 33 (.mv (.t 3)),
V 34 (.call 24 [(.t 32),(.t 33)]),
V 35 (.not (.t 34))]) (.cond (.t 35) (.seq (.rg [V 2 (.mv (.k (.c (.b false))))]) (.ret)) (.skip))) (.seq (.rg [V 6 (.mv (.k (.c (.i 1))))]) (.seq (.rg [V 36 (.mv (.t 4)),
V 37 (.mv (.t 6)),
V 38 (.call 26 [(.t 36),(.t 37)]),
V 6 (.mv (.t 38))]) (.seq (.seq (.rg [V 39 (.mv (.t 6)),
V 40 (.bin .lt (.t 39) (.k (.c (.i 0))))]) (.cond (.t 40) (.seq (.rg [V 2 (.mv (.k (.c (.b false))))]) (.ret)) (.skip))) (.seq (.seq (.rg [V 41 (.mv (.t 6)),
V 42 (.mv (.t 5)),
V 43 (.bin .ne (.t 41) (.t 42))]) (.cond (.t 43) (.seq (.rg [V 2 (.mv (.k (.c (.b false))))]) (.ret)) (.skip))) (.seq (.rg [V 2 (.mv (.k (.c (.b true))))]) (.ret))))))))))))))))),
vf13v,[(2,none)]⟩
theorem ok13 : chkF Try.prog Try.f13 vf13 = true := by kernel_rfl
theorem dr13 : drawsB vf13.body = true := by kernel_rfl
/-- loop.example/g00192/laws.FnShifts -/
def vf14v : List Nat := [0,2,4,5,6,7,8,9,10,12,24,44]
def vf14b0 : VC := .seq (.seq (.rg [V 22 (.mv (.t 8)),
V 23 (.mv (.t 6)),
V 24 (.bin .lt (.t 22) (.t 23))]) (.cond (.t 24) (.skip) (.exit 0))) (.seq (.block 1 (.rg [V 27 (.mv (.t 7)),
V 28 (.mv (.t 7)),
V 29 (.call 41 [(.k (.c (.i 1))),(.t 27),(.t 28)]),
V 7 (.mv (.t 29))])) (.rg [V 25 (.mv (.t 8)),
V 26 (.bin .add (.t 25) (.k (.c (.i 1)))),
V 8 (.mv (.t 26))]))
def vf14 : VF := ⟨.seq (.rg [V 2 (.mv (.k (.c (.b false))))]) (.seq (.seq (.rg [V 11 (.mv (.t 0)),
V 12 (.call 30 [(.t 11)])]) (.cond (.t 12) (.seq (.rg [V 2 (.mv (.k (.c (.b true))))]) (.ret)) (.skip))) (.seq (.rg [V 14 (.mv (.t 0)),
V 15 (.call 49 [(.t 14)]),
V 13 (.mv (.t 15)),
V 16 (.ext 0 (.t 13)),
V 17 (.ext 1 (.t 13)),
V 18 (.ext 2 (.t 13)),
V 3 (.mv (.t 16)),
V 4 (.mv (.t 17)),
V 5 (.mv (.t 18))]) (.seq (.rg [V 19 (.mv (.t 5)),
V 20 (.bin .and (.t 19) (.k (.c (.i 63)))),
V 6 (.mv (.t 20))]) (.seq (.rg [V 21 (.mv (.t 4)),
V 7 (.mv (.t 21))]) (.seq (.seq (.rg [V 8 (.mv (.k (.c (.i 0))))]) (.block 0 (.loop vf14b0))) (.seq (.rg [V 30 (.mv (.t 4)),
V 31 (.mv (.t 5)),
V 32 (.call 41 [(.k (.c (.i 10))),(.t 30),(.t 31)]),
V 9 (.mv (.t 32))]) (.seq (.seq (.rg [V 33 (.mv (.t 7)),
V 34 (.mv (.t 4)),
V 35 (.mv (.t 5)),
V 36 (.call 41 [(.k (.c (.i 9))),(.t 34),(.t 35)]),
V 37 (.bin .ne (.t 33) (.t 36)),
V 38 (.mv (.t 37)),
Vg 39 38 false (.mv (.t 9)),
Vg 40 38 false (.mv (.t 4)),
Vg 41 38 false (.mv (.t 5)),
Vg 42 38 false (.call 40 [(.k (.c (.i 10))),(.t 40),(.t 41)]),
Vg 43 38 false (.bin .ne (.t 39) (.t 42)),
V 44 (.pick (.t 38) (.k (.c (.b true))) (.t 43))]) (.cond (.t 44) (.seq (.rg [V 2 (.mv (.k (.c (.b false))))]) (.ret)) (.skip))) (.seq (.rg [V 45 (.mv (.t 4)),
V 46 (.mv (.t 9)),
V 47 (.mv (.t 5)),
V 48 (.call 41 [(.k (.c (.i 9))),(.t 46),(.t 47)]),
V 49 (.call 41 [(.k (.c (.i 2))),(.t 45),(.t 48)]),
V 10 (.mv (.t 49))]) (.seq (.rg [V 50 (.mv (.t 10)),
V 51 (.bin .ge (.t 50) (.k (.c (.i 0)))),
V 52 (.mv (.t 51)),
Vg 53 52 true (.mv (.t 6)),
Vg 54 52 true (.bin .eq (.t 53) (.k (.c (.i 63)))),
Vg 55 52 true (.mv (.t 54)),
Vg 56 55 false (.mv (.t 10)),
Vg 57 55 false (.mv (.t 6)),
Vg 58 55 false (.bin .shl (.k (.c (.i 1))) (.t 57)),
Vg 59 55 false (.bin .lt (.t 56) (.t 58)),
Vg 60 52 true (.pick (.t 55) (.k (.c (.b true))) (.t 59)),
V 61 (.pick (.t 52) (.t 60) (.k (.c (.b false)))),
V 62 (.mv (.t 61)),
Vg 63 62 true (.mv (.t 9)),
Vg 64 62 true (.bin .lt (.t 63) (.k (.c (.i 0)))),
Vg 65 62 true (.mv (.t 4)),
Vg 66 62 true (.bin .lt (.t 65) (.k (.c (.i 0)))),
Vg 67 62 true (.eqb false (.t 64) (.t 66)),
V 68 (.pick (.t 62) (.t 67) (.k (.c (.b false)))),
V 2 (.mv (.t 68))]) (.ret)))))))))),
vf14v,[(2,none)]⟩
theorem ok14 : chkF Try.prog Try.f14 vf14 = true := by kernel_rfl
theorem dr14 : drawsB vf14.body = true := by kernel_rfl
/-- loop.example/g00192/spec.WordOk -/
def vf15v : List Nat := [0,2]
def vf15 : VF := ⟨.seq (.rg [V 2 (.mv (.k (.c (.b false))))]) (.seq (.rg [V 3 (.mv (.t 0)),
V 4 (.call 50 [(.t 3),(.k (.c (.i 1))),(.k (.c (.i 10)))]),
V 2 (.mv (.t 4))]) (.ret)),
vf15v,[(2,none)]⟩
theorem ok15 : chkF Try.prog Try.f15 vf15 = true := by kernel_rfl
theorem dr15 : drawsB vf15.body = true := by kernel_rfl
/-- loop.example/g00192/impl.WordOk -/
def vf16v : List Nat := [0,2]
def vf16 : VF := ⟨.seq (.rg [V 2 (.mv (.k (.c (.b false))))]) (.seq (.rg [V 3 (.mv (.t 0)),
V 4 (.call 51 [(.t 3),(.k (.c (.i 1))),(.k (.c (.i 10)))]),
V 2 (.mv (.t 4))]) (.ret)),
vf16v,[(2,none)]⟩
theorem ok16 : chkF Try.prog Try.f16 vf16 = true := by kernel_rfl
theorem dr16 : drawsB vf16.body = true := by kernel_rfl
/-- loop.example/g00192/spec.WordName -/
def vf17v : List Nat := [0,2,5]
def vf17 : VF := ⟨.seq (.rg [V 2 (.mv (.k (.c (.s ⟨#[]⟩))))]) (.seq (.seq (.rg [V 3 (.mv (.t 0)),
V 4 (.call 15 [(.t 3)]),
V 5 (.not (.t 4))]) (.cond (.t 5) (.seq (.rg [V 2 (.mv (.k (.c (.s ⟨#[]⟩))))]) (.ret)) (.skip))) (.seq (.rg [V 6 (.call 52 []),
V 7 (.mv (.t 0)),
V 8 (.idx 1 (.t 6) (.t 7)),
V 9 (.ld none (.t 8)),
V 2 (.mv (.t 9))]) (.ret))),
vf17v,[(2,none)]⟩
theorem ok17 : chkF Try.prog Try.f17 vf17 = true := by kernel_rfl
theorem dr17 : drawsB vf17.body = true := by kernel_rfl
/-- loop.example/g00192/impl.WordName -/
def vf18v : List Nat := [0,2,5]
def vf18 : VF := ⟨.seq (.rg [V 2 (.mv (.k (.c (.s ⟨#[]⟩))))]) (.seq (.seq (.rg [V 3 (.mv (.t 0)),
V 4 (.call 16 [(.t 3)]),
V 5 (.not (.t 4))]) (.cond (.t 5) (.seq (.rg [V 2 (.mv (.k (.c (.s ⟨#[]⟩))))]) (.ret)) (.skip))) (.seq (.rg [V 6 (.call 53 []),
V 7 (.mv (.t 0)),
V 8 (.idx 1 (.t 6) (.t 7)),
V 9 (.ld none (.t 8)),
V 2 (.mv (.t 9))]) (.ret))),
vf18v,[(2,none)]⟩
theorem ok18 : chkF Try.prog Try.f18 vf18 = true := by kernel_rfl
theorem dr18 : drawsB vf18.body = true := by kernel_rfl
/-- loop.example/g00192/spec.WordOf -/
def vf19v : List Nat := [0,2,3,4,9,17]
def vf19b0 : VC := .seq (.seq (.rg [V 6 (.mv (.t 4)),
V 7 (.mv (.t 3)),
V 8 (.len (.t 7)),
V 9 (.bin .lt (.t 6) (.t 8))]) (.cond (.t 9) (.skip) (.exit 0))) (.seq (.block 1 (.seq (.rg [V 12 (.mv (.t 3)),
V 13 (.mv (.t 4)),
V 14 (.idx 1 (.t 12) (.t 13)),
V 15 (.ld none (.t 14)),
V 16 (.mv (.t 0)),
V 17 (.bin .eq (.t 15) (.t 16))]) (.cond (.t 17) (.seq (.rg [V 18 (.mv (.t 4)),
V 2 (.mv (.t 18))]) (.ret)) (.skip)))) (.rg [V 10 (.mv (.t 4)),
V 11 (.bin .add (.t 10) (.k (.c (.i 1)))),
V 4 (.mv (.t 11))]))
def vf19 : VF := ⟨.seq (.rg [V 2 (.mv (.k (.c (.i 0))))]) (.seq (.rg [V 5 (.call 52 []),
V 3 (.mv (.t 5))]) (.seq (.seq (.rg [V 4 (.mv (.k (.c (.i 1))))]) (.block 0 (.loop vf19b0))) (.seq (.rg [V 2 (.mv (.k (.c (.i 0))))]) (.ret)))),
vf19v,[(2,none)]⟩
theorem ok19 : chkF Try.prog Try.f19 vf19 = true := by kernel_rfl
theorem dr19 : drawsB vf19.body = true := by kernel_rfl
/-- loop.example/g00192/impl.WordOf -/
def vf20v : List Nat := [0,2]
def vf20 : VF := ⟨.seq (.rg [V 2 (.mv (.k (.c (.i 0))))]) (.seq (.rg [V 3 (.call 53 []),
V 4 (.mv (.t 0)),
V 5 (.call 54 [(.t 3),(.t 4)]),
V 6 (.mx (.k (.c (.i 0))) (.t 5)),
V 2 (.mv (.t 6))]) (.ret)),
vf20v,[(2,none)]⟩
theorem ok20 : chkF Try.prog Try.f20 vf20 = true := by kernel_rfl
theorem dr20 : drawsB vf20.body = true := by kernel_rfl
/-- loop.example/g00192/spec.TermUses -/
def vf21v : List Nat := [0,1,2,10]
def vf21 : VF := ⟨.seq (.rg [V 1 (.box (.t 0)),
V 2 (.mv (.k (.c .ns)))]) (.seq (.seq (.rg [V 3 (.fad 0 (.t 1)),
V 4 (.ld none (.t 3)),
V 5 (.bin .eq (.t 4) (.k (.c (.i 2)))),
V 6 (.mv (.t 5)),
Vg 7 6 false (.fad 0 (.t 1)),
Vg 8 6 false (.ld none (.t 7)),
Vg 9 6 false (.bin .eq (.t 8) (.k (.c (.i 3)))),
V 10 (.pick (.t 6) (.k (.c (.b true))) (.t 9))]) (.cond (.t 10) (.seq (.rg [V 11 (.fad 1 (.t 1)),
V 12 (.ld none (.t 11)),
V 13 (.bsl 1 [.i 0] 1 [(0,1,(.t 12))]),
V 2 (.mv (.t 13))]) (.ret)) (.skip))) (.seq (.rg [V 14 (.bsl 1 [.i 0] 0 []),
V 2 (.mv (.t 14))]) (.ret))),
vf21v,[(2,none)]⟩
theorem ok21 : chkF Try.prog Try.f21 vf21 = true := by kernel_rfl
theorem dr21 : drawsB vf21.body = true := by kernel_rfl
/-- loop.example/g00192/laws.toTerm -/
def vf22v : List Nat := [0,1,2,3]
def vf22 : VF := ⟨.seq (.rg [V 1 (.box (.t 0)),
V 2 (.alloc [.i 0,.i 0,.i 0,.i 0])]) (.seq (.rg [V 3 (.alloc [.i 0,.i 0,.i 0,.i 0])]) (.seq (.rg [V 4 (.fad 0 (.t 1)),
V 5 (.ld none (.t 4)),
V 6 (.fad 0 (.t 3)),
Vn (.st 1 (.t 6) (.t 5))]) (.seq (.rg [V 7 (.fad 1 (.t 1)),
V 8 (.ld none (.t 7)),
V 9 (.fad 1 (.t 3)),
Vn (.st 1 (.t 9) (.t 8))]) (.seq (.rg [V 10 (.fad 2 (.t 1)),
V 11 (.ld none (.t 10)),
V 12 (.fad 2 (.t 3)),
Vn (.st 1 (.t 12) (.t 11))]) (.seq (.rg [V 13 (.fad 3 (.t 1)),
V 14 (.ld none (.t 13)),
V 15 (.fad 3 (.t 3)),
Vn (.st 1 (.t 15) (.t 14))]) (.seq (.rg [V 16 (.ld (some 4) (.t 3)),
Vn (.st 4 (.t 2) (.t 16))]) (.ret))))))),
vf22v,[(2,(some (some 4)))]⟩
theorem ok22 : chkF Try.prog Try.f22 vf22 = true := by kernel_rfl
theorem dr22 : drawsB vf22.body = true := by kernel_rfl
/-- loop.example/g00192/impl.TermUses -/
def vf23v : List Nat := [0,1,2,10]
def vf23 : VF := ⟨.seq (.rg [V 1 (.box (.t 0)),
V 2 (.mv (.k (.c .ns)))]) (.seq (.seq (.rg [V 3 (.fad 0 (.t 1)),
V 4 (.ld none (.t 3)),
V 5 (.bin .eq (.t 4) (.k (.c (.i 2)))),
V 6 (.mv (.t 5)),
Vg 7 6 false (.fad 0 (.t 1)),
Vg 8 6 false (.ld none (.t 7)),
Vg 9 6 false (.bin .eq (.t 8) (.k (.c (.i 3)))),
V 10 (.pick (.t 6) (.k (.c (.b true))) (.t 9))]) (.cond (.t 10) (.seq (.rg [V 11 (.fad 1 (.t 1)),
V 12 (.ld none (.t 11)),
V 13 (.bsl 1 [.i 0] 1 [(0,1,(.t 12))]),
V 2 (.mv (.t 13))]) (.ret)) (.skip))) (.seq (.rg [V 2 (.mv (.k (.c .ns)))]) (.ret))),
vf23v,[(2,none)]⟩
theorem ok23 : chkF Try.prog Try.f23 vf23 = true := by kernel_rfl
theorem dr23 : drawsB vf23.body = true := by kernel_rfl
/-- loop.example/g00192/laws.eqIntS -/
def vf24v : List Nat := [0,1,4,5,10,14,25]
def vf24b0 : VC := .seq (.seq (.rg [V 11 (.mv (.t 5)),
V 12 (.mv (.t 0)),
V 13 (.len (.t 12)),
V 14 (.bin .lt (.t 11) (.t 13))]) (.cond (.t 14) (.skip) (.exit 0))) (.seq (.block 1 (.seq (.rd [V 17 (.mv (.t 0)),
V 18 (.mv (.t 5)),
Vd [0,1] (V 19 (.idx 1 (.t 17) (.t 18))),
Vd [2] (V 20 (.ld none (.t 19))),
V 21 (.mv (.t 1)),
V 22 (.mv (.t 5)),
Vd [4,5] (V 23 (.idx 1 (.t 21) (.t 22))),
Vd [6] (V 24 (.ld none (.t 23))),
Vd [3,7] (V 25 (.bin .ne (.t 20) (.t 24)))]) (.cond (.t 25) (.seq (.rg [V 4 (.mv (.k (.c (.b false))))]) (.ret)) (.skip)))) (.rg [V 15 (.mv (.t 5)),
V 16 (.bin .add (.t 15) (.k (.c (.i 1)))),
V 5 (.mv (.t 16))]))
def vf24 : VF := ⟨.seq (.rg [V 4 (.mv (.k (.c (.b false))))]) (.seq (.seq (.rg [V 6 (.mv (.t 0)),
V 7 (.len (.t 6)),
V 8 (.mv (.t 1)),
V 9 (.len (.t 8)),
V 10 (.bin .ne (.t 7) (.t 9))]) (.cond (.t 10) (.seq (.rg [V 4 (.mv (.k (.c (.b false))))]) (.ret)) (.skip))) (.seq (.seq (.rg [V 5 (.mv (.k (.c (.i 0))))]) (.block 0 (.loop vf24b0))) (.seq (.rg [V 4 (.mv (.k (.c (.b true))))]) (.ret)))),
vf24v,[(4,none)]⟩
theorem ok24 : chkF Try.prog Try.f24 vf24 = true := by kernel_rfl
theorem dr24 : drawsB vf24.body = true := by kernel_rfl
/-- loop.example/g00192/laws.markIntS -/
def vf25v : List Nat := [0,1,4,5,9]
def vf25b0 : VC := .seq (.seq (.rg [V 6 (.mv (.t 5)),
V 7 (.mv (.t 0)),
V 8 (.len (.t 7)),
V 9 (.bin .lt (.t 6) (.t 8))]) (.cond (.t 9) (.skip) (.exit 0))) (.seq (.block 1 (.seq (.rg [V 12 (.mv (.t 0)),
V 13 (.mv (.t 5)),
V 14 (.mv (.t 1)),
V 15 (.idx 1 (.t 12) (.t 13)),
Vn (.st 1 (.t 15) (.t 14))]) (.rg [V 16 (.mv (.t 1)),
V 17 (.bin .add (.t 16) (.k (.c (.i 1)))),
V 1 (.mv (.t 17))]))) (.rg [V 10 (.mv (.t 5)),
V 11 (.bin .add (.t 10) (.k (.c (.i 1)))),
V 5 (.mv (.t 11))]))
def vf25 : VF := ⟨.seq (.rg [V 4 (.mv (.k (.c (.i 0))))]) (.seq (.seq (.rg [V 5 (.mv (.k (.c (.i 0))))]) (.block 0 (.loop vf25b0))) (.seq (.rg [V 18 (.mv (.t 1)),
V 4 (.mv (.t 18))]) (.ret))),
vf25v,[(4,none)]⟩
theorem ok25 : chkF Try.prog Try.f25 vf25 = true := by kernel_rfl
theorem dr25 : drawsB vf25.body = true := by kernel_rfl
/-- loop.example/g00192/laws.heldIntS -/
def vf26v : List Nat := [0,1,4,5,9,17]
def vf26b0 : VC := .seq (.seq (.rg [V 6 (.mv (.t 5)),
V 7 (.mv (.t 0)),
V 8 (.len (.t 7)),
V 9 (.bin .lt (.t 6) (.t 8))]) (.cond (.t 9) (.skip) (.exit 0))) (.seq (.block 1 (.seq (.seq (.rg [V 12 (.mv (.t 0)),
V 13 (.mv (.t 5)),
V 14 (.idx 1 (.t 12) (.t 13)),
V 15 (.ld none (.t 14)),
V 16 (.mv (.t 1)),
V 17 (.bin .ne (.t 15) (.t 16))]) (.cond (.t 17) (.seq (.rg [V 4 (.mv (.k (.c (.i (-1)))))]) (.ret)) (.skip))) (.rg [V 18 (.mv (.t 1)),
V 19 (.bin .add (.t 18) (.k (.c (.i 1)))),
V 1 (.mv (.t 19))]))) (.rg [V 10 (.mv (.t 5)),
V 11 (.bin .add (.t 10) (.k (.c (.i 1)))),
V 5 (.mv (.t 11))]))
def vf26 : VF := ⟨.seq (.rg [V 4 (.mv (.k (.c (.i 0))))]) (.seq (.seq (.rg [V 5 (.mv (.k (.c (.i 0))))]) (.block 0 (.loop vf26b0))) (.seq (.rg [V 20 (.mv (.t 1)),
V 4 (.mv (.t 20))]) (.ret))),
vf26v,[(4,none)]⟩
theorem ok26 : chkF Try.prog Try.f26 vf26 = true := by kernel_rfl
theorem dr26 : drawsB vf26.body = true := by kernel_rfl
/-- loop.example/g00192/spec.InsDef -/
def vf27v : List Nat := [0,1,2,5]
def vf27 : VF := ⟨.seq (.rg [V 1 (.box (.t 0)),
V 2 (.mv (.k (.c (.i 0))))]) (.seq (.seq (.rg [V 3 (.fad 0 (.t 1)),
V 4 (.ld none (.t 3)),
V 5 (.call 55 [(.t 4)])]) (.cond (.t 5) (.seq (.rg [V 6 (.fad 1 (.t 1)),
V 7 (.ld none (.t 6)),
V 2 (.mv (.t 7))]) (.ret)) (.skip))) (.seq (.rg [V 2 (.mv (.k (.c (.i (-1)))))]) (.ret))),
vf27v,[(2,none)]⟩
theorem ok27 : chkF Try.prog Try.f27 vf27 = true := by kernel_rfl
theorem dr27 : drawsB vf27.body = true := by kernel_rfl
/-- loop.example/g00192/laws.toIns -/
def vf28v : List Nat := [0,1,2,3]
def vf28 : VF := ⟨.seq (.rg [V 1 (.box (.t 0)),
V 2 (.alloc [.i 0,.i 0,.i 0,.i 0,.i 0])]) (.seq (.rg [V 3 (.alloc [.i 0,.i 0,.i 0,.i 0,.i 0])]) (.seq (.rg [V 4 (.fad 0 (.t 1)),
V 5 (.ld none (.t 4)),
V 6 (.fad 0 (.t 3)),
Vn (.st 1 (.t 6) (.t 5))]) (.seq (.rg [V 7 (.fad 1 (.t 1)),
V 8 (.ld none (.t 7)),
V 9 (.fad 1 (.t 3)),
Vn (.st 1 (.t 9) (.t 8))]) (.seq (.rg [V 10 (.fad 2 (.t 1)),
V 11 (.ld none (.t 10)),
V 12 (.fad 2 (.t 3)),
Vn (.st 1 (.t 12) (.t 11))]) (.seq (.rg [V 13 (.fad 3 (.t 1)),
V 14 (.ld none (.t 13)),
V 15 (.fad 3 (.t 3)),
Vn (.st 1 (.t 15) (.t 14))]) (.seq (.rg [V 16 (.fad 4 (.t 1)),
V 17 (.ld none (.t 16)),
V 18 (.fad 4 (.t 3)),
Vn (.st 1 (.t 18) (.t 17))]) (.seq (.rg [V 19 (.ld (some 5) (.t 3)),
Vn (.st 5 (.t 2) (.t 19))]) (.ret)))))))),
vf28v,[(2,(some (some 5)))]⟩
theorem ok28 : chkF Try.prog Try.f28 vf28 = true := by kernel_rfl
theorem dr28 : drawsB vf28.body = true := by kernel_rfl
/-- loop.example/g00192/impl.InsDef -/
def vf29v : List Nat := [0,1,2,5]
def vf29 : VF := ⟨.seq (.rg [V 1 (.box (.t 0)),
V 2 (.mv (.k (.c (.i 0))))]) (.seq (.seq (.rg [V 3 (.fad 0 (.t 1)),
V 4 (.ld none (.t 3)),
V 5 (.call 56 [(.t 4),(.k (.c (.y 68)))])]) (.cond (.t 5) (.seq (.rg [V 6 (.fad 1 (.t 1)),
V 7 (.ld none (.t 6)),
V 2 (.mv (.t 7))]) (.ret)) (.skip))) (.seq (.rg [V 2 (.mv (.k (.c (.i (-1)))))]) (.ret))),
vf29v,[(2,none)]⟩
theorem ok29 : chkF Try.prog Try.f29 vf29 = true := by kernel_rfl
theorem dr29 : drawsB vf29.body = true := by kernel_rfl
/-- loop.example/g00192/laws.big -/
def vf30v : List Nat := [0,2]
def vf30 : VF := ⟨.seq (.rg [V 2 (.mv (.k (.c (.b false))))]) (.seq (.rg [V 3 (.mv (.t 0)),
V 4 (.len (.t 3)),
V 5 (.bin .gt (.t 4) (.k (.c (.i 1048576)))),
V 2 (.mv (.t 5))]) (.ret)),
vf30v,[(2,none)]⟩
theorem ok30 : chkF Try.prog Try.f30 vf30 = true := by kernel_rfl
theorem dr30 : drawsB vf30.body = true := by kernel_rfl
/-- loop.example/g00192/spec.DrawMovesDo -/
def vf31v : List Nat := [0,2,3,4,5]
def vf31 : VF := ⟨.seq (.rg [V 2 (.mv (.k (.c .ns))),
V 3 (.mv (.k (.c .ns)))]) (.seq (.rg [V 7 (.mv (.t 0)),
V 8 (.call 57 [(.t 7)]),
V 6 (.mv (.t 8)),
V 9 (.ext 0 (.t 6)),
V 10 (.ext 1 (.t 6)),
V 4 (.mv (.t 9)),
V 5 (.mv (.t 10))]) (.seq (.rg [V 11 (.mv (.t 4)),
V 12 (.mv (.t 5)),
V 2 (.mv (.t 11)),
V 3 (.mv (.t 12))]) (.ret))),
vf31v,[(2,none),(3,none)]⟩
theorem ok31 : chkF Try.prog Try.f31 vf31 = true := by kernel_rfl
theorem dr31 : drawsB vf31.body = true := by kernel_rfl
/-- loop.example/g00192/impl.MovesOk -/
def vf32v : List Nat := [0,1,4,5,6,7,8,9,10,40]
def vf32b0 : VC := .seq (.rg [V 10 (.bin .lt (.t 9) (.t 8))]) (.seq (.cond (.t 10) (.skip) (.exit 0)) (.seq (.block 1 (.seq (.rg [V 11 (.mv (.t 9)),
V 12 (.idx 2 (.t 7) (.t 9)),
V 13 (.ld (some 2) (.t 12)),
V 6 (.alloc [.i 0,.i 0]),
V 5 (.mv (.t 11)),
Vn (.st 2 (.t 6) (.t 13))]) (.seq (.rg [V 14 (.fad 0 (.t 6)),
V 15 (.ld none (.t 14)),
V 16 (.bin .lt (.t 15) (.k (.c (.i 0)))),
V 17 (.mv (.t 16)),
Vg 18 17 false (.fad 0 (.t 6)),
Vg 19 17 false (.ld none (.t 18)),
Vg 20 17 false (.mv (.t 1)),
Vg 21 17 false (.bin .ge (.t 19) (.t 20)),
V 22 (.pick (.t 17) (.k (.c (.b true))) (.t 21)),
V 23 (.mv (.t 22)),
Vg 24 23 false (.fad 1 (.t 6)),
Vg 25 23 false (.ld none (.t 24)),
Vg 26 23 false (.bin .lt (.t 25) (.k (.c (.i 0)))),
V 27 (.pick (.t 23) (.k (.c (.b true))) (.t 26)),
V 28 (.mv (.t 27)),
Vg 29 28 false (.fad 1 (.t 6)),
Vg 30 28 false (.ld none (.t 29)),
Vg 31 28 false (.mv (.t 1)),
Vg 32 28 false (.bin .ge (.t 30) (.t 31)),
V 33 (.pick (.t 28) (.k (.c (.b true))) (.t 32)),
V 34 (.mv (.t 33)),
Vg 35 34 false (.mv (.t 0)),
Vg 36 34 false (.mv (.t 5)),
Vg 37 34 false (.slc 2 (.t 35) none (some (.t 36))),
Vg 38 34 false (.mkf 59 [(.t 6)]),
Vg 39 34 false (.call 58 [(.t 37),(.t 38)]),
V 40 (.pick (.t 34) (.k (.c (.b true))) (.t 39))]) (.cond (.t 40) (.seq (.rg [V 4 (.mv (.k (.c (.b false))))]) (.ret)) (.skip))))) (.rg [V 41 (.bin .add (.t 9) (.k (.c (.i 1)))),
V 9 (.mv (.t 41))])))
def vf32 : VF := ⟨.seq (.rg [V 4 (.mv (.k (.c (.b false))))]) (.seq (.seq (.rg [V 7 (.mv (.t 0)),
V 8 (.len (.t 7)),
V 9 (.mv (.k (.c (.i 0))))]) (.block 0 (.loop vf32b0))) (.seq (.rg [V 42 (.mv (.t 0)),
V 43 (.len (.t 42)),
V 44 (.bin .le (.t 43) (.k (.c (.i 24)))),
V 4 (.mv (.t 44))]) (.ret))),
vf32v,[(4,none)]⟩
theorem ok32 : chkF Try.prog Try.f32 vf32 = true := by kernel_rfl
theorem dr32 : drawsB vf32.body = true := by kernel_rfl
/-- loop.example/g00192/impl.Sequence -/
def vf33v : List Nat := [0,1,4,5,6,7,8,9,10,11,15,22,26,49,50,51,52,59]
def vf33b0 : VC := .seq (.rg [V 52 (.bin .lt (.t 51) (.t 50))]) (.seq (.cond (.t 52) (.skip) (.exit 2)) (.seq (.block 3 (.seq (.rg [V 53 (.mv (.t 51)),
V 54 (.idx 2 (.t 49) (.t 51)),
V 55 (.ld (some 2) (.t 54)),
V 11 (.alloc [.i 0,.i 0]),
V 10 (.mv (.t 53)),
Vn (.st 2 (.t 11) (.t 55))]) (.seq (.rg [V 56 (.fad 1 (.t 11)),
V 57 (.ld none (.t 56)),
V 58 (.mv (.t 9)),
V 59 (.bin .eq (.t 57) (.t 58))]) (.cond (.t 59) (.rg [V 60 (.mv (.t 6)),
V 61 (.mv (.t 10)),
V 62 (.mv (.t 1)),
V 63 (.idx 2 (.t 60) (.t 61)),
V 64 (.fad 1 (.t 63)),
Vn (.st 1 (.t 64) (.t 62))]) (.skip))))) (.rg [V 65 (.bin .add (.t 51) (.k (.c (.i 1)))),
V 51 (.mv (.t 65))])))
def vf33b1 : VC := .seq (.seq (.rg [V 20 (.mv (.t 6)),
V 21 (.len (.t 20)),
V 22 (.bin .gt (.t 21) (.k (.c (.i 0))))]) (.cond (.t 22) (.skip) (.exit 0))) (.block 1 (.seq (.seq (.rg [V 23 (.mv (.t 6)),
V 24 (.call 63 [(.t 23)]),
V 8 (.mv (.t 24))]) (.seq (.rg [V 25 (.mv (.t 8)),
V 26 (.bin .ge (.t 25) (.k (.c (.i 0))))]) (.cond (.t 26) (.seq (.rg [V 27 (.mv (.t 7)),
V 28 (.mv (.t 6)),
V 29 (.mv (.t 8)),
V 30 (.idx 2 (.t 28) (.t 29)),
V 31 (.ld (some 2) (.t 30)),
V 32 (.bsl 2 [.i 0,.i 0] 1 [(0,2,(.t 31))]),
V 33 (.app 2 (.t 27) (.t 32)),
V 7 (.mv (.t 33))]) (.seq (.rg [V 34 (.mv (.t 6)),
V 35 (.mv (.t 8)),
V 36 (.mv (.t 8)),
V 37 (.bin .add (.t 36) (.k (.c (.i 1)))),
V 38 (.call 64 [(.t 34),(.t 35),(.t 37)]),
V 6 (.mv (.t 38))]) (.exit 1))) (.skip)))) (.seq (.rg [V 39 (.mv (.t 6)),
V 40 (.idx 2 (.t 39) (.k (.c (.i 0)))),
V 41 (.fad 0 (.t 40)),
V 42 (.ld none (.t 41)),
V 9 (.mv (.t 42))]) (.seq (.rg [V 43 (.mv (.t 7)),
V 44 (.mv (.t 1)),
V 45 (.mv (.t 9)),
V 46 (.build [.i 0,.i 0] [(0,1,(.t 44)),(1,1,(.t 45))]),
V 47 (.bsl 2 [.i 0,.i 0] 1 [(0,2,(.t 46))]),
V 48 (.app 2 (.t 43) (.t 47)),
V 7 (.mv (.t 48))]) (.seq (.rg [V 49 (.mv (.t 6)),
V 50 (.len (.t 49)),
V 51 (.mv (.k (.c (.i 0))))]) (.block 2 (.loop vf33b0)))))))
def vf33 : VF := ⟨.seq (.rg [V 4 (.mv (.k (.c .ns))),
V 5 (.mv (.k (.c (.b false))))]) (.seq (.seq (.rg [V 12 (.mv (.t 0)),
V 13 (.mv (.t 1)),
V 14 (.call 32 [(.t 12),(.t 13)]),
V 15 (.not (.t 14))]) (.cond (.t 15) (.seq (.rg [V 4 (.mv (.k (.c .ns))),
V 5 (.mv (.k (.c (.b false))))]) (.ret)) (.skip))) (.seq (.rg [V 16 (.mv (.t 0)),
V 17 (.call 61 [(.t 16)]),
V 18 (.call 60 [(.t 17),(.k (.f 62 []))]),
V 6 (.mv (.t 18))]) (.seq (.rg [V 19 (.bsl 2 [.i 0,.i 0] 0 []),
V 7 (.mv (.t 19))]) (.seq (.block 0 (.loop vf33b1)) (.seq (.rg [V 66 (.mv (.t 7)),
V 4 (.mv (.t 66)),
V 5 (.mv (.k (.c (.b true))))]) (.ret)))))),
vf33v,[(4,none),(5,none)]⟩
theorem ok33 : chkF Try.prog Try.f33 vf33 = true := by kernel_rfl
theorem dr33 : drawsB vf33.body = true := by kernel_rfl
/-- loop.example/g00192/spec.Sequence -/
def vf34v : List Nat := [0,1,4,5,9]
def vf34 : VF := ⟨.seq (.rg [V 4 (.mv (.k (.c .ns))),
V 5 (.mv (.k (.c (.b false))))]) (.seq (.seq (.rg [V 6 (.mv (.t 0)),
V 7 (.mv (.t 1)),
V 8 (.call 35 [(.t 6),(.t 7)]),
V 9 (.not (.t 8))]) (.cond (.t 9) (.seq (.rg [V 10 (.bsl 2 [.i 0,.i 0] 0 []),
V 4 (.mv (.t 10)),
V 5 (.mv (.k (.c (.b false))))]) (.ret)) (.skip))) (.seq (.rg [V 11 (.mv (.t 0)),
V 12 (.mv (.t 1)),
V 13 (.call 65 [(.t 11),(.t 12)]),
V 4 (.mv (.t 13)),
V 5 (.mv (.k (.c (.b true))))]) (.ret))),
vf34v,[(4,none),(5,none)]⟩
theorem ok34 : chkF Try.prog Try.f34 vf34 = true := by kernel_rfl
theorem dr34 : drawsB vf34.body = true := by kernel_rfl
/-- loop.example/g00192/spec.MovesOk -/
def vf35v : List Nat := [0,1,4,5,6,10,44,47,60]
def vf35b0 : VC := .seq (.seq (.rg [V 45 (.mv (.t 6)),
V 46 (.mv (.t 5)),
V 47 (.bin .lt (.t 45) (.t 46))]) (.cond (.t 47) (.skip) (.exit 2))) (.seq (.block 3 (.seq (.rd [V 50 (.mv (.t 0)),
V 51 (.mv (.t 6)),
Vd [0,1] (V 52 (.idx 2 (.t 50) (.t 51))),
Vd [2] (V 53 (.fad 0 (.t 52))),
Vd [3] (V 54 (.ld none (.t 53))),
V 55 (.mv (.t 0)),
V 56 (.mv (.t 5)),
Vd [5,6] (V 57 (.idx 2 (.t 55) (.t 56))),
Vd [7] (V 58 (.fad 0 (.t 57))),
Vd [8] (V 59 (.ld none (.t 58))),
Vd [4,9] (V 60 (.bin .eq (.t 54) (.t 59)))]) (.cond (.t 60) (.seq (.rg [V 4 (.mv (.k (.c (.b false))))]) (.ret)) (.skip)))) (.rg [V 48 (.mv (.t 6)),
V 49 (.bin .add (.t 48) (.k (.c (.i 1)))),
V 6 (.mv (.t 49))]))
def vf35b1 : VC := .seq (.seq (.rg [V 7 (.mv (.t 5)),
V 8 (.mv (.t 0)),
V 9 (.len (.t 8)),
V 10 (.bin .lt (.t 7) (.t 9))]) (.cond (.t 10) (.skip) (.exit 0))) (.seq (.block 1 (.seq (.seq (.rg [V 13 (.mv (.t 0)),
V 14 (.mv (.t 5)),
V 15 (.idx 2 (.t 13) (.t 14)),
V 16 (.fad 0 (.t 15)),
V 17 (.ld none (.t 16)),
V 18 (.bin .lt (.t 17) (.k (.c (.i 0)))),
V 19 (.mv (.t 18)),
Vg 20 19 false (.mv (.t 0)),
Vg 21 19 false (.mv (.t 5)),
Vg 22 19 false (.idx 2 (.t 20) (.t 21)),
Vg 23 19 false (.fad 0 (.t 22)),
Vg 24 19 false (.ld none (.t 23)),
Vg 25 19 false (.mv (.t 1)),
Vg 26 19 false (.bin .ge (.t 24) (.t 25)),
V 27 (.pick (.t 19) (.k (.c (.b true))) (.t 26)),
V 28 (.mv (.t 27)),
Vg 29 28 false (.mv (.t 0)),
Vg 30 28 false (.mv (.t 5)),
Vg 31 28 false (.idx 2 (.t 29) (.t 30)),
Vg 32 28 false (.fad 1 (.t 31)),
Vg 33 28 false (.ld none (.t 32)),
Vg 34 28 false (.bin .lt (.t 33) (.k (.c (.i 0)))),
V 35 (.pick (.t 28) (.k (.c (.b true))) (.t 34)),
V 36 (.mv (.t 35)),
Vg 37 36 false (.mv (.t 0)),
Vg 38 36 false (.mv (.t 5)),
Vg 39 36 false (.idx 2 (.t 37) (.t 38)),
Vg 40 36 false (.fad 1 (.t 39)),
Vg 41 36 false (.ld none (.t 40)),
Vg 42 36 false (.mv (.t 1)),
Vg 43 36 false (.bin .ge (.t 41) (.t 42)),
V 44 (.pick (.t 36) (.k (.c (.b true))) (.t 43))]) (.cond (.t 44) (.seq (.rg [V 4 (.mv (.k (.c (.b false))))]) (.ret)) (.skip))) (.seq (.rg [V 6 (.mv (.k (.c (.i 0))))]) (.block 2 (.loop vf35b0))))) (.rg [V 11 (.mv (.t 5)),
V 12 (.bin .add (.t 11) (.k (.c (.i 1)))),
V 5 (.mv (.t 12))]))
def vf35 : VF := ⟨.seq (.rg [V 4 (.mv (.k (.c (.b false))))]) (.seq (.seq (.rg [V 5 (.mv (.k (.c (.i 0))))]) (.block 0 (.loop vf35b1))) (.seq (.rg [V 61 (.mv (.t 0)),
V 62 (.len (.t 61)),
V 63 (.bin .le (.t 62) (.k (.c (.i 24)))),
V 4 (.mv (.t 63))]) (.ret))),
vf35v,[(4,none)]⟩
theorem ok35 : chkF Try.prog Try.f35 vf35 = true := by kernel_rfl
theorem dr35 : drawsB vf35.body = true := by kernel_rfl
/-- loop.example/g00192/laws.sameInts -/
def vf36v : List Nat := [0,1,4,5,10,14,25]
def vf36b0 : VC := .seq (.seq (.rg [V 11 (.mv (.t 5)),
V 12 (.mv (.t 0)),
V 13 (.len (.t 12)),
V 14 (.bin .lt (.t 11) (.t 13))]) (.cond (.t 14) (.skip) (.exit 0))) (.seq (.block 1 (.seq (.rd [V 17 (.mv (.t 0)),
V 18 (.mv (.t 5)),
Vd [0,1] (V 19 (.idx 1 (.t 17) (.t 18))),
Vd [2] (V 20 (.ld none (.t 19))),
V 21 (.mv (.t 1)),
V 22 (.mv (.t 5)),
Vd [4,5] (V 23 (.idx 1 (.t 21) (.t 22))),
Vd [6] (V 24 (.ld none (.t 23))),
Vd [3,7] (V 25 (.bin .ne (.t 20) (.t 24)))]) (.cond (.t 25) (.seq (.rg [V 4 (.mv (.k (.c (.b false))))]) (.ret)) (.skip)))) (.rg [V 15 (.mv (.t 5)),
V 16 (.bin .add (.t 15) (.k (.c (.i 1)))),
V 5 (.mv (.t 16))]))
def vf36 : VF := ⟨.seq (.rg [V 4 (.mv (.k (.c (.b false))))]) (.seq (.seq (.rg [V 6 (.mv (.t 0)),
V 7 (.len (.t 6)),
V 8 (.mv (.t 1)),
V 9 (.len (.t 8)),
V 10 (.bin .ne (.t 7) (.t 9))]) (.cond (.t 10) (.seq (.rg [V 4 (.mv (.k (.c (.b false))))]) (.ret)) (.skip))) (.seq (.seq (.rg [V 5 (.mv (.k (.c (.i 0))))]) (.block 0 (.loop vf36b0))) (.seq (.rg [V 4 (.mv (.k (.c (.b true))))]) (.ret)))),
vf36v,[(4,none)]⟩
theorem ok36 : chkF Try.prog Try.f36 vf36 = true := by kernel_rfl
theorem dr36 : drawsB vf36.body = true := by kernel_rfl
/-- loop.example/g00192/impl.MovesDo -/
def vf37v : List Nat := [0,1,4,5,7,14,16,17,18,19]
def vf37b0 : VC := .seq (.rg [V 19 (.bin .lt (.t 18) (.t 17))]) (.seq (.cond (.t 19) (.skip) (.exit 0)) (.seq (.block 1 (.seq (.rg [V 20 (.idx 2 (.t 16) (.t 18)),
V 21 (.ld (some 2) (.t 20)),
V 7 (.alloc [.i 0,.i 0]),
Vn (.st 2 (.t 7) (.t 21))]) (.rd [V 22 (.mv (.t 5)),
V 23 (.fad 0 (.t 7)),
Vd [1] (V 24 (.ld none (.t 23))),
V 25 (.mv (.t 1)),
V 26 (.fad 1 (.t 7)),
Vd [4] (V 27 (.ld none (.t 26))),
Vd [3,5] (V 28 (.idx 1 (.t 25) (.t 27))),
Vd [6] (V 29 (.ld none (.t 28))),
Vd [0,2,7] (V 30 (.idx 1 (.t 22) (.t 24))),
Vb [8] (Vn (.st 1 (.t 30) (.t 29)))]))) (.rg [V 31 (.bin .add (.t 18) (.k (.c (.i 1)))),
V 18 (.mv (.t 31))])))
def vf37 : VF := ⟨.seq (.rg [V 4 (.mv (.k (.c .ns)))]) (.seq (.rg [V 8 (.mv (.t 1)),
V 9 (.call 66 [(.t 8)]),
V 5 (.mv (.t 9))]) (.seq (.seq (.rg [V 10 (.mv (.t 0)),
V 11 (.mv (.t 1)),
V 12 (.len (.t 11)),
V 13 (.call 32 [(.t 10),(.t 12)]),
V 14 (.not (.t 13))]) (.cond (.t 14) (.seq (.rg [V 15 (.mv (.t 5)),
V 4 (.mv (.t 15))]) (.ret)) (.skip))) (.seq (.seq (.rg [V 16 (.mv (.t 0)),
V 17 (.len (.t 16)),
V 18 (.mv (.k (.c (.i 0))))]) (.block 0 (.loop vf37b0))) (.seq (.rg [V 32 (.mv (.t 5)),
V 4 (.mv (.t 32))]) (.ret))))),
vf37v,[(4,none)]⟩
theorem ok37 : chkF Try.prog Try.f37 vf37 = true := by kernel_rfl
theorem dr37 : drawsB vf37.body = true := by kernel_rfl
/-- loop.example/g00192/spec.MovesDo -/
def vf38v : List Nat := [0,1,4,5,6,14,19]
def vf38b0 : VC := .seq (.seq (.rg [V 16 (.mv (.t 6)),
V 17 (.mv (.t 0)),
V 18 (.len (.t 17)),
V 19 (.bin .lt (.t 16) (.t 18))]) (.cond (.t 19) (.skip) (.exit 0))) (.seq (.block 1 (.rd [V 22 (.mv (.t 5)),
V 23 (.mv (.t 0)),
V 24 (.mv (.t 6)),
Vd [1,2] (V 25 (.idx 2 (.t 23) (.t 24))),
Vd [3] (V 26 (.fad 0 (.t 25))),
Vd [4] (V 27 (.ld none (.t 26))),
V 28 (.mv (.t 1)),
V 29 (.mv (.t 0)),
V 30 (.mv (.t 6)),
Vd [7,8] (V 31 (.idx 2 (.t 29) (.t 30))),
Vd [9] (V 32 (.fad 1 (.t 31))),
Vd [10] (V 33 (.ld none (.t 32))),
Vd [6,11] (V 34 (.idx 1 (.t 28) (.t 33))),
Vd [12] (V 35 (.ld none (.t 34))),
Vd [0,5,13] (V 36 (.idx 1 (.t 22) (.t 27))),
Vb [14] (Vn (.st 1 (.t 36) (.t 35)))])) (.rg [V 20 (.mv (.t 6)),
V 21 (.bin .add (.t 20) (.k (.c (.i 1)))),
V 6 (.mv (.t 21))]))
def vf38 : VF := ⟨.seq (.rg [V 4 (.mv (.k (.c .ns)))]) (.seq (.rg [V 7 (.bsl 1 [.i 0] 0 []),
V 8 (.mv (.t 1)),
V 9 (.app 1 (.t 7) (.t 8)),
V 5 (.mv (.t 9))]) (.seq (.seq (.rg [V 10 (.mv (.t 0)),
V 11 (.mv (.t 1)),
V 12 (.len (.t 11)),
V 13 (.call 35 [(.t 10),(.t 12)]),
V 14 (.not (.t 13))]) (.cond (.t 14) (.seq (.rg [V 15 (.mv (.t 5)),
V 4 (.mv (.t 15))]) (.ret)) (.skip))) (.seq (.seq (.rg [V 6 (.mv (.k (.c (.i 0))))]) (.block 0 (.loop vf38b0))) (.seq (.rg [V 37 (.mv (.t 5)),
V 4 (.mv (.t 37))]) (.ret))))),
vf38v,[(4,none)]⟩
theorem ok38 : chkF Try.prog Try.f38 vf38 = true := by kernel_rfl
theorem dr38 : drawsB vf38.body = true := by kernel_rfl
/-- loop.example/g00192/impl.MovesEach -/
def vf39v : List Nat := [0,1,4,5,7,10,11,12,13,29]
def vf39b0 : VC := .seq (.rg [V 13 (.bin .lt (.t 12) (.t 11))]) (.seq (.cond (.t 13) (.skip) (.exit 0)) (.seq (.block 1 (.seq (.rg [V 14 (.idx 2 (.t 10) (.t 12)),
V 15 (.ld (some 2) (.t 14)),
V 7 (.alloc [.i 0,.i 0]),
Vn (.st 2 (.t 7) (.t 15))]) (.seq (.rg [V 16 (.fad 0 (.t 7)),
V 17 (.ld none (.t 16)),
V 18 (.mv (.t 1)),
V 19 (.len (.t 18)),
V 20 (.bin .sub (.t 19) (.k (.c (.i 1)))),
V 21 (.call 51 [(.t 17),(.k (.c (.i 0))),(.t 20)]),
V 22 (.mv (.t 21)),
Vg 23 22 true (.fad 1 (.t 7)),
Vg 24 22 true (.ld none (.t 23)),
Vg 25 22 true (.mv (.t 1)),
Vg 26 22 true (.len (.t 25)),
Vg 27 22 true (.bin .sub (.t 26) (.k (.c (.i 1)))),
Vg 28 22 true (.call 51 [(.t 24),(.k (.c (.i 0))),(.t 27)]),
V 29 (.pick (.t 22) (.t 28) (.k (.c (.b false))))]) (.cond (.t 29) (.rd [V 30 (.mv (.t 5)),
V 31 (.fad 0 (.t 7)),
Vd [1] (V 32 (.ld none (.t 31))),
V 33 (.mv (.t 5)),
V 34 (.fad 1 (.t 7)),
Vd [4] (V 35 (.ld none (.t 34))),
Vd [3,5] (V 36 (.idx 1 (.t 33) (.t 35))),
Vd [6] (V 37 (.ld none (.t 36))),
Vd [0,2,7] (V 38 (.idx 1 (.t 30) (.t 32))),
Vb [8] (Vn (.st 1 (.t 38) (.t 37)))]) (.skip))))) (.rg [V 39 (.bin .add (.t 12) (.k (.c (.i 1)))),
V 12 (.mv (.t 39))])))
def vf39 : VF := ⟨.seq (.rg [V 4 (.mv (.k (.c .ns)))]) (.seq (.rg [V 8 (.mv (.t 1)),
V 9 (.call 66 [(.t 8)]),
V 5 (.mv (.t 9))]) (.seq (.seq (.rg [V 10 (.mv (.t 0)),
V 11 (.len (.t 10)),
V 12 (.mv (.k (.c (.i 0))))]) (.block 0 (.loop vf39b0))) (.seq (.rg [V 40 (.mv (.t 5)),
V 4 (.mv (.t 40))]) (.ret)))),
vf39v,[(4,none)]⟩
theorem ok39 : chkF Try.prog Try.f39 vf39 = true := by kernel_rfl
theorem dr39 : drawsB vf39.body = true := by kernel_rfl
/-- loop.example/g00192/spec.Word -/
def vf40v : List Nat := [0,1,2,6,7,8,13,18,23,28,33,38,44,50,56]
def vf40 : VF := ⟨.seq (.rg [V 6 (.mv (.k (.c (.i 0))))]) (.seq (.seq (.rg [V 7 (.mv (.t 0))]) (.block 0 (.seq (.rg [V 9 (.bin .eq (.t 7) (.k (.c (.i 1)))),
V 8 (.mv (.t 9))]) (.cond (.t 8) (.seq (.rg [V 10 (.mv (.t 1)),
V 11 (.mv (.t 2)),
V 12 (.bin .add (.t 10) (.t 11)),
V 6 (.mv (.t 12))]) (.ret)) (.seq (.rg [V 14 (.bin .eq (.t 7) (.k (.c (.i 2)))),
V 13 (.mv (.t 14))]) (.cond (.t 13) (.seq (.rg [V 15 (.mv (.t 1)),
V 16 (.mv (.t 2)),
V 17 (.bin .sub (.t 15) (.t 16)),
V 6 (.mv (.t 17))]) (.ret)) (.seq (.rg [V 19 (.bin .eq (.t 7) (.k (.c (.i 3)))),
V 18 (.mv (.t 19))]) (.cond (.t 18) (.seq (.rg [V 20 (.mv (.t 1)),
V 21 (.mv (.t 2)),
V 22 (.bin .mul (.t 20) (.t 21)),
V 6 (.mv (.t 22))]) (.ret)) (.seq (.rg [V 24 (.bin .eq (.t 7) (.k (.c (.i 4)))),
V 23 (.mv (.t 24))]) (.cond (.t 23) (.seq (.rg [V 25 (.mv (.t 1)),
V 26 (.mv (.t 2)),
V 27 (.bin .and (.t 25) (.t 26)),
V 6 (.mv (.t 27))]) (.ret)) (.seq (.rg [V 29 (.bin .eq (.t 7) (.k (.c (.i 5)))),
V 28 (.mv (.t 29))]) (.cond (.t 28) (.seq (.rg [V 30 (.mv (.t 1)),
V 31 (.mv (.t 2)),
V 32 (.bin .or (.t 30) (.t 31)),
V 6 (.mv (.t 32))]) (.ret)) (.seq (.rg [V 34 (.bin .eq (.t 7) (.k (.c (.i 6)))),
V 33 (.mv (.t 34))]) (.cond (.t 33) (.seq (.rg [V 35 (.mv (.t 1)),
V 36 (.mv (.t 2)),
V 37 (.bin .xor (.t 35) (.t 36)),
V 6 (.mv (.t 37))]) (.ret)) (.seq (.rg [V 39 (.bin .eq (.t 7) (.k (.c (.i 7)))),
V 38 (.mv (.t 39))]) (.cond (.t 38) (.seq (.rg [V 40 (.mv (.t 1)),
V 41 (.mv (.t 2)),
V 42 (.bin .lt (.t 40) (.t 41)),
V 43 (.call 67 [(.t 42)]),
V 6 (.mv (.t 43))]) (.ret)) (.seq (.rg [V 45 (.bin .eq (.t 7) (.k (.c (.i 8)))),
V 44 (.mv (.t 45))]) (.cond (.t 44) (.seq (.rg [V 46 (.mv (.t 1)),
V 47 (.mv (.t 2)),
V 48 (.bin .eq (.t 46) (.t 47)),
V 49 (.call 67 [(.t 48)]),
V 6 (.mv (.t 49))]) (.ret)) (.seq (.rg [V 51 (.bin .eq (.t 7) (.k (.c (.i 9)))),
V 50 (.mv (.t 51))]) (.cond (.t 50) (.seq (.rg [V 52 (.mv (.t 1)),
V 53 (.mv (.t 2)),
V 54 (.bin .and (.t 53) (.k (.c (.i 63)))),
V 55 (.bin .shl (.t 52) (.t 54)),
V 6 (.mv (.t 55))]) (.ret)) (.seq (.rg [V 57 (.bin .eq (.t 7) (.k (.c (.i 10)))),
V 56 (.mv (.t 57))]) (.cond (.t 56) (.seq (.rg [V 58 (.mv (.t 1)),
V 59 (.mv (.t 2)),
V 60 (.bin .and (.t 59) (.k (.c (.i 63)))),
V 61 (.bin .shr (.t 58) (.t 60)),
V 6 (.mv (.t 61))]) (.ret)) (.skip))))))))))))))))))))))) (.seq (.rg [V 6 (.mv (.k (.c (.i 0))))]) (.ret))),
vf40v,[(6,none)]⟩
theorem ok40 : chkF Try.prog Try.f40 vf40 = true := by kernel_rfl
theorem dr40 : drawsB vf40.body = true := by kernel_rfl
/-- loop.example/g00192/impl.Word -/
def vf41v : List Nat := [0,1,2,6,7,8,13,18,23,28,33,38,44,50,56]
def vf41 : VF := ⟨.seq (.rg [V 6 (.mv (.k (.c (.i 0))))]) (.seq (.seq (.rg [V 7 (.mv (.t 0))]) (.block 0 (.seq (.rg [V 9 (.bin .eq (.t 7) (.k (.c (.i 1)))),
V 8 (.mv (.t 9))]) (.cond (.t 8) (.seq (.rg [V 10 (.mv (.t 1)),
V 11 (.mv (.t 2)),
V 12 (.bin .add (.t 10) (.t 11)),
V 6 (.mv (.t 12))]) (.ret)) (.seq (.rg [V 14 (.bin .eq (.t 7) (.k (.c (.i 2)))),
V 13 (.mv (.t 14))]) (.cond (.t 13) (.seq (.rg [V 15 (.mv (.t 1)),
V 16 (.mv (.t 2)),
V 17 (.bin .sub (.t 15) (.t 16)),
V 6 (.mv (.t 17))]) (.ret)) (.seq (.rg [V 19 (.bin .eq (.t 7) (.k (.c (.i 3)))),
V 18 (.mv (.t 19))]) (.cond (.t 18) (.seq (.rg [V 20 (.mv (.t 1)),
V 21 (.mv (.t 2)),
V 22 (.bin .mul (.t 20) (.t 21)),
V 6 (.mv (.t 22))]) (.ret)) (.seq (.rg [V 24 (.bin .eq (.t 7) (.k (.c (.i 4)))),
V 23 (.mv (.t 24))]) (.cond (.t 23) (.seq (.rg [V 25 (.mv (.t 1)),
V 26 (.mv (.t 2)),
V 27 (.bin .and (.t 25) (.t 26)),
V 6 (.mv (.t 27))]) (.ret)) (.seq (.rg [V 29 (.bin .eq (.t 7) (.k (.c (.i 5)))),
V 28 (.mv (.t 29))]) (.cond (.t 28) (.seq (.rg [V 30 (.mv (.t 1)),
V 31 (.mv (.t 2)),
V 32 (.bin .or (.t 30) (.t 31)),
V 6 (.mv (.t 32))]) (.ret)) (.seq (.rg [V 34 (.bin .eq (.t 7) (.k (.c (.i 6)))),
V 33 (.mv (.t 34))]) (.cond (.t 33) (.seq (.rg [V 35 (.mv (.t 1)),
V 36 (.mv (.t 2)),
V 37 (.bin .xor (.t 35) (.t 36)),
V 6 (.mv (.t 37))]) (.ret)) (.seq (.rg [V 39 (.bin .eq (.t 7) (.k (.c (.i 7)))),
V 38 (.mv (.t 39))]) (.cond (.t 38) (.seq (.rg [V 40 (.mv (.t 1)),
V 41 (.mv (.t 2)),
V 42 (.bin .lt (.t 40) (.t 41)),
V 43 (.call 68 [(.t 42)]),
V 6 (.mv (.t 43))]) (.ret)) (.seq (.rg [V 45 (.bin .eq (.t 7) (.k (.c (.i 8)))),
V 44 (.mv (.t 45))]) (.cond (.t 44) (.seq (.rg [V 46 (.mv (.t 1)),
V 47 (.mv (.t 2)),
V 48 (.bin .eq (.t 46) (.t 47)),
V 49 (.call 68 [(.t 48)]),
V 6 (.mv (.t 49))]) (.ret)) (.seq (.rg [V 51 (.bin .eq (.t 7) (.k (.c (.i 9)))),
V 50 (.mv (.t 51))]) (.cond (.t 50) (.seq (.rg [V 52 (.mv (.t 1)),
V 53 (.mv (.t 2)),
V 54 (.bin .and (.t 53) (.k (.c (.i 63)))),
V 55 (.bin .shl (.t 52) (.t 54)),
V 6 (.mv (.t 55))]) (.ret)) (.seq (.rg [V 57 (.bin .eq (.t 7) (.k (.c (.i 10)))),
V 56 (.mv (.t 57))]) (.cond (.t 56) (.seq (.rg [V 58 (.mv (.t 1)),
V 59 (.mv (.t 2)),
V 60 (.bin .and (.t 59) (.k (.c (.i 63)))),
V 61 (.bin .shr (.t 58) (.t 60)),
V 6 (.mv (.t 61))]) (.ret)) (.skip))))))))))))))))))))))) (.seq (.rg [V 6 (.mv (.k (.c (.i 0))))]) (.ret))),
vf41v,[(6,none)]⟩
theorem ok41 : chkF Try.prog Try.f41 vf41 = true := by kernel_rfl
theorem dr41 : drawsB vf41.body = true := by kernel_rfl
/-- loop.example/g00192/laws.szMoveS -/
def vf42v : List Nat := [0,1,4,10]
def vf42 : VF := ⟨.seq (.rg [V 4 (.mv (.k (.c (.i 0))))]) (.seq (.rg [V 5 (.mv (.t 1)),
V 6 (.mv (.t 0)),
V 7 (.len (.t 6)),
V 8 (.bin .sub (.t 5) (.t 7)),
V 1 (.mv (.t 8))]) (.seq (.seq (.rg [V 9 (.mv (.t 1)),
V 10 (.bin .lt (.t 9) (.k (.c (.i 0))))]) (.cond (.t 10) (.seq (.rg [V 4 (.mv (.k (.c (.i (-1)))))]) (.ret)) (.skip))) (.seq (.rg [V 11 (.mv (.t 1)),
V 4 (.mv (.t 11))]) (.ret)))),
vf42v,[(4,none)]⟩
theorem ok42 : chkF Try.prog Try.f42 vf42 = true := by kernel_rfl
theorem dr42 : drawsB vf42.body = true := by kernel_rfl
/-- loop.example/g00192/laws.toMoveS -/
def vf43v : List Nat := [0,2,3,4,11]
def vf43b0 : VC := .seq (.seq (.rg [V 8 (.mv (.t 4)),
V 9 (.mv (.t 0)),
V 10 (.len (.t 9)),
V 11 (.bin .lt (.t 8) (.t 10))]) (.cond (.t 11) (.skip) (.exit 0))) (.seq (.block 1 (.rg [V 14 (.mv (.t 3)),
V 15 (.mv (.t 4)),
V 16 (.mv (.t 0)),
V 17 (.mv (.t 4)),
V 18 (.idx 2 (.t 16) (.t 17)),
V 19 (.ld (some 2) (.t 18)),
V 20 (.call 69 [(.t 19)]),
V 21 (.idx 2 (.t 14) (.t 15)),
Vn (.st 2 (.t 21) (.t 20))])) (.rg [V 12 (.mv (.t 4)),
V 13 (.bin .add (.t 12) (.k (.c (.i 1)))),
V 4 (.mv (.t 13))]))
def vf43 : VF := ⟨.seq (.rg [V 2 (.mv (.k (.c .ns)))]) (.seq (.rg [V 5 (.mv (.t 0)),
V 6 (.len (.t 5)),
V 7 (.mks 2 [.i 0,.i 0] (.t 6)),
V 3 (.mv (.t 7))]) (.seq (.seq (.rg [V 4 (.mv (.k (.c (.i 0))))]) (.block 0 (.loop vf43b0))) (.seq (.rg [V 22 (.mv (.t 3)),
V 2 (.mv (.t 22))]) (.ret)))),
vf43v,[(2,none)]⟩
theorem ok43 : chkF Try.prog Try.f43 vf43 = true := by kernel_rfl
theorem dr43 : drawsB vf43.body = true := by kernel_rfl
/-- loop.example/g00192/laws.eqMoveS -/
def vf44v : List Nat := [0,1,4,5,10,14,26]
def vf44b0 : VC := .seq (.seq (.rg [V 11 (.mv (.t 5)),
V 12 (.mv (.t 0)),
V 13 (.len (.t 12)),
V 14 (.bin .lt (.t 11) (.t 13))]) (.cond (.t 14) (.skip) (.exit 0))) (.seq (.block 1 (.seq (.rd [V 17 (.mv (.t 0)),
V 18 (.mv (.t 5)),
Vd [0,1] (V 19 (.idx 2 (.t 17) (.t 18))),
Vd [2] (V 20 (.ld (some 2) (.t 19))),
V 21 (.mv (.t 1)),
V 22 (.mv (.t 5)),
Vd [4,5] (V 23 (.idx 2 (.t 21) (.t 22))),
Vd [6] (V 24 (.ld (some 2) (.t 23))),
Vb [3,7] (V 25 (.call 70 [(.t 20),(.t 24)])),
Vd [8] (V 26 (.not (.t 25)))]) (.cond (.t 26) (.seq (.rg [V 4 (.mv (.k (.c (.b false))))]) (.ret)) (.skip)))) (.rg [V 15 (.mv (.t 5)),
V 16 (.bin .add (.t 15) (.k (.c (.i 1)))),
V 5 (.mv (.t 16))]))
def vf44 : VF := ⟨.seq (.rg [V 4 (.mv (.k (.c (.b false))))]) (.seq (.seq (.rg [V 6 (.mv (.t 0)),
V 7 (.len (.t 6)),
V 8 (.mv (.t 1)),
V 9 (.len (.t 8)),
V 10 (.bin .ne (.t 7) (.t 9))]) (.cond (.t 10) (.seq (.rg [V 4 (.mv (.k (.c (.b false))))]) (.ret)) (.skip))) (.seq (.seq (.rg [V 5 (.mv (.k (.c (.i 0))))]) (.block 0 (.loop vf44b0))) (.seq (.rg [V 4 (.mv (.k (.c (.b true))))]) (.ret)))),
vf44v,[(4,none)]⟩
theorem ok44 : chkF Try.prog Try.f44 vf44 = true := by kernel_rfl
theorem dr44 : drawsB vf44.body = true := by kernel_rfl
/-- loop.example/g00192/spec.DrawWordName -/
def vf45v : List Nat := [0,2]
def vf45 : VF := ⟨.seq (.rg [V 2 (.mv (.k (.c (.i 0))))]) (.seq (.rg [V 3 (.mv (.t 0)),
V 4 (.call 72 [(.t 3)]),
V 5 (.call 71 [(.t 4),(.k (.c (.i 14)))]),
V 6 (.bin .sub (.t 5) (.k (.c (.i 1)))),
V 2 (.mv (.t 6))]) (.ret)),
vf45v,[(2,none)]⟩
theorem ok45 : chkF Try.prog Try.f45 vf45 = true := by kernel_rfl
theorem dr45 : drawsB vf45.body = true := by kernel_rfl
/-- loop.example/g00192/spec.DrawWordOf -/
def vf46v : List Nat := [0,2,3,7]
def vf46 : VF := ⟨.seq (.rg [V 2 (.mv (.k (.c (.s ⟨#[]⟩))))]) (.seq (.rg [V 4 (.mv (.t 0)),
V 5 (.call 72 [(.t 4)]),
V 3 (.mv (.t 5))]) (.seq (.seq (.rg [V 6 (.mv (.t 3)),
V 7 (.call 73 [(.t 6),(.k (.c (.i 4)))])]) (.cond (.t 7) (.seq (.rg [V 8 (.mv (.t 3)),
V 9 (.bsl 1 [.s ⟨#[]⟩] 4 [(0,1,(.k (.c (.s ⟨#[]⟩)))),(1,1,(.k (.c (.s ⟨#[65,100,100]⟩)))),(2,1,(.k (.c (.s ⟨#[100,105,118]⟩)))),(3,1,(.k (.c (.s ⟨#[97]⟩))))]),
V 10 (.call 74 [(.t 8),(.t 9)]),
V 2 (.mv (.t 10))]) (.ret)) (.skip))) (.seq (.rg [V 11 (.call 52 []),
V 12 (.mv (.t 3)),
V 13 (.call 71 [(.t 12),(.k (.c (.i 11)))]),
V 14 (.idx 1 (.t 11) (.t 13)),
V 15 (.ld none (.t 14)),
V 2 (.mv (.t 15))]) (.ret)))),
vf46v,[(2,none)]⟩
theorem ok46 : chkF Try.prog Try.f46 vf46 = true := by kernel_rfl
theorem dr46 : drawsB vf46.body = true := by kernel_rfl
/-- loop.example/g00192/spec.InsUses -/
def vf47v : List Nat := [0,1,2,3,17]
def vf47 : VF := ⟨.seq (.rg [V 1 (.box (.t 0)),
V 2 (.mv (.k (.c .ns)))]) (.seq (.block 0 (.seq (.rg [V 4 (.fad 0 (.t 1)),
V 5 (.ld none (.t 4)),
V 6 (.call 15 [(.t 5)]),
V 7 (.mv (.t 6)),
Vg 8 7 false (.fad 0 (.t 1)),
Vg 9 7 false (.ld none (.t 8)),
Vg 10 7 false (.bin .eq (.t 9) (.k (.c (.i 22)))),
V 11 (.pick (.t 7) (.k (.c (.b true))) (.t 10)),
V 3 (.mv (.t 11))]) (.cond (.t 3) (.seq (.rg [V 12 (.fad 2 (.t 1)),
V 13 (.ld none (.t 12)),
V 14 (.fad 3 (.t 1)),
V 15 (.ld none (.t 14)),
V 16 (.bsl 1 [.i 0] 2 [(0,1,(.t 13)),(1,1,(.t 15))]),
V 2 (.mv (.t 16))]) (.ret)) (.seq (.rg [V 18 (.fad 0 (.t 1)),
V 19 (.ld none (.t 18)),
V 20 (.bin .eq (.t 19) (.k (.c (.i 21)))),
V 21 (.mv (.t 20)),
Vg 22 21 false (.fad 0 (.t 1)),
Vg 23 21 false (.ld none (.t 22)),
Vg 24 21 false (.bin .eq (.t 23) (.k (.c (.i 23)))),
V 25 (.pick (.t 21) (.k (.c (.b true))) (.t 24)),
V 26 (.mv (.t 25)),
Vg 27 26 false (.fad 0 (.t 1)),
Vg 28 26 false (.ld none (.t 27)),
Vg 29 26 false (.bin .eq (.t 28) (.k (.c (.i 25)))),
V 30 (.pick (.t 26) (.k (.c (.b true))) (.t 29)),
V 17 (.mv (.t 30))]) (.cond (.t 17) (.seq (.rg [V 31 (.fad 2 (.t 1)),
V 32 (.ld none (.t 31)),
V 33 (.bsl 1 [.i 0] 1 [(0,1,(.t 32))]),
V 2 (.mv (.t 33))]) (.ret)) (.skip)))))) (.seq (.rg [V 34 (.bsl 1 [.i 0] 0 []),
V 2 (.mv (.t 34))]) (.ret))),
vf47v,[(2,none)]⟩
theorem ok47 : chkF Try.prog Try.f47 vf47 = true := by kernel_rfl
theorem dr47 : drawsB vf47.body = true := by kernel_rfl
/-- loop.example/g00192/impl.InsUses -/
def vf48v : List Nat := [0,1,2,3,7,15]
def vf48 : VF := ⟨.seq (.rg [V 1 (.box (.t 0)),
V 2 (.mv (.k (.c .ns)))]) (.seq (.rg [V 4 (.bsl 1 [.i 0] 0 []),
V 3 (.mv (.t 4))]) (.seq (.seq (.rg [V 5 (.fad 0 (.t 1)),
V 6 (.ld none (.t 5)),
V 7 (.call 56 [(.t 6),(.k (.c (.y 65)))])]) (.cond (.t 7) (.rg [V 8 (.mv (.t 3)),
V 9 (.fad 2 (.t 1)),
V 10 (.ld none (.t 9)),
V 11 (.bsl 1 [.i 0] 1 [(0,1,(.t 10))]),
V 12 (.app 1 (.t 8) (.t 11)),
V 3 (.mv (.t 12))]) (.skip))) (.seq (.seq (.rg [V 13 (.fad 0 (.t 1)),
V 14 (.ld none (.t 13)),
V 15 (.call 56 [(.t 14),(.k (.c (.y 66)))])]) (.cond (.t 15) (.rg [V 16 (.mv (.t 3)),
V 17 (.fad 3 (.t 1)),
V 18 (.ld none (.t 17)),
V 19 (.bsl 1 [.i 0] 1 [(0,1,(.t 18))]),
V 20 (.app 1 (.t 16) (.t 19)),
V 3 (.mv (.t 20))]) (.skip))) (.seq (.rg [V 21 (.mv (.t 3)),
V 2 (.mv (.t 21))]) (.ret))))),
vf48v,[(2,none)]⟩
theorem ok48 : chkF Try.prog Try.f48 vf48 = true := by kernel_rfl
theorem dr48 : drawsB vf48.body = true := by kernel_rfl
/-- loop.example/g00192/spec.DrawWord -/
def vf49v : List Nat := [0,2,3,4,5,6,7]
def vf49 : VF := ⟨.seq (.rg [V 2 (.mv (.k (.c (.i 0)))),
V 3 (.mv (.k (.c (.i 0)))),
V 4 (.mv (.k (.c (.i 0))))]) (.seq (.rg [V 8 (.mv (.t 0)),
V 9 (.call 72 [(.t 8)]),
V 5 (.mv (.t 9))]) (.seq (.rg [V 10 (.mv (.t 5)),
V 11 (.call 71 [(.t 10),(.k (.c (.i 13)))]),
V 12 (.bin .sub (.t 11) (.k (.c (.i 1)))),
V 6 (.mv (.t 12))]) (.seq (.rg [V 13 (.mv (.t 5)),
V 14 (.call 75 [(.t 13)]),
V 7 (.mv (.t 14))]) (.seq (.rg [V 15 (.mv (.t 6)),
V 16 (.mv (.t 7)),
V 17 (.mv (.t 5)),
V 18 (.call 75 [(.t 17)]),
V 2 (.mv (.t 15)),
V 3 (.mv (.t 16)),
V 4 (.mv (.t 18))]) (.ret))))),
vf49v,[(2,none),(3,none),(4,none)]⟩
theorem ok49 : chkF Try.prog Try.f49 vf49 = true := by kernel_rfl
theorem dr49 : drawsB vf49.body = true := by kernel_rfl
/-- loop.example/g00192/spec.l1In -/
def vf50v : List Nat := [0,1,2,6]
def vf50 : VF := ⟨.seq (.rg [V 6 (.mv (.k (.c (.b false))))]) (.seq (.rg [V 7 (.mv (.t 0)),
V 8 (.mv (.t 1)),
V 9 (.bin .ge (.t 7) (.t 8)),
V 10 (.mv (.t 9)),
Vg 11 10 true (.mv (.t 0)),
Vg 12 10 true (.mv (.t 2)),
Vg 13 10 true (.bin .le (.t 11) (.t 12)),
V 14 (.pick (.t 10) (.t 13) (.k (.c (.b false)))),
V 6 (.mv (.t 14))]) (.ret)),
vf50v,[(6,none)]⟩
theorem ok50 : chkF Try.prog Try.f50 vf50 = true := by kernel_rfl
theorem dr50 : drawsB vf50.body = true := by kernel_rfl
/-- loop.example/g00192/impl.in -/
def vf51v : List Nat := [0,1,2,6]
def vf51 : VF := ⟨.seq (.rg [V 6 (.mv (.k (.c (.b false))))]) (.seq (.rg [V 7 (.mv (.t 0)),
V 8 (.mv (.t 1)),
V 9 (.bin .ge (.t 7) (.t 8)),
V 10 (.mv (.t 9)),
Vg 11 10 true (.mv (.t 0)),
Vg 12 10 true (.mv (.t 2)),
Vg 13 10 true (.bin .le (.t 11) (.t 12)),
V 14 (.pick (.t 10) (.t 13) (.k (.c (.b false)))),
V 6 (.mv (.t 14))]) (.ret)),
vf51v,[(6,none)]⟩
theorem ok51 : chkF Try.prog Try.f51 vf51 = true := by kernel_rfl
theorem dr51 : drawsB vf51.body = true := by kernel_rfl
/-- loop.example/g00192/spec.l1Names -/
def vf52v : List Nat := [0]
def vf52 : VF := ⟨.seq (.rg [V 0 (.mv (.k (.c .ns)))]) (.seq (.rg [V 1 (.bsl 1 [.s ⟨#[]⟩] 11 [(0,1,(.k (.c (.s ⟨#[]⟩)))),(1,1,(.k (.c (.s ⟨#[97,100,100]⟩)))),(2,1,(.k (.c (.s ⟨#[115,117,98]⟩)))),(3,1,(.k (.c (.s ⟨#[109,117,108]⟩)))),(4,1,(.k (.c (.s ⟨#[97,110,100]⟩)))),(5,1,(.k (.c (.s ⟨#[111,114]⟩)))),(6,1,(.k (.c (.s ⟨#[120,111,114]⟩)))),(7,1,(.k (.c (.s ⟨#[108,101,115,115]⟩)))),(8,1,(.k (.c (.s ⟨#[115,97,109,101]⟩)))),(9,1,(.k (.c (.s ⟨#[108,101,102,116]⟩)))),(10,1,(.k (.c (.s ⟨#[114,105,103,104,116]⟩))))]),
V 0 (.mv (.t 1))]) (.ret)),
vf52v,[(0,none)]⟩
theorem ok52 : chkF Try.prog Try.f52 vf52 = true := by kernel_rfl
theorem dr52 : drawsB vf52.body = true := by kernel_rfl
/-- loop.example/g00192/impl.wordNames -/
def vf53v : List Nat := [0]
def vf53 : VF := ⟨.seq (.rg [V 0 (.mv (.k (.c .ns)))]) (.seq (.rg [V 1 (.bsl 1 [.s ⟨#[]⟩] 11 [(0,1,(.k (.c (.s ⟨#[]⟩)))),(1,1,(.k (.c (.s ⟨#[97,100,100]⟩)))),(2,1,(.k (.c (.s ⟨#[115,117,98]⟩)))),(3,1,(.k (.c (.s ⟨#[109,117,108]⟩)))),(4,1,(.k (.c (.s ⟨#[97,110,100]⟩)))),(5,1,(.k (.c (.s ⟨#[111,114]⟩)))),(6,1,(.k (.c (.s ⟨#[120,111,114]⟩)))),(7,1,(.k (.c (.s ⟨#[108,101,115,115]⟩)))),(8,1,(.k (.c (.s ⟨#[115,97,109,101]⟩)))),(9,1,(.k (.c (.s ⟨#[108,101,102,116]⟩)))),(10,1,(.k (.c (.s ⟨#[114,105,103,104,116]⟩))))]),
V 0 (.mv (.t 1))]) (.ret)),
vf53v,[(0,none)]⟩
theorem ok53 : chkF Try.prog Try.f53 vf53 = true := by kernel_rfl
theorem dr53 : drawsB vf53.body = true := by kernel_rfl
/-- slices.Indexstringstring -/
def vf54v : List Nat := [0,1,4,5,7,8,9,16]
def vf54b0 : VC := .seq (.rg [V 9 (.bin .lt (.t 8) (.t 7))]) (.seq (.cond (.t 9) (.skip) (.exit 0)) (.seq (.block 1 (.seq (.rg [V 10 (.mv (.t 8)),
V 5 (.mv (.t 10))]) (.seq (.rg [V 11 (.mv (.t 1)),
V 12 (.mv (.t 0)),
V 13 (.mv (.t 5)),
V 14 (.idx 1 (.t 12) (.t 13)),
V 15 (.ld none (.t 14)),
V 16 (.bin .eq (.t 11) (.t 15))]) (.cond (.t 16) (.seq (.rg [V 17 (.mv (.t 5)),
V 4 (.mv (.t 17))]) (.ret)) (.skip))))) (.rg [V 18 (.bin .add (.t 8) (.k (.c (.i 1)))),
V 8 (.mv (.t 18))])))
def vf54 : VF := ⟨.seq (.rg [V 4 (.mv (.k (.c (.i 0))))]) (.seq (.seq (.rg [V 6 (.mv (.t 0)),
V 7 (.len (.t 6)),
V 8 (.mv (.k (.c (.i 0))))]) (.block 0 (.loop vf54b0))) (.seq (.rg [V 4 (.mv (.k (.c (.i (-1)))))]) (.ret))),
vf54v,[(4,none)]⟩
theorem ok54 : chkF Try.prog Try.f54 vf54 = true := by kernel_rfl
theorem dr54 : drawsB vf54.body = true := by kernel_rfl
/-- loop.example/g00192/spec.l2Makes -/
def vf55v : List Nat := [0,2]
def vf55 : VF := ⟨.seq (.rg [V 2 (.mv (.k (.c (.b false))))]) (.seq (.rg [V 3 (.mv (.t 0)),
V 4 (.call 15 [(.t 3)]),
V 5 (.mv (.t 4)),
Vg 6 5 false (.mv (.t 0)),
Vg 7 5 false (.bin .eq (.t 6) (.k (.c (.i 20)))),
V 8 (.pick (.t 5) (.k (.c (.b true))) (.t 7)),
V 9 (.mv (.t 8)),
Vg 10 9 false (.mv (.t 0)),
Vg 11 9 false (.bin .eq (.t 10) (.k (.c (.i 21)))),
V 12 (.pick (.t 9) (.k (.c (.b true))) (.t 11)),
V 13 (.mv (.t 12)),
Vg 14 13 false (.mv (.t 0)),
Vg 15 13 false (.bin .eq (.t 14) (.k (.c (.i 24)))),
V 16 (.pick (.t 13) (.k (.c (.b true))) (.t 15)),
V 17 (.mv (.t 16)),
Vg 18 17 false (.mv (.t 0)),
Vg 19 17 false (.bin .eq (.t 18) (.k (.c (.i 25)))),
V 20 (.pick (.t 17) (.k (.c (.b true))) (.t 19)),
V 2 (.mv (.t 20))]) (.ret)),
vf55v,[(2,none)]⟩
theorem ok55 : chkF Try.prog Try.f55 vf55 = true := by kernel_rfl
theorem dr55 : drawsB vf55.body = true := by kernel_rfl
/-- loop.example/g00192/impl.has -/
def vf56v : List Nat := [0,1,4,5,6]
def vf56 : VF := ⟨.seq (.rg [V 4 (.mv (.k (.c (.b false))))]) (.seq (.rg [V 8 (.mv (.t 0)),
V 9 (.call 76 [(.t 8)]),
V 7 (.mv (.t 9)),
V 10 (.ext 0 (.t 7)),
V 11 (.ext 1 (.t 7)),
V 5 (.mv (.t 10)),
V 6 (.mv (.t 11))]) (.seq (.rg [V 12 (.mv (.t 6)),
V 13 (.mv (.t 12)),
Vg 14 13 true (.mv (.t 5)),
Vg 15 13 true (.s2b (.t 14)),
Vg 16 13 true (.mv (.t 1)),
Vg 17 13 true (.call 77 [(.t 15),(.t 16)]),
V 18 (.pick (.t 13) (.t 17) (.k (.c (.b false)))),
V 4 (.mv (.t 18))]) (.ret))),
vf56v,[(4,none)]⟩
theorem ok56 : chkF Try.prog Try.f56 vf56 = true := by kernel_rfl
theorem dr56 : drawsB vf56.body = true := by kernel_rfl
/-- loop.example/g00192/spec.l9DrawVals -/
def vf57v : List Nat := [0,2,3,4,5,6,7,8,19,31]
def vf57b0 : VC := .seq (.seq (.rg [V 17 (.mv (.t 8)),
V 18 (.mv (.t 6)),
V 19 (.bin .lt (.t 17) (.t 18))]) (.cond (.t 19) (.skip) (.exit 0))) (.seq (.block 1 (.rg [V 22 (.mv (.t 7)),
V 23 (.mv (.t 8)),
V 24 (.bin .mul (.k (.c (.i 10))) (.t 23)),
V 25 (.mv (.t 4)),
V 26 (.call 71 [(.t 25),(.k (.c (.i 5)))]),
V 27 (.bin .add (.t 24) (.t 26)),
V 28 (.bsl 1 [.i 0] 1 [(0,1,(.t 27))]),
V 29 (.app 1 (.t 22) (.t 28)),
V 7 (.mv (.t 29))])) (.rg [V 20 (.mv (.t 8)),
V 21 (.bin .add (.t 20) (.k (.c (.i 1)))),
V 8 (.mv (.t 21))]))
def vf57 : VF := ⟨.seq (.rg [V 2 (.mv (.k (.c .ns))),
V 3 (.mv (.k (.c .ns)))]) (.seq (.rg [V 9 (.mv (.t 0)),
V 10 (.call 72 [(.t 9)]),
V 4 (.mv (.t 10))]) (.seq (.rg [V 12 (.mv (.t 4)),
V 13 (.call 78 [(.t 12)]),
V 11 (.mv (.t 13)),
V 14 (.ext 0 (.t 11)),
V 15 (.ext 1 (.t 11)),
V 5 (.mv (.t 14)),
V 6 (.mv (.t 15))]) (.seq (.rg [V 16 (.bsl 1 [.i 0] 0 []),
V 7 (.mv (.t 16))]) (.seq (.seq (.rg [V 8 (.mv (.k (.c (.i 0))))]) (.block 0 (.loop vf57b0))) (.seq (.seq (.rg [V 30 (.mv (.t 4)),
V 31 (.call 73 [(.t 30),(.k (.c (.i 9)))])]) (.cond (.t 31) (.rg [V 32 (.mv (.t 7)),
V 33 (.mv (.t 4)),
V 34 (.mv (.t 6)),
V 35 (.bin .add (.t 34) (.k (.c (.i 1)))),
V 36 (.call 71 [(.t 33),(.t 35)]),
V 37 (.slc 1 (.t 32) none (some (.t 36))),
V 7 (.mv (.t 37))]) (.skip))) (.seq (.rg [V 38 (.mv (.t 5)),
V 39 (.mv (.t 7)),
V 2 (.mv (.t 38)),
V 3 (.mv (.t 39))]) (.ret))))))),
vf57v,[(2,none),(3,none)]⟩
theorem ok57 : chkF Try.prog Try.f57 vf57 = true := by kernel_rfl
theorem dr57 : drawsB vf57.body = true := by kernel_rfl
/-- slices.ContainsFuncloop.example/g00192/impl.Moveloop.example/g00192/impl.Move -/
def vf58v : List Nat := [0,1,4]
def vf58 : VF := ⟨.seq (.rg [V 4 (.mv (.k (.c (.b false))))]) (.seq (.rg [V 5 (.mv (.t 0)),
V 6 (.mv (.t 1)),
V 7 (.call 79 [(.t 5),(.t 6)]),
V 8 (.bin .ge (.t 7) (.k (.c (.i 0)))),
V 4 (.mv (.t 8))]) (.ret)),
vf58v,[(4,none)]⟩
theorem ok58 : chkF Try.prog Try.f58 vf58 = true := by kernel_rfl
theorem dr58 : drawsB vf58.body = true := by kernel_rfl
end Go.Proofs.Ytlhhmlldcpafiaa.Vm
