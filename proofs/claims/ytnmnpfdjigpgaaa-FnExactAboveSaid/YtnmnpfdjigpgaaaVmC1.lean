/- The ideal machine's code for some of the program's functions, each checked against the translated one. No conditions. -/
import Derived.Test.YtnmnpfdjigpgaaaChecked
import Derived.Test.YtnmnpfdjigpgaaaVmQ
import Derived.Test.YtnmnpfdjigpgaaaVmC
namespace Go.Proofs.Ytnmnpfdjigpgaaa.Vm
set_option linter.unusedVariables false
set_option maxRecDepth 100000
/-- loop.example/g00192/laws.heldBoolS -/
def vf49v : List Nat := [0,1,4,5,9,19]
def vf49b0 : VC := .seq (.seq (.rg [V 6 (.mv (.t 5)),
V 7 (.mv (.t 0)),
V 8 (.len (.t 7)),
V 9 (.bin .lt (.t 6) (.t 8))]) (.cond (.t 9) (.skip) (.exit 0))) (.seq (.block 1 (.seq (.seq (.rg [V 12 (.mv (.t 0)),
V 13 (.mv (.t 5)),
V 14 (.idx 1 (.t 12) (.t 13)),
V 15 (.ld none (.t 14)),
V 16 (.mv (.t 1)),
V 17 (.bin .rem (.t 16) (.k (.c (.i 3)))),
V 18 (.bin .eq (.t 17) (.k (.c (.i 0)))),
V 19 (.eqb true (.t 15) (.t 18))]) (.cond (.t 19) (.seq (.rg [V 4 (.mv (.k (.c (.i (-1)))))]) (.ret)) (.skip))) (.rg [V 20 (.mv (.t 1)),
V 21 (.bin .add (.t 20) (.k (.c (.i 1)))),
V 1 (.mv (.t 21))]))) (.rg [V 10 (.mv (.t 5)),
V 11 (.bin .add (.t 10) (.k (.c (.i 1)))),
V 5 (.mv (.t 11))]))
def vf49c : VC := .seq (.rg [V 4 (.mv (.k (.c (.i 0))))]) (.seq (.seq (.rg [V 5 (.mv (.k (.c (.i 0))))]) (.block 0 (.loop vf49b0))) (.seq (.rg [V 22 (.mv (.t 1)),
V 4 (.mv (.t 22))]) (.ret)))
def vf49 : VF := ⟨vf49c,vf49v,[(4,none)]⟩
theorem ok49 : chkF Try.prog Try.f49 vf49 = true := by kernel_rfl
theorem dr49 : drawsB vf49.body = true := by kernel_rfl
/-- loop.example/g00192/spec.Critical -/
def vf50v : List Nat := [0,1,2,5]
def vf50c : VC := .seq (.rg [V 1 (.box (.t 0)),
V 2 (.mv (.k (.c .ns)))]) (.seq (.seq (.rg [V 3 (.ld (some 2) (.t 1)),
V 4 (.call 21 [(.t 3)]),
V 5 (.not (.t 4))]) (.cond (.t 5) (.seq (.rg [V 6 (.bsl 2 [.i 0,.i 0] 0 []),
V 2 (.mv (.t 6))]) (.ret)) (.skip))) (.seq (.rg [V 7 (.ld (some 2) (.t 1)),
V 8 (.call 100 [(.t 7)]),
V 2 (.mv (.t 8))]) (.ret)))
def vf50 : VF := ⟨vf50c,vf50v,[(2,none)]⟩
theorem ok50 : chkF Try.prog Try.f50 vf50 = true := by kernel_rfl
theorem dr50 : drawsB vf50.body = true := by kernel_rfl
/-- loop.example/g00192/impl.Critical -/
def vf51v : List Nat := [0,1,2,3,4,5,7,10,14,15,16,23,24,25,26,27,44]
def vf51b0 : VC := .seq (.rg [V 27 (.bin .lt (.t 26) (.t 25))]) (.seq (.cond (.t 27) (.skip) (.exit 2)) (.seq (.block 3 (.seq (.rg [V 28 (.idx 1 (.t 24) (.t 26)),
V 29 (.ld none (.t 28)),
V 7 (.mv (.t 29))]) (.seq (.rg [V 30 (.ld (some 2) (.t 1)),
V 31 (.mv (.t 7)),
V 32 (.call 88 [(.t 30),(.t 31)]),
V 33 (.len (.t 32)),
V 34 (.bin .gt (.t 33) (.k (.c (.i 1)))),
V 35 (.mv (.t 34)),
Vg 36 35 false (.fad 0 (.t 1)),
Vg 37 35 false (.ld none (.t 36)),
Vg 38 35 false (.mv (.t 7)),
Vg 39 35 false (.idx 6 (.t 37) (.t 38)),
Vg 40 35 false (.fad 0 (.t 39)),
Vg 41 35 false (.ld none (.t 40)),
Vg 42 35 false (.len (.t 41)),
Vg 43 35 false (.bin .gt (.t 42) (.k (.c (.i 0)))),
V 44 (.pick (.t 35) (.k (.c (.b true))) (.t 43))]) (.cond (.t 44) (.rg [V 45 (.mv (.t 3)),
V 46 (.mv (.t 4)),
V 47 (.mv (.t 7)),
V 48 (.build [.i 0,.i 0] [(0,1,(.t 46)),(1,1,(.t 47))]),
V 49 (.bsl 2 [.i 0,.i 0] 1 [(0,2,(.t 48))]),
V 50 (.app 2 (.t 45) (.t 49)),
V 3 (.mv (.t 50))]) (.skip))))) (.rg [V 51 (.bin .add (.t 26) (.k (.c (.i 1)))),
V 26 (.mv (.t 51))])))
def vf51b1 : VC := .seq (.rg [V 16 (.bin .lt (.t 15) (.t 14))]) (.seq (.cond (.t 16) (.skip) (.exit 0)) (.seq (.block 1 (.seq (.rg [V 17 (.mv (.t 15)),
V 4 (.mv (.t 17))]) (.seq (.rg [V 18 (.ld (some 2) (.t 1)),
V 19 (.mv (.t 4)),
V 20 (.call 85 [(.t 18),(.t 19)]),
V 5 (.mv (.t 20))]) (.seq (.seq (.rg [V 21 (.mv (.t 5)),
V 22 (.len (.t 21)),
V 23 (.bin .ne (.t 22) (.k (.c (.i 2))))]) (.cond (.t 23) (.exit 1) (.skip))) (.seq (.rg [V 24 (.mv (.t 5)),
V 25 (.len (.t 24)),
V 26 (.mv (.k (.c (.i 0))))]) (.block 2 (.loop vf51b0))))))) (.rg [V 52 (.bin .add (.t 15) (.k (.c (.i 1)))),
V 15 (.mv (.t 52))])))
def vf51c : VC := .seq (.rg [V 1 (.box (.t 0)),
V 2 (.mv (.k (.c .ns)))]) (.seq (.seq (.rg [V 8 (.ld (some 2) (.t 1)),
V 9 (.call 23 [(.t 8)]),
V 10 (.not (.t 9))]) (.cond (.t 10) (.seq (.rg [V 2 (.mv (.k (.c .ns)))]) (.ret)) (.skip))) (.seq (.rg [V 11 (.bsl 2 [.i 0,.i 0] 0 []),
V 3 (.mv (.t 11))]) (.seq (.seq (.rg [V 12 (.fad 0 (.t 1)),
V 13 (.ld none (.t 12)),
V 14 (.len (.t 13)),
V 15 (.mv (.k (.c (.i 0))))]) (.block 0 (.loop vf51b1))) (.seq (.rg [V 53 (.mv (.t 3)),
V 2 (.mv (.t 53))]) (.ret)))))
def vf51 : VF := ⟨vf51c,vf51v,[(2,none)]⟩
theorem ok51 : chkF Try.prog Try.f51 vf51 = true := by kernel_rfl
theorem dr51 : drawsB vf51.body = true := by kernel_rfl
/-- loop.example/g00192/laws.eqEdgeS -/
def vf52v : List Nat := [0,1,4,5,10,14,26]
def vf52b0 : VC := .seq (.seq (.rg [V 11 (.mv (.t 5)),
V 12 (.mv (.t 0)),
V 13 (.len (.t 12)),
V 14 (.bin .lt (.t 11) (.t 13))]) (.cond (.t 14) (.skip) (.exit 0))) (.seq (.block 1 (.seq (.rd [V 17 (.mv (.t 0)),
V 18 (.mv (.t 5)),
Vd [0,1] (V 19 (.idx 2 (.t 17) (.t 18))),
Vd [2] (V 20 (.ld (some 2) (.t 19))),
V 21 (.mv (.t 1)),
V 22 (.mv (.t 5)),
Vd [4,5] (V 23 (.idx 2 (.t 21) (.t 22))),
Vd [6] (V 24 (.ld (some 2) (.t 23))),
Vd [3,7] (V 25 (.call 101 [(.t 20),(.t 24)])),
Vd [8] (V 26 (.not (.t 25)))]) (.cond (.t 26) (.seq (.rg [V 4 (.mv (.k (.c (.b false))))]) (.ret)) (.skip)))) (.rg [V 15 (.mv (.t 5)),
V 16 (.bin .add (.t 15) (.k (.c (.i 1)))),
V 5 (.mv (.t 16))]))
def vf52c : VC := .seq (.rg [V 4 (.mv (.k (.c (.b false))))]) (.seq (.seq (.rg [V 6 (.mv (.t 0)),
V 7 (.len (.t 6)),
V 8 (.mv (.t 1)),
V 9 (.len (.t 8)),
V 10 (.bin .ne (.t 7) (.t 9))]) (.cond (.t 10) (.seq (.rg [V 4 (.mv (.k (.c (.b false))))]) (.ret)) (.skip))) (.seq (.seq (.rg [V 5 (.mv (.k (.c (.i 0))))]) (.block 0 (.loop vf52b0))) (.seq (.rg [V 4 (.mv (.k (.c (.b true))))]) (.ret))))
def vf52 : VF := ⟨vf52c,vf52v,[(4,none)]⟩
theorem ok52 : chkF Try.prog Try.f52 vf52 = true := by kernel_rfl
theorem dr52 : drawsB vf52.body = true := by kernel_rfl
/-- loop.example/g00192/laws.markEdgeS -/
def vf53v : List Nat := [0,1,4,5,9]
def vf53b0 : VC := .seq (.seq (.rg [V 6 (.mv (.t 5)),
V 7 (.mv (.t 0)),
V 8 (.len (.t 7)),
V 9 (.bin .lt (.t 6) (.t 8))]) (.cond (.t 9) (.skip) (.exit 0))) (.seq (.block 1 (.seq (.rg [V 12 (.mv (.t 0)),
V 13 (.mv (.t 5)),
V 14 (.mv (.t 1)),
V 15 (.idx 2 (.t 12) (.t 13)),
V 16 (.fad 0 (.t 15)),
Vn (.st 1 (.t 16) (.t 14))]) (.seq (.rg [V 17 (.mv (.t 1)),
V 18 (.bin .add (.t 17) (.k (.c (.i 1)))),
V 1 (.mv (.t 18))]) (.seq (.rg [V 19 (.mv (.t 0)),
V 20 (.mv (.t 5)),
V 21 (.mv (.t 1)),
V 22 (.idx 2 (.t 19) (.t 20)),
V 23 (.fad 1 (.t 22)),
Vn (.st 1 (.t 23) (.t 21))]) (.rg [V 24 (.mv (.t 1)),
V 25 (.bin .add (.t 24) (.k (.c (.i 1)))),
V 1 (.mv (.t 25))]))))) (.rg [V 10 (.mv (.t 5)),
V 11 (.bin .add (.t 10) (.k (.c (.i 1)))),
V 5 (.mv (.t 11))]))
def vf53c : VC := .seq (.rg [V 4 (.mv (.k (.c (.i 0))))]) (.seq (.seq (.rg [V 5 (.mv (.k (.c (.i 0))))]) (.block 0 (.loop vf53b0))) (.seq (.rg [V 26 (.mv (.t 1)),
V 4 (.mv (.t 26))]) (.ret)))
def vf53 : VF := ⟨vf53c,vf53v,[(4,none)]⟩
theorem ok53 : chkF Try.prog Try.f53 vf53 = true := by kernel_rfl
theorem dr53 : drawsB vf53.body = true := by kernel_rfl
/-- loop.example/g00192/laws.heldEdgeS -/
def vf54v : List Nat := [0,1,4,5,9,18,27]
def vf54b0 : VC := .seq (.seq (.rg [V 6 (.mv (.t 5)),
V 7 (.mv (.t 0)),
V 8 (.len (.t 7)),
V 9 (.bin .lt (.t 6) (.t 8))]) (.cond (.t 9) (.skip) (.exit 0))) (.seq (.block 1 (.seq (.seq (.rg [V 12 (.mv (.t 0)),
V 13 (.mv (.t 5)),
V 14 (.idx 2 (.t 12) (.t 13)),
V 15 (.fad 0 (.t 14)),
V 16 (.ld none (.t 15)),
V 17 (.mv (.t 1)),
V 18 (.bin .ne (.t 16) (.t 17))]) (.cond (.t 18) (.seq (.rg [V 4 (.mv (.k (.c (.i (-1)))))]) (.ret)) (.skip))) (.seq (.rg [V 19 (.mv (.t 1)),
V 20 (.bin .add (.t 19) (.k (.c (.i 1)))),
V 1 (.mv (.t 20))]) (.seq (.seq (.rg [V 21 (.mv (.t 0)),
V 22 (.mv (.t 5)),
V 23 (.idx 2 (.t 21) (.t 22)),
V 24 (.fad 1 (.t 23)),
V 25 (.ld none (.t 24)),
V 26 (.mv (.t 1)),
V 27 (.bin .ne (.t 25) (.t 26))]) (.cond (.t 27) (.seq (.rg [V 4 (.mv (.k (.c (.i (-1)))))]) (.ret)) (.skip))) (.rg [V 28 (.mv (.t 1)),
V 29 (.bin .add (.t 28) (.k (.c (.i 1)))),
V 1 (.mv (.t 29))]))))) (.rg [V 10 (.mv (.t 5)),
V 11 (.bin .add (.t 10) (.k (.c (.i 1)))),
V 5 (.mv (.t 11))]))
def vf54c : VC := .seq (.rg [V 4 (.mv (.k (.c (.i 0))))]) (.seq (.seq (.rg [V 5 (.mv (.k (.c (.i 0))))]) (.block 0 (.loop vf54b0))) (.seq (.rg [V 30 (.mv (.t 1)),
V 4 (.mv (.t 30))]) (.ret)))
def vf54 : VF := ⟨vf54c,vf54v,[(4,none)]⟩
theorem ok54 : chkF Try.prog Try.f54 vf54 = true := by kernel_rfl
theorem dr54 : drawsB vf54.body = true := by kernel_rfl
/-- loop.example/g00192/laws.toMove -/
def vf55v : List Nat := [0,1,2,3]
def vf55c : VC := .seq (.rg [V 1 (.box (.t 0)),
V 2 (.alloc [.i 0,.i 0])]) (.seq (.rg [V 3 (.alloc [.i 0,.i 0])]) (.seq (.rg [V 4 (.fad 0 (.t 1)),
V 5 (.ld none (.t 4)),
V 6 (.fad 0 (.t 3)),
Vn (.st 1 (.t 6) (.t 5))]) (.seq (.rg [V 7 (.fad 1 (.t 1)),
V 8 (.ld none (.t 7)),
V 9 (.fad 1 (.t 3)),
Vn (.st 1 (.t 9) (.t 8))]) (.seq (.rg [V 10 (.ld (some 2) (.t 3)),
Vn (.st 2 (.t 2) (.t 10))]) (.ret)))))
def vf55 : VF := ⟨vf55c,vf55v,[(2,(some (some 2)))]⟩
theorem ok55 : chkF Try.prog Try.f55 vf55 = true := by kernel_rfl
theorem dr55 : drawsB vf55.body = true := by kernel_rfl
/-- slices.ContainsFuncloop.example/g00192/impl.Moveloop.example/g00192/impl.Move -/
def vf56v : List Nat := [0,1,4]
def vf56c : VC := .seq (.rg [V 4 (.mv (.k (.c (.b false))))]) (.seq (.rg [V 5 (.mv (.t 0)),
V 6 (.mv (.t 1)),
V 7 (.call 102 [(.t 5),(.t 6)]),
V 8 (.bin .ge (.t 7) (.k (.c (.i 0)))),
V 4 (.mv (.t 8))]) (.ret))
def vf56 : VF := ⟨vf56c,vf56v,[(4,none)]⟩
theorem ok56 : chkF Try.prog Try.f56 vf56 = true := by kernel_rfl
theorem dr56 : drawsB vf56.body = true := by kernel_rfl
/-- loop.example/g00192/impl.MovesOk$1 -/
def vf57v : List Nat := [0,1,2,3]
def vf57c : VC := .seq (.rg [V 2 (.box (.t 0)),
V 3 (.mv (.k (.c (.b false))))]) (.seq (.rg [V 4 (.fad 0 (.t 2)),
V 5 (.ld none (.t 4)),
V 6 (.fad 0 (.t 1)),
V 7 (.ld none (.t 6)),
V 8 (.bin .eq (.t 5) (.t 7)),
V 3 (.mv (.t 8))]) (.ret))
def vf57 : VF := ⟨vf57c,vf57v,[(3,none)]⟩
theorem ok57 : chkF Try.prog Try.f57 vf57 = true := by kernel_rfl
theorem dr57 : drawsB vf57.body = true := by kernel_rfl
/-- loop.example/g00192/laws.eqMove -/
def vf58v : List Nat := [0,1,2,3,4,9,14]
def vf58c : VC := .seq (.rg [V 2 (.box (.t 0)),
V 3 (.box (.t 1)),
V 4 (.mv (.k (.c (.b false))))]) (.seq (.seq (.rg [V 5 (.fad 0 (.t 2)),
V 6 (.ld none (.t 5)),
V 7 (.fad 0 (.t 3)),
V 8 (.ld none (.t 7)),
V 9 (.bin .ne (.t 6) (.t 8))]) (.cond (.t 9) (.seq (.rg [V 4 (.mv (.k (.c (.b false))))]) (.ret)) (.skip))) (.seq (.seq (.rg [V 10 (.fad 1 (.t 2)),
V 11 (.ld none (.t 10)),
V 12 (.fad 1 (.t 3)),
V 13 (.ld none (.t 12)),
V 14 (.bin .ne (.t 11) (.t 13))]) (.cond (.t 14) (.seq (.rg [V 4 (.mv (.k (.c (.b false))))]) (.ret)) (.skip))) (.seq (.rg [V 4 (.mv (.k (.c (.b true))))]) (.ret))))
def vf58 : VF := ⟨vf58c,vf58v,[(4,none)]⟩
theorem ok58 : chkF Try.prog Try.f58 vf58 = true := by kernel_rfl
theorem dr58 : drawsB vf58.body = true := by kernel_rfl
/-- loop.example/g00192/laws.szBlockS -/
def vf59v : List Nat := [0,1,4,5,11,15,25]
def vf59b0 : VC := .seq (.seq (.rg [V 12 (.mv (.t 5)),
V 13 (.mv (.t 0)),
V 14 (.len (.t 13)),
V 15 (.bin .lt (.t 12) (.t 14))]) (.cond (.t 15) (.skip) (.exit 0))) (.seq (.block 1 (.seq (.rg [V 18 (.mv (.t 0)),
V 19 (.mv (.t 5)),
V 20 (.idx 6 (.t 18) (.t 19)),
V 21 (.ld (some 6) (.t 20)),
V 22 (.mv (.t 1)),
V 23 (.call 103 [(.t 21),(.t 22)]),
V 1 (.mv (.t 23))]) (.seq (.rg [V 24 (.mv (.t 1)),
V 25 (.bin .lt (.t 24) (.k (.c (.i 0))))]) (.cond (.t 25) (.seq (.rg [V 4 (.mv (.k (.c (.i (-1)))))]) (.ret)) (.skip))))) (.rg [V 16 (.mv (.t 5)),
V 17 (.bin .add (.t 16) (.k (.c (.i 1)))),
V 5 (.mv (.t 17))]))
def vf59c : VC := .seq (.rg [V 4 (.mv (.k (.c (.i 0))))]) (.seq (.rg [V 6 (.mv (.t 1)),
V 7 (.mv (.t 0)),
V 8 (.len (.t 7)),
V 9 (.bin .sub (.t 6) (.t 8)),
V 1 (.mv (.t 9))]) (.seq (.seq (.rg [V 10 (.mv (.t 1)),
V 11 (.bin .lt (.t 10) (.k (.c (.i 0))))]) (.cond (.t 11) (.seq (.rg [V 4 (.mv (.k (.c (.i (-1)))))]) (.ret)) (.skip))) (.seq (.seq (.rg [V 5 (.mv (.k (.c (.i 0))))]) (.block 0 (.loop vf59b0))) (.seq (.rg [V 26 (.mv (.t 1)),
V 4 (.mv (.t 26))]) (.ret)))))
def vf59 : VF := ⟨vf59c,vf59v,[(4,none)]⟩
theorem ok59 : chkF Try.prog Try.f59 vf59 = true := by kernel_rfl
theorem dr59 : drawsB vf59.body = true := by kernel_rfl
/-- loop.example/g00192/spec.l1In -/
def vf60v : List Nat := [0,1,2,6]
def vf60c : VC := .seq (.rg [V 6 (.mv (.k (.c (.b false))))]) (.seq (.rg [V 7 (.mv (.t 0)),
V 8 (.mv (.t 1)),
V 9 (.bin .ge (.t 7) (.t 8)),
V 10 (.mv (.t 9)),
Vg 11 10 true (.mv (.t 0)),
Vg 12 10 true (.mv (.t 2)),
Vg 13 10 true (.bin .le (.t 11) (.t 12)),
V 14 (.pick (.t 10) (.t 13) (.k (.c (.b false)))),
V 6 (.mv (.t 14))]) (.ret))
def vf60 : VF := ⟨vf60c,vf60v,[(6,none)]⟩
theorem ok60 : chkF Try.prog Try.f60 vf60 = true := by kernel_rfl
theorem dr60 : drawsB vf60.body = true := by kernel_rfl
/-- loop.example/g00192/spec.l2Term -/
def vf61v : List Nat := [0,1,2,3,6,7,8,9,25,26,39,48]
def vf61c : VC := .seq (.rg [V 3 (.box (.t 0)),
V 6 (.mv (.k (.c (.b false))))]) (.seq (.rg [V 10 (.fad 2 (.t 3)),
V 11 (.ld none (.t 10)),
V 12 (.mv (.t 1)),
V 13 (.bin .sub (.t 12) (.k (.c (.i 1)))),
V 14 (.call 60 [(.t 11),(.k (.c (.i 0))),(.t 13)]),
V 7 (.mv (.t 14))]) (.seq (.rg [V 15 (.fad 3 (.t 3)),
V 16 (.ld none (.t 15)),
V 17 (.mv (.t 1)),
V 18 (.bin .sub (.t 17) (.k (.c (.i 1)))),
V 19 (.call 60 [(.t 16),(.k (.c (.i 0))),(.t 18)]),
V 8 (.mv (.t 19))]) (.seq (.rg [V 20 (.fad 1 (.t 3)),
V 21 (.ld none (.t 20)),
V 22 (.mv (.t 2)),
V 23 (.call 104 [(.t 21),(.t 22)]),
V 9 (.mv (.t 23))]) (.seq (.seq (.rg [V 24 (.fad 0 (.t 3)),
V 25 (.ld none (.t 24))]) (.block 0 (.seq (.rg [V 27 (.bin .eq (.t 25) (.k (.c (.i 1)))),
V 26 (.mv (.t 27))]) (.cond (.t 26) (.seq (.rg [V 28 (.mv (.t 7)),
V 29 (.mv (.t 28)),
Vg 30 29 true (.fad 1 (.t 3)),
Vg 31 29 true (.ld none (.t 30)),
Vg 32 29 true (.bin .eq (.t 31) (.k (.c (.i 0)))),
V 33 (.pick (.t 29) (.t 32) (.k (.c (.b false)))),
V 34 (.mv (.t 33)),
Vg 35 34 true (.fad 3 (.t 3)),
Vg 36 34 true (.ld none (.t 35)),
Vg 37 34 true (.bin .eq (.t 36) (.k (.c (.i 0)))),
V 38 (.pick (.t 34) (.t 37) (.k (.c (.b false)))),
V 6 (.mv (.t 38))]) (.ret)) (.seq (.rg [V 40 (.bin .eq (.t 25) (.k (.c (.i 2)))),
V 39 (.mv (.t 40))]) (.cond (.t 39) (.seq (.rg [V 41 (.mv (.t 7)),
V 42 (.mv (.t 41)),
Vg 43 42 true (.mv (.t 8)),
V 44 (.pick (.t 42) (.t 43) (.k (.c (.b false)))),
V 45 (.mv (.t 44)),
Vg 46 45 true (.mv (.t 9)),
V 47 (.pick (.t 45) (.t 46) (.k (.c (.b false)))),
V 6 (.mv (.t 47))]) (.ret)) (.seq (.rg [V 49 (.bin .eq (.t 25) (.k (.c (.i 3)))),
V 48 (.mv (.t 49))]) (.cond (.t 48) (.seq (.rg [V 50 (.mv (.t 9)),
V 51 (.mv (.t 50)),
Vg 52 51 true (.fad 2 (.t 3)),
Vg 53 51 true (.ld none (.t 52)),
Vg 54 51 true (.bin .eq (.t 53) (.k (.c (.i 0)))),
V 55 (.pick (.t 51) (.t 54) (.k (.c (.b false)))),
V 56 (.mv (.t 55)),
Vg 57 56 true (.fad 3 (.t 3)),
Vg 58 56 true (.ld none (.t 57)),
Vg 59 56 true (.bin .eq (.t 58) (.k (.c (.i 0)))),
V 60 (.pick (.t 56) (.t 59) (.k (.c (.b false)))),
V 6 (.mv (.t 60))]) (.ret)) (.skip))))))))) (.seq (.rg [V 6 (.mv (.k (.c (.b false))))]) (.ret))))))
def vf61 : VF := ⟨vf61c,vf61v,[(6,none)]⟩
theorem ok61 : chkF Try.prog Try.f61 vf61 = true := by kernel_rfl
theorem dr61 : drawsB vf61.body = true := by kernel_rfl
/-- loop.example/g00192/spec.l2Phi -/
def vf62v : List Nat := [0,1,2,3,6,7,8,19,24,47,50,65]
def vf62b0 : VC := .seq (.seq (.rg [V 48 (.mv (.t 8)),
V 49 (.mv (.t 7)),
V 50 (.bin .lt (.t 48) (.t 49))]) (.cond (.t 50) (.skip) (.exit 2))) (.seq (.block 3 (.seq (.rd [V 53 (.fad 1 (.t 3)),
Vd [0] (V 54 (.ld none (.t 53))),
V 55 (.mv (.t 8)),
Vd [1,2] (V 56 (.idx 2 (.t 54) (.t 55))),
Vd [3] (V 57 (.fad 0 (.t 56))),
Vd [4] (V 58 (.ld none (.t 57))),
V 59 (.fad 1 (.t 3)),
Vd [6] (V 60 (.ld none (.t 59))),
V 61 (.mv (.t 7)),
Vd [7,8] (V 62 (.idx 2 (.t 60) (.t 61))),
Vd [9] (V 63 (.fad 0 (.t 62))),
Vd [10] (V 64 (.ld none (.t 63))),
Vd [5,11] (V 65 (.bin .eq (.t 58) (.t 64)))]) (.cond (.t 65) (.seq (.rg [V 6 (.mv (.k (.c (.b false))))]) (.ret)) (.skip)))) (.rg [V 51 (.mv (.t 8)),
V 52 (.bin .add (.t 51) (.k (.c (.i 1)))),
V 8 (.mv (.t 52))]))
def vf62b1 : VC := .seq (.seq (.rg [V 20 (.mv (.t 7)),
V 21 (.fad 1 (.t 3)),
V 22 (.ld none (.t 21)),
V 23 (.len (.t 22)),
V 24 (.bin .lt (.t 20) (.t 23))]) (.cond (.t 24) (.skip) (.exit 0))) (.seq (.block 1 (.seq (.seq (.rg [V 27 (.fad 1 (.t 3)),
V 28 (.ld none (.t 27)),
V 29 (.mv (.t 7)),
V 30 (.idx 2 (.t 28) (.t 29)),
V 31 (.fad 0 (.t 30)),
V 32 (.ld none (.t 31)),
V 33 (.mv (.t 1)),
V 34 (.bin .sub (.t 33) (.k (.c (.i 1)))),
V 35 (.call 60 [(.t 32),(.k (.c (.i 0))),(.t 34)]),
V 36 (.not (.t 35)),
V 37 (.mv (.t 36)),
Vg 38 37 false (.fad 1 (.t 3)),
Vg 39 37 false (.ld none (.t 38)),
Vg 40 37 false (.mv (.t 7)),
Vg 41 37 false (.idx 2 (.t 39) (.t 40)),
Vg 42 37 false (.fad 1 (.t 41)),
Vg 43 37 false (.ld none (.t 42)),
Vg 44 37 false (.mv (.t 2)),
Vg 45 37 false (.call 104 [(.t 43),(.t 44)]),
Vg 46 37 false (.not (.t 45)),
V 47 (.pick (.t 37) (.k (.c (.b true))) (.t 46))]) (.cond (.t 47) (.seq (.rg [V 6 (.mv (.k (.c (.b false))))]) (.ret)) (.skip))) (.seq (.rg [V 8 (.mv (.k (.c (.i 0))))]) (.block 2 (.loop vf62b0))))) (.rg [V 25 (.mv (.t 7)),
V 26 (.bin .add (.t 25) (.k (.c (.i 1)))),
V 7 (.mv (.t 26))]))
def vf62c : VC := .seq (.rg [V 3 (.box (.t 0)),
V 6 (.mv (.k (.c (.b false))))]) (.seq (.seq (.rg [V 9 (.fad 0 (.t 3)),
V 10 (.ld none (.t 9)),
V 11 (.mv (.t 2)),
V 12 (.call 104 [(.t 10),(.t 11)]),
V 13 (.not (.t 12)),
V 14 (.mv (.t 13)),
Vg 15 14 false (.fad 1 (.t 3)),
Vg 16 14 false (.ld none (.t 15)),
Vg 17 14 false (.len (.t 16)),
Vg 18 14 false (.bin .gt (.t 17) (.k (.c (.i 16)))),
V 19 (.pick (.t 14) (.k (.c (.b true))) (.t 18))]) (.cond (.t 19) (.seq (.rg [V 6 (.mv (.k (.c (.b false))))]) (.ret)) (.skip))) (.seq (.seq (.rg [V 7 (.mv (.k (.c (.i 0))))]) (.block 0 (.loop vf62b1))) (.seq (.rg [V 6 (.mv (.k (.c (.b true))))]) (.ret))))
def vf62 : VF := ⟨vf62c,vf62v,[(6,none)]⟩
theorem ok62 : chkF Try.prog Try.f62 vf62 = true := by kernel_rfl
theorem dr62 : drawsB vf62.body = true := by kernel_rfl
/-- loop.example/g00192/spec.l2Ins -/
def vf63v : List Nat := [0,1,2,4,5,6,7,20,36,51,74,92,112]
def vf63c : VC := .seq (.rg [V 2 (.box (.t 0)),
V 4 (.mv (.k (.c (.b false))))]) (.seq (.rg [V 8 (.fad 1 (.t 2)),
V 9 (.ld none (.t 8)),
V 10 (.mv (.t 1)),
V 11 (.call 104 [(.t 9),(.t 10)]),
V 5 (.mv (.t 11))]) (.seq (.rg [V 12 (.fad 2 (.t 2)),
V 13 (.ld none (.t 12)),
V 14 (.mv (.t 1)),
V 15 (.call 104 [(.t 13),(.t 14)]),
V 6 (.mv (.t 15))]) (.seq (.rg [V 16 (.fad 3 (.t 2)),
V 17 (.ld none (.t 16)),
V 18 (.mv (.t 1)),
V 19 (.call 104 [(.t 17),(.t 18)]),
V 7 (.mv (.t 19))]) (.seq (.block 0 (.seq (.rg [V 21 (.fad 0 (.t 2)),
V 22 (.ld none (.t 21)),
V 23 (.call 105 [(.t 22)]),
V 20 (.mv (.t 23))]) (.cond (.t 20) (.seq (.rg [V 24 (.mv (.t 5)),
V 25 (.mv (.t 24)),
Vg 26 25 true (.mv (.t 6)),
V 27 (.pick (.t 25) (.t 26) (.k (.c (.b false)))),
V 28 (.mv (.t 27)),
Vg 29 28 true (.mv (.t 7)),
V 30 (.pick (.t 28) (.t 29) (.k (.c (.b false)))),
V 31 (.mv (.t 30)),
Vg 32 31 true (.fad 4 (.t 2)),
Vg 33 31 true (.ld none (.t 32)),
Vg 34 31 true (.bin .eq (.t 33) (.k (.c (.i 0)))),
V 35 (.pick (.t 31) (.t 34) (.k (.c (.b false)))),
V 4 (.mv (.t 35))]) (.ret)) (.seq (.rg [V 37 (.fad 0 (.t 2)),
V 38 (.ld none (.t 37)),
V 39 (.bin .eq (.t 38) (.k (.c (.i 20)))),
V 36 (.mv (.t 39))]) (.cond (.t 36) (.seq (.rg [V 40 (.mv (.t 5)),
V 41 (.mv (.t 40)),
Vg 42 41 true (.fad 2 (.t 2)),
Vg 43 41 true (.ld none (.t 42)),
Vg 44 41 true (.bin .eq (.t 43) (.k (.c (.i 0)))),
V 45 (.pick (.t 41) (.t 44) (.k (.c (.b false)))),
V 46 (.mv (.t 45)),
Vg 47 46 true (.fad 3 (.t 2)),
Vg 48 46 true (.ld none (.t 47)),
Vg 49 46 true (.bin .eq (.t 48) (.k (.c (.i 0)))),
V 50 (.pick (.t 46) (.t 49) (.k (.c (.b false)))),
V 4 (.mv (.t 50))]) (.ret)) (.seq (.rg [V 52 (.fad 0 (.t 2)),
V 53 (.ld none (.t 52)),
V 54 (.bin .eq (.t 53) (.k (.c (.i 21)))),
V 55 (.mv (.t 54)),
Vg 56 55 false (.fad 0 (.t 2)),
Vg 57 55 false (.ld none (.t 56)),
Vg 58 55 false (.bin .eq (.t 57) (.k (.c (.i 25)))),
V 59 (.pick (.t 55) (.k (.c (.b true))) (.t 58)),
V 51 (.mv (.t 59))]) (.cond (.t 51) (.seq (.rg [V 60 (.mv (.t 5)),
V 61 (.mv (.t 60)),
Vg 62 61 true (.mv (.t 6)),
V 63 (.pick (.t 61) (.t 62) (.k (.c (.b false)))),
V 64 (.mv (.t 63)),
Vg 65 64 true (.fad 3 (.t 2)),
Vg 66 64 true (.ld none (.t 65)),
Vg 67 64 true (.bin .eq (.t 66) (.k (.c (.i 0)))),
V 68 (.pick (.t 64) (.t 67) (.k (.c (.b false)))),
V 69 (.mv (.t 68)),
Vg 70 69 true (.fad 4 (.t 2)),
Vg 71 69 true (.ld none (.t 70)),
Vg 72 69 true (.bin .eq (.t 71) (.k (.c (.i 0)))),
V 73 (.pick (.t 69) (.t 72) (.k (.c (.b false)))),
V 4 (.mv (.t 73))]) (.ret)) (.seq (.rg [V 75 (.fad 0 (.t 2)),
V 76 (.ld none (.t 75)),
V 77 (.bin .eq (.t 76) (.k (.c (.i 22)))),
V 74 (.mv (.t 77))]) (.cond (.t 74) (.seq (.rg [V 78 (.mv (.t 6)),
V 79 (.mv (.t 78)),
Vg 80 79 true (.mv (.t 7)),
V 81 (.pick (.t 79) (.t 80) (.k (.c (.b false)))),
V 82 (.mv (.t 81)),
Vg 83 82 true (.fad 1 (.t 2)),
Vg 84 82 true (.ld none (.t 83)),
Vg 85 82 true (.bin .eq (.t 84) (.k (.c (.i 0)))),
V 86 (.pick (.t 82) (.t 85) (.k (.c (.b false)))),
V 87 (.mv (.t 86)),
Vg 88 87 true (.fad 4 (.t 2)),
Vg 89 87 true (.ld none (.t 88)),
Vg 90 87 true (.bin .eq (.t 89) (.k (.c (.i 0)))),
V 91 (.pick (.t 87) (.t 90) (.k (.c (.b false)))),
V 4 (.mv (.t 91))]) (.ret)) (.seq (.rg [V 93 (.fad 0 (.t 2)),
V 94 (.ld none (.t 93)),
V 95 (.bin .eq (.t 94) (.k (.c (.i 23)))),
V 92 (.mv (.t 95))]) (.cond (.t 92) (.seq (.rg [V 96 (.mv (.t 6)),
V 97 (.mv (.t 96)),
Vg 98 97 true (.fad 1 (.t 2)),
Vg 99 97 true (.ld none (.t 98)),
Vg 100 97 true (.bin .eq (.t 99) (.k (.c (.i 0)))),
V 101 (.pick (.t 97) (.t 100) (.k (.c (.b false)))),
V 102 (.mv (.t 101)),
Vg 103 102 true (.fad 3 (.t 2)),
Vg 104 102 true (.ld none (.t 103)),
Vg 105 102 true (.bin .eq (.t 104) (.k (.c (.i 0)))),
V 106 (.pick (.t 102) (.t 105) (.k (.c (.b false)))),
V 107 (.mv (.t 106)),
Vg 108 107 true (.fad 4 (.t 2)),
Vg 109 107 true (.ld none (.t 108)),
Vg 110 107 true (.bin .eq (.t 109) (.k (.c (.i 0)))),
V 111 (.pick (.t 107) (.t 110) (.k (.c (.b false)))),
V 4 (.mv (.t 111))]) (.ret)) (.seq (.rg [V 113 (.fad 0 (.t 2)),
V 114 (.ld none (.t 113)),
V 115 (.bin .eq (.t 114) (.k (.c (.i 24)))),
V 112 (.mv (.t 115))]) (.cond (.t 112) (.seq (.rg [V 116 (.mv (.t 5)),
V 117 (.mv (.t 116)),
Vg 118 117 true (.fad 2 (.t 2)),
Vg 119 117 true (.ld none (.t 118)),
Vg 120 117 true (.bin .eq (.t 119) (.k (.c (.i 0)))),
V 121 (.pick (.t 117) (.t 120) (.k (.c (.b false)))),
V 122 (.mv (.t 121)),
Vg 123 122 true (.fad 3 (.t 2)),
Vg 124 122 true (.ld none (.t 123)),
Vg 125 122 true (.bin .eq (.t 124) (.k (.c (.i 0)))),
V 126 (.pick (.t 122) (.t 125) (.k (.c (.b false)))),
V 127 (.mv (.t 126)),
Vg 128 127 true (.fad 4 (.t 2)),
Vg 129 127 true (.ld none (.t 128)),
Vg 130 127 true (.bin .eq (.t 129) (.k (.c (.i 0)))),
V 131 (.pick (.t 127) (.t 130) (.k (.c (.b false)))),
V 4 (.mv (.t 131))]) (.ret)) (.skip)))))))))))))) (.seq (.rg [V 4 (.mv (.k (.c (.b false))))]) (.ret))))))
def vf63 : VF := ⟨vf63c,vf63v,[(4,none)]⟩
theorem ok63 : chkF Try.prog Try.f63 vf63 = true := by kernel_rfl
theorem dr63 : drawsB vf63.body = true := by kernel_rfl
/-- loop.example/g00192/laws.toBlockS -/
def vf64v : List Nat := [0,2,3,4,11]
def vf64b0 : VC := .seq (.seq (.rg [V 8 (.mv (.t 4)),
V 9 (.mv (.t 0)),
V 10 (.len (.t 9)),
V 11 (.bin .lt (.t 8) (.t 10))]) (.cond (.t 11) (.skip) (.exit 0))) (.seq (.block 1 (.rg [V 14 (.mv (.t 3)),
V 15 (.mv (.t 4)),
V 16 (.mv (.t 0)),
V 17 (.mv (.t 4)),
V 18 (.idx 6 (.t 16) (.t 17)),
V 19 (.ld (some 6) (.t 18)),
V 20 (.call 106 [(.t 19)]),
V 21 (.idx 6 (.t 14) (.t 15)),
Vn (.st 6 (.t 21) (.t 20))])) (.rg [V 12 (.mv (.t 4)),
V 13 (.bin .add (.t 12) (.k (.c (.i 1)))),
V 4 (.mv (.t 13))]))
def vf64c : VC := .seq (.rg [V 2 (.mv (.k (.c .ns)))]) (.seq (.rg [V 5 (.mv (.t 0)),
V 6 (.len (.t 5)),
V 7 (.mks 6 [.ns,.ns,.i 0,.i 0,.i 0,.i 0] (.t 6)),
V 3 (.mv (.t 7))]) (.seq (.seq (.rg [V 4 (.mv (.k (.c (.i 0))))]) (.block 0 (.loop vf64b0))) (.seq (.rg [V 22 (.mv (.t 3)),
V 2 (.mv (.t 22))]) (.ret))))
def vf64 : VF := ⟨vf64c,vf64v,[(2,none)]⟩
theorem ok64 : chkF Try.prog Try.f64 vf64 = true := by kernel_rfl
theorem dr64 : drawsB vf64.body = true := by kernel_rfl
/-- loop.example/g00192/impl.in -/
def vf65v : List Nat := [0,1,2,6]
def vf65c : VC := .seq (.rg [V 6 (.mv (.k (.c (.b false))))]) (.seq (.rg [V 7 (.mv (.t 0)),
V 8 (.mv (.t 1)),
V 9 (.bin .ge (.t 7) (.t 8)),
V 10 (.mv (.t 9)),
Vg 11 10 true (.mv (.t 0)),
Vg 12 10 true (.mv (.t 2)),
Vg 13 10 true (.bin .le (.t 11) (.t 12)),
V 14 (.pick (.t 10) (.t 13) (.k (.c (.b false)))),
V 6 (.mv (.t 14))]) (.ret))
def vf65 : VF := ⟨vf65c,vf65v,[(6,none)]⟩
theorem ok65 : chkF Try.prog Try.f65 vf65 = true := by kernel_rfl
theorem dr65 : drawsB vf65.body = true := by kernel_rfl
/-- slices.ContainsFuncloop.example/g00192/impl.Blockloop.example/g00192/impl.Block -/
def vf66v : List Nat := [0,1,4]
def vf66c : VC := .seq (.rg [V 4 (.mv (.k (.c (.b false))))]) (.seq (.rg [V 5 (.mv (.t 0)),
V 6 (.mv (.t 1)),
V 7 (.call 107 [(.t 5),(.t 6)]),
V 8 (.bin .ge (.t 7) (.k (.c (.i 0)))),
V 4 (.mv (.t 8))]) (.ret))
def vf66 : VF := ⟨vf66c,vf66v,[(4,none)]⟩
theorem ok66 : chkF Try.prog Try.f66 vf66 = true := by kernel_rfl
theorem dr66 : drawsB vf66.body = true := by kernel_rfl
/-- loop.example/g00192/impl.ShapeOk$1 -/
def vf67v : List Nat := [0,1,2,3,4,23]
def vf67c : VC := .seq (.rg [V 3 (.box (.t 0)),
V 4 (.mv (.k (.c (.b false))))]) (.seq (.seq (.rg [V 5 (.fad 0 (.t 3)),
V 6 (.ld none (.t 5)),
V 7 (.len (.t 6)),
V 8 (.bin .gt (.t 7) (.k (.c (.i 24)))),
V 9 (.mv (.t 8)),
Vg 10 9 false (.fad 1 (.t 3)),
Vg 11 9 false (.ld none (.t 10)),
Vg 12 9 false (.len (.t 11)),
Vg 13 9 false (.bin .gt (.t 12) (.k (.c (.i 24)))),
V 14 (.pick (.t 9) (.k (.c (.b true))) (.t 13)),
V 15 (.mv (.t 14)),
Vg 16 15 false (.fad 2 (.t 3)),
Vg 17 15 false (.ld (some 4) (.t 16)),
Vg 18 15 false (.ld none (.t 1)),
Vg 19 15 false (.fad 1 (.t 2)),
Vg 20 15 false (.ld none (.t 19)),
Vg 21 15 false (.call 68 [(.t 17),(.t 18),(.t 20)]),
Vg 22 15 false (.not (.t 21)),
V 23 (.pick (.t 15) (.k (.c (.b true))) (.t 22))]) (.cond (.t 23) (.seq (.rg [V 4 (.mv (.k (.c (.b true))))]) (.ret)) (.skip))) (.seq (.rg [V 24 (.fad 0 (.t 3)),
V 25 (.ld none (.t 24)),
V 26 (.mkf 70 [(.t 1),(.t 2)]),
V 27 (.call 69 [(.t 25),(.t 26)]),
V 28 (.mv (.t 27)),
Vg 29 28 false (.fad 1 (.t 3)),
Vg 30 28 false (.ld none (.t 29)),
Vg 31 28 false (.mkf 73 [(.t 2)]),
Vg 32 28 false (.call 72 [(.t 30),(.t 31)]),
V 33 (.pick (.t 28) (.k (.c (.b true))) (.t 32)),
V 4 (.mv (.t 33))]) (.ret)))
def vf67 : VF := ⟨vf67c,vf67v,[(4,none)]⟩
theorem ok67 : chkF Try.prog Try.f67 vf67 = true := by kernel_rfl
theorem dr67 : drawsB vf67.body = true := by kernel_rfl
/-- loop.example/g00192/impl.termOk -/
def vf68v : List Nat := [0,1,2,3,6,8,9,26,46]
def vf68c : VC := .seq (.rg [V 3 (.box (.t 0)),
V 6 (.mv (.k (.c (.b false))))]) (.seq (.seq (.rg [V 7 (.fad 0 (.t 3)),
V 8 (.ld none (.t 7))]) (.block 0 (.seq (.rg [V 10 (.bin .eq (.t 8) (.k (.c (.i 1)))),
V 9 (.mv (.t 10))]) (.cond (.t 9) (.seq (.rg [V 11 (.fad 2 (.t 3)),
V 12 (.ld none (.t 11)),
V 13 (.mv (.t 1)),
V 14 (.bin .sub (.t 13) (.k (.c (.i 1)))),
V 15 (.call 65 [(.t 12),(.k (.c (.i 0))),(.t 14)]),
V 16 (.mv (.t 15)),
Vg 17 16 true (.fad 1 (.t 3)),
Vg 18 16 true (.ld none (.t 17)),
Vg 19 16 true (.bin .eq (.t 18) (.k (.c (.i 0)))),
V 20 (.pick (.t 16) (.t 19) (.k (.c (.b false)))),
V 21 (.mv (.t 20)),
Vg 22 21 true (.fad 3 (.t 3)),
Vg 23 21 true (.ld none (.t 22)),
Vg 24 21 true (.bin .eq (.t 23) (.k (.c (.i 0)))),
V 25 (.pick (.t 21) (.t 24) (.k (.c (.b false)))),
V 6 (.mv (.t 25))]) (.ret)) (.seq (.rg [V 27 (.bin .eq (.t 8) (.k (.c (.i 2)))),
V 26 (.mv (.t 27))]) (.cond (.t 26) (.seq (.rg [V 28 (.fad 2 (.t 3)),
V 29 (.ld none (.t 28)),
V 30 (.mv (.t 1)),
V 31 (.bin .sub (.t 30) (.k (.c (.i 1)))),
V 32 (.call 65 [(.t 29),(.k (.c (.i 0))),(.t 31)]),
V 33 (.mv (.t 32)),
Vg 34 33 true (.fad 3 (.t 3)),
Vg 35 33 true (.ld none (.t 34)),
Vg 36 33 true (.mv (.t 1)),
Vg 37 33 true (.bin .sub (.t 36) (.k (.c (.i 1)))),
Vg 38 33 true (.call 65 [(.t 35),(.k (.c (.i 0))),(.t 37)]),
V 39 (.pick (.t 33) (.t 38) (.k (.c (.b false)))),
V 40 (.mv (.t 39)),
Vg 41 40 true (.fad 1 (.t 3)),
Vg 42 40 true (.ld none (.t 41)),
Vg 43 40 true (.mv (.t 2)),
Vg 44 40 true (.call 108 [(.t 42),(.k (.c (.b true))),(.t 43)]),
V 45 (.pick (.t 40) (.t 44) (.k (.c (.b false)))),
V 6 (.mv (.t 45))]) (.ret)) (.seq (.rg [V 47 (.bin .eq (.t 8) (.k (.c (.i 3)))),
V 46 (.mv (.t 47))]) (.cond (.t 46) (.seq (.rg [V 48 (.fad 1 (.t 3)),
V 49 (.ld none (.t 48)),
V 50 (.mv (.t 2)),
V 51 (.call 108 [(.t 49),(.k (.c (.b true))),(.t 50)]),
V 52 (.mv (.t 51)),
Vg 53 52 true (.fad 2 (.t 3)),
Vg 54 52 true (.ld none (.t 53)),
Vg 55 52 true (.bin .eq (.t 54) (.k (.c (.i 0)))),
V 56 (.pick (.t 52) (.t 55) (.k (.c (.b false)))),
V 57 (.mv (.t 56)),
Vg 58 57 true (.fad 3 (.t 3)),
Vg 59 57 true (.ld none (.t 58)),
Vg 60 57 true (.bin .eq (.t 59) (.k (.c (.i 0)))),
V 61 (.pick (.t 57) (.t 60) (.k (.c (.b false)))),
V 6 (.mv (.t 61))]) (.ret)) (.skip))))))))) (.seq (.rg [V 6 (.mv (.k (.c (.b false))))]) (.ret)))
def vf68 : VF := ⟨vf68c,vf68v,[(6,none)]⟩
theorem ok68 : chkF Try.prog Try.f68 vf68 = true := by kernel_rfl
theorem dr68 : drawsB vf68.body = true := by kernel_rfl
/-- slices.ContainsFuncloop.example/g00192/impl.Philoop.example/g00192/impl.Phi -/
def vf69v : List Nat := [0,1,4]
def vf69c : VC := .seq (.rg [V 4 (.mv (.k (.c (.b false))))]) (.seq (.rg [V 5 (.mv (.t 0)),
V 6 (.mv (.t 1)),
V 7 (.call 109 [(.t 5),(.t 6)]),
V 8 (.bin .ge (.t 7) (.k (.c (.i 0)))),
V 4 (.mv (.t 8))]) (.ret))
def vf69 : VF := ⟨vf69c,vf69v,[(4,none)]⟩
theorem ok69 : chkF Try.prog Try.f69 vf69 = true := by kernel_rfl
theorem dr69 : drawsB vf69.body = true := by kernel_rfl
/-- loop.example/g00192/impl.ShapeOk$1$1 -/
def vf70v : List Nat := [0,1,2,3,4]
def vf70c : VC := .seq (.rg [V 3 (.box (.t 0)),
V 4 (.mv (.k (.c (.b false))))]) (.seq (.rg [V 5 (.ld (some 2) (.t 3)),
V 6 (.ld none (.t 1)),
V 7 (.fad 1 (.t 2)),
V 8 (.ld none (.t 7)),
V 9 (.call 71 [(.t 5),(.t 6),(.t 8)]),
V 10 (.not (.t 9)),
V 4 (.mv (.t 10))]) (.ret))
def vf70 : VF := ⟨vf70c,vf70v,[(4,none)]⟩
theorem ok70 : chkF Try.prog Try.f70 vf70 = true := by kernel_rfl
theorem dr70 : drawsB vf70.body = true := by kernel_rfl
/-- loop.example/g00192/impl.phiOk -/
def vf71v : List Nat := [0,1,2,3,6,7,8,10,11,12,13,37]
def vf71b0 : VC := .seq (.rg [V 13 (.bin .lt (.t 12) (.t 11))]) (.seq (.cond (.t 13) (.skip) (.exit 0)) (.seq (.block 1 (.seq (.rg [V 14 (.mv (.t 12)),
V 15 (.idx 2 (.t 10) (.t 12)),
V 16 (.ld (some 2) (.t 15)),
V 8 (.alloc [.i 0,.i 0]),
V 7 (.mv (.t 14)),
Vn (.st 2 (.t 8) (.t 16))]) (.seq (.rg [V 17 (.fad 0 (.t 8)),
V 18 (.ld none (.t 17)),
V 19 (.mv (.t 1)),
V 20 (.bin .sub (.t 19) (.k (.c (.i 1)))),
V 21 (.call 65 [(.t 18),(.k (.c (.i 0))),(.t 20)]),
V 22 (.not (.t 21)),
V 23 (.mv (.t 22)),
Vg 24 23 false (.fad 1 (.t 8)),
Vg 25 23 false (.ld none (.t 24)),
Vg 26 23 false (.mv (.t 2)),
Vg 27 23 false (.call 108 [(.t 25),(.k (.c (.b true))),(.t 26)]),
Vg 28 23 false (.not (.t 27)),
V 29 (.pick (.t 23) (.k (.c (.b true))) (.t 28)),
V 30 (.mv (.t 29)),
Vg 31 30 false (.fad 1 (.t 3)),
Vg 32 30 false (.ld none (.t 31)),
Vg 33 30 false (.mv (.t 7)),
Vg 34 30 false (.slc 2 (.t 32) none (some (.t 33))),
Vg 35 30 false (.mkf 111 [(.t 8)]),
Vg 36 30 false (.call 110 [(.t 34),(.t 35)]),
V 37 (.pick (.t 30) (.k (.c (.b true))) (.t 36))]) (.cond (.t 37) (.seq (.rg [V 6 (.mv (.k (.c (.b false))))]) (.ret)) (.skip))))) (.rg [V 38 (.bin .add (.t 12) (.k (.c (.i 1)))),
V 12 (.mv (.t 38))])))
def vf71c : VC := .seq (.rg [V 3 (.box (.t 0)),
V 6 (.mv (.k (.c (.b false))))]) (.seq (.seq (.rg [V 9 (.fad 1 (.t 3)),
V 10 (.ld none (.t 9)),
V 11 (.len (.t 10)),
V 12 (.mv (.k (.c (.i 0))))]) (.block 0 (.loop vf71b0))) (.seq (.rg [V 39 (.fad 0 (.t 3)),
V 40 (.ld none (.t 39)),
V 41 (.mv (.t 2)),
V 42 (.call 108 [(.t 40),(.k (.c (.b true))),(.t 41)]),
V 43 (.mv (.t 42)),
Vg 44 43 true (.fad 1 (.t 3)),
Vg 45 43 true (.ld none (.t 44)),
Vg 46 43 true (.len (.t 45)),
Vg 47 43 true (.bin .le (.t 46) (.k (.c (.i 16)))),
V 48 (.pick (.t 43) (.t 47) (.k (.c (.b false)))),
V 6 (.mv (.t 48))]) (.ret)))
def vf71 : VF := ⟨vf71c,vf71v,[(6,none)]⟩
theorem ok71 : chkF Try.prog Try.f71 vf71 = true := by kernel_rfl
theorem dr71 : drawsB vf71.body = true := by kernel_rfl
/-- slices.ContainsFuncloop.example/g00192/impl.Insloop.example/g00192/impl.Ins -/
def vf72v : List Nat := [0,1,4]
def vf72c : VC := .seq (.rg [V 4 (.mv (.k (.c (.b false))))]) (.seq (.rg [V 5 (.mv (.t 0)),
V 6 (.mv (.t 1)),
V 7 (.call 79 [(.t 5),(.t 6)]),
V 8 (.bin .ge (.t 7) (.k (.c (.i 0)))),
V 4 (.mv (.t 8))]) (.ret))
def vf72 : VF := ⟨vf72c,vf72v,[(4,none)]⟩
theorem ok72 : chkF Try.prog Try.f72 vf72 = true := by kernel_rfl
theorem dr72 : drawsB vf72.body = true := by kernel_rfl
/-- loop.example/g00192/impl.ShapeOk$1$2 -/
def vf73v : List Nat := [0,1,2,3]
def vf73c : VC := .seq (.rg [V 2 (.box (.t 0)),
V 3 (.mv (.k (.c (.b false))))]) (.seq (.rg [V 4 (.ld (some 5) (.t 2)),
V 5 (.fad 1 (.t 1)),
V 6 (.ld none (.t 5)),
V 7 (.call 74 [(.t 4),(.t 6)]),
V 8 (.not (.t 7)),
V 3 (.mv (.t 8))]) (.ret))
def vf73 : VF := ⟨vf73c,vf73v,[(3,none)]⟩
theorem ok73 : chkF Try.prog Try.f73 vf73 = true := by kernel_rfl
theorem dr73 : drawsB vf73.body = true := by kernel_rfl
/-- loop.example/g00192/impl.insOk -/
def vf74v : List Nat := [0,1,2,4,6]
def vf74c : VC := .seq (.rg [V 2 (.box (.t 0)),
V 4 (.mv (.k (.c (.b false))))]) (.seq (.rg [V 8 (.fad 0 (.t 2)),
V 9 (.ld none (.t 8)),
V 10 (.call 112 [(.t 9)]),
V 7 (.mv (.t 10)),
V 11 (.ext 0 (.t 7)),
V 12 (.ext 1 (.t 7)),
V 5 (.mv (.t 11)),
V 6 (.mv (.t 12))]) (.seq (.rd [V 13 (.mv (.t 6)),
Vd [0] (V 14 (.mv (.t 13))),
Vd [1] (Vg 15 14 true (.fad 1 (.t 2))),
Vc [2] [] true (Vg 16 14 true (.ld none (.t 15))),
Vd [1] (Vg 17 14 true (.fad 0 (.t 2))),
Vd [4] (Vg 18 14 true (.ld none (.t 17))),
Vc [5] [3] false (Vg 19 14 true (.call 81 [(.t 18),(.k (.c (.y 68)))])),
Vd [1] (Vg 20 14 true (.mv (.t 1))),
Vd [3,6,7] (Vg 21 14 true (.call 108 [(.t 16),(.t 19),(.t 20)])),
Vd [8] (V 22 (.pick (.t 14) (.t 21) (.k (.c (.b false))))),
Vd [9] (V 23 (.mv (.t 22))),
Vd [10] (Vg 24 23 true (.fad 2 (.t 2))),
Vc [11] [] true (Vg 25 23 true (.ld none (.t 24))),
Vd [10] (Vg 26 23 true (.fad 0 (.t 2))),
Vd [13] (Vg 27 23 true (.ld none (.t 26))),
Vc [14] [12] false (Vg 28 23 true (.call 81 [(.t 27),(.k (.c (.y 65)))])),
Vd [10] (Vg 29 23 true (.mv (.t 1))),
Vd [12,15,16] (Vg 30 23 true (.call 108 [(.t 25),(.t 28),(.t 29)])),
Vd [17] (V 31 (.pick (.t 23) (.t 30) (.k (.c (.b false))))),
Vd [18] (V 32 (.mv (.t 31))),
Vd [19] (Vg 33 32 true (.fad 3 (.t 2))),
Vc [20] [] true (Vg 34 32 true (.ld none (.t 33))),
Vd [19] (Vg 35 32 true (.fad 0 (.t 2))),
Vd [22] (Vg 36 32 true (.ld none (.t 35))),
Vc [23] [21] false (Vg 37 32 true (.call 81 [(.t 36),(.k (.c (.y 66)))])),
Vd [19] (Vg 38 32 true (.mv (.t 1))),
Vd [21,24,25] (Vg 39 32 true (.call 108 [(.t 34),(.t 37),(.t 38)])),
Vd [26] (V 40 (.pick (.t 32) (.t 39) (.k (.c (.b false))))),
Vd [27] (V 41 (.mv (.t 40))),
Vd [28] (Vg 42 41 true (.fad 4 (.t 2))),
Vd [29] (Vg 43 41 true (.ld none (.t 42))),
Vd [30] (Vg 44 41 true (.bin .eq (.t 43) (.k (.c (.i 0))))),
Vd [31] (Vg 45 41 true (.mv (.t 44))),
Vd [32] (Vg 46 45 false (.fad 0 (.t 2))),
Vd [33] (Vg 47 45 false (.ld none (.t 46))),
Vd [34] (Vg 48 45 false (.call 81 [(.t 47),(.k (.c (.y 78)))])),
Vd [35] (Vg 49 41 true (.pick (.t 45) (.k (.c (.b true))) (.t 48))),
Vd [36] (V 50 (.pick (.t 41) (.t 49) (.k (.c (.b false))))),
Vd [37] (V 4 (.mv (.t 50)))]) (.ret)))
def vf74 : VF := ⟨vf74c,vf74v,[(4,none)]⟩
theorem ok74 : chkF Try.prog Try.f74 vf74 = true := by kernel_rfl
theorem dr74 : drawsB vf74.body = true := by kernel_rfl
/-- loop.example/g00192/laws.eqBlockS -/
def vf75v : List Nat := [0,1,4,5,10,14,26]
def vf75b0 : VC := .seq (.seq (.rg [V 11 (.mv (.t 5)),
V 12 (.mv (.t 0)),
V 13 (.len (.t 12)),
V 14 (.bin .lt (.t 11) (.t 13))]) (.cond (.t 14) (.skip) (.exit 0))) (.seq (.block 1 (.seq (.rd [V 17 (.mv (.t 0)),
V 18 (.mv (.t 5)),
Vd [0,1] (V 19 (.idx 6 (.t 17) (.t 18))),
Vd [2] (V 20 (.ld (some 6) (.t 19))),
V 21 (.mv (.t 1)),
V 22 (.mv (.t 5)),
Vd [4,5] (V 23 (.idx 6 (.t 21) (.t 22))),
Vd [6] (V 24 (.ld (some 6) (.t 23))),
Vd [3,7] (V 25 (.call 113 [(.t 20),(.t 24)])),
Vd [8] (V 26 (.not (.t 25)))]) (.cond (.t 26) (.seq (.rg [V 4 (.mv (.k (.c (.b false))))]) (.ret)) (.skip)))) (.rg [V 15 (.mv (.t 5)),
V 16 (.bin .add (.t 15) (.k (.c (.i 1)))),
V 5 (.mv (.t 16))]))
def vf75c : VC := .seq (.rg [V 4 (.mv (.k (.c (.b false))))]) (.seq (.seq (.rg [V 6 (.mv (.t 0)),
V 7 (.len (.t 6)),
V 8 (.mv (.t 1)),
V 9 (.len (.t 8)),
V 10 (.bin .ne (.t 7) (.t 9))]) (.cond (.t 10) (.seq (.rg [V 4 (.mv (.k (.c (.b false))))]) (.ret)) (.skip))) (.seq (.seq (.rg [V 5 (.mv (.k (.c (.i 0))))]) (.block 0 (.loop vf75b0))) (.seq (.rg [V 4 (.mv (.k (.c (.b true))))]) (.ret))))
def vf75 : VF := ⟨vf75c,vf75v,[(4,none)]⟩
theorem ok75 : chkF Try.prog Try.f75 vf75 = true := by kernel_rfl
theorem dr75 : drawsB vf75.body = true := by kernel_rfl
/-- loop.example/g00192/impl.PlainOk$1 -/
def vf76v : List Nat := [0,1,2]
def vf76c : VC := .seq (.rg [V 1 (.box (.t 0)),
V 2 (.mv (.k (.c (.b false))))]) (.seq (.rg [V 3 (.fad 0 (.t 1)),
V 4 (.ld none (.t 3)),
V 5 (.len (.t 4)),
V 6 (.bin .gt (.t 5) (.k (.c (.i 0)))),
V 2 (.mv (.t 6))]) (.ret))
def vf76 : VF := ⟨vf76c,vf76v,[(2,none)]⟩
theorem ok76 : chkF Try.prog Try.f76 vf76 = true := by kernel_rfl
theorem dr76 : drawsB vf76.body = true := by kernel_rfl
/-- loop.example/g00192/spec.l5DefAt -/
def vf77v : List Nat := [0,1,2,4,5,6,7,8,13,24,38,48,66]
def vf77b0 : VC := .seq (.seq (.rg [V 16 (.mv (.t 7)),
V 17 (.fad 0 (.t 2)),
V 18 (.ld none (.t 17)),
V 19 (.mv (.t 6)),
V 20 (.idx 6 (.t 18) (.t 19)),
V 21 (.fad 0 (.t 20)),
V 22 (.ld none (.t 21)),
V 23 (.len (.t 22)),
V 24 (.bin .lt (.t 16) (.t 23))]) (.cond (.t 24) (.skip) (.exit 2))) (.seq (.block 3 (.seq (.rg [V 27 (.fad 0 (.t 2)),
V 28 (.ld none (.t 27)),
V 29 (.mv (.t 6)),
V 30 (.idx 6 (.t 28) (.t 29)),
V 31 (.fad 0 (.t 30)),
V 32 (.ld none (.t 31)),
V 33 (.mv (.t 7)),
V 34 (.idx 2 (.t 32) (.t 33)),
V 35 (.fad 0 (.t 34)),
V 36 (.ld none (.t 35)),
V 37 (.mv (.t 1)),
V 38 (.bin .eq (.t 36) (.t 37))]) (.cond (.t 38) (.seq (.rg [V 39 (.mv (.t 6)),
V 4 (.mv (.t 39)),
V 5 (.mv (.k (.c (.i (-1)))))]) (.ret)) (.skip)))) (.rg [V 25 (.mv (.t 7)),
V 26 (.bin .add (.t 25) (.k (.c (.i 1)))),
V 7 (.mv (.t 26))]))
def vf77b1 : VC := .seq (.seq (.rg [V 40 (.mv (.t 8)),
V 41 (.fad 0 (.t 2)),
V 42 (.ld none (.t 41)),
V 43 (.mv (.t 6)),
V 44 (.idx 6 (.t 42) (.t 43)),
V 45 (.fad 1 (.t 44)),
V 46 (.ld none (.t 45)),
V 47 (.len (.t 46)),
V 48 (.bin .lt (.t 40) (.t 47))]) (.cond (.t 48) (.skip) (.exit 4))) (.seq (.block 5 (.seq (.rg [V 51 (.mv (.t 1)),
V 52 (.bin .ge (.t 51) (.k (.c (.i 0)))),
V 53 (.mv (.t 52)),
Vg 54 53 true (.fad 0 (.t 2)),
Vg 55 53 true (.ld none (.t 54)),
Vg 56 53 true (.mv (.t 6)),
Vg 57 53 true (.idx 6 (.t 55) (.t 56)),
Vg 58 53 true (.fad 1 (.t 57)),
Vg 59 53 true (.ld none (.t 58)),
Vg 60 53 true (.mv (.t 8)),
Vg 61 53 true (.idx 5 (.t 59) (.t 60)),
Vg 62 53 true (.ld (some 5) (.t 61)),
Vg 63 53 true (.call 114 [(.t 62)]),
Vg 64 53 true (.mv (.t 1)),
Vg 65 53 true (.bin .eq (.t 63) (.t 64)),
V 66 (.pick (.t 53) (.t 65) (.k (.c (.b false))))]) (.cond (.t 66) (.seq (.rg [V 67 (.mv (.t 6)),
V 68 (.mv (.t 8)),
V 4 (.mv (.t 67)),
V 5 (.mv (.t 68))]) (.ret)) (.skip)))) (.rg [V 49 (.mv (.t 8)),
V 50 (.bin .add (.t 49) (.k (.c (.i 1)))),
V 8 (.mv (.t 50))]))
def vf77b2 : VC := .seq (.seq (.rg [V 9 (.mv (.t 6)),
V 10 (.fad 0 (.t 2)),
V 11 (.ld none (.t 10)),
V 12 (.len (.t 11)),
V 13 (.bin .lt (.t 9) (.t 12))]) (.cond (.t 13) (.skip) (.exit 0))) (.seq (.block 1 (.seq (.seq (.rg [V 7 (.mv (.k (.c (.i 0))))]) (.block 2 (.loop vf77b0))) (.seq (.rg [V 8 (.mv (.k (.c (.i 0))))]) (.block 4 (.loop vf77b1))))) (.rg [V 14 (.mv (.t 6)),
V 15 (.bin .add (.t 14) (.k (.c (.i 1)))),
V 6 (.mv (.t 15))]))
def vf77c : VC := .seq (.rg [V 2 (.box (.t 0)),
V 4 (.mv (.k (.c (.i 0)))),
V 5 (.mv (.k (.c (.i 0))))]) (.seq (.seq (.rg [V 6 (.mv (.k (.c (.i 0))))]) (.block 0 (.loop vf77b2))) (.seq (.rg [V 4 (.mv (.k (.c (.i (-1))))),
V 5 (.mv (.k (.c (.i (-2)))))]) (.ret)))
def vf77 : VF := ⟨vf77c,vf77v,[(4,none),(5,none)]⟩
theorem ok77 : chkF Try.prog Try.f77 vf77 = true := by kernel_rfl
theorem dr77 : drawsB vf77.body = true := by kernel_rfl
/-- loop.example/g00192/impl.DefAt$1 -/
def vf78v : List Nat := [0,1,2,3]
def vf78c : VC := .seq (.rg [V 2 (.box (.t 0)),
V 3 (.mv (.k (.c (.b false))))]) (.seq (.rg [V 4 (.fad 0 (.t 2)),
V 5 (.ld none (.t 4)),
V 6 (.ld none (.t 1)),
V 7 (.bin .eq (.t 5) (.t 6)),
V 3 (.mv (.t 7))]) (.ret))
def vf78 : VF := ⟨vf78c,vf78v,[(3,none)]⟩
theorem ok78 : chkF Try.prog Try.f78 vf78 = true := by kernel_rfl
theorem dr78 : drawsB vf78.body = true := by kernel_rfl
/-- slices.IndexFuncloop.example/g00192/impl.Insloop.example/g00192/impl.Ins -/
def vf79v : List Nat := [0,1,4,5,7,8,9,16]
def vf79b0 : VC := .seq (.rg [V 9 (.bin .lt (.t 8) (.t 7))]) (.seq (.cond (.t 9) (.skip) (.exit 0)) (.seq (.block 1 (.seq (.rg [V 10 (.mv (.t 8)),
V 5 (.mv (.t 10))]) (.seq (.rg [V 11 (.mv (.t 1)),
V 12 (.mv (.t 0)),
V 13 (.mv (.t 5)),
V 14 (.idx 5 (.t 12) (.t 13)),
V 15 (.ld (some 5) (.t 14)),
V 16 (.clv (.t 11) [(.t 15)])]) (.cond (.t 16) (.seq (.rg [V 17 (.mv (.t 5)),
V 4 (.mv (.t 17))]) (.ret)) (.skip))))) (.rg [V 18 (.bin .add (.t 8) (.k (.c (.i 1)))),
V 8 (.mv (.t 18))])))
def vf79c : VC := .seq (.rg [V 4 (.mv (.k (.c (.i 0))))]) (.seq (.seq (.rg [V 6 (.mv (.t 0)),
V 7 (.len (.t 6)),
V 8 (.mv (.k (.c (.i 0))))]) (.block 0 (.loop vf79b0))) (.seq (.rg [V 4 (.mv (.k (.c (.i (-1)))))]) (.ret)))
def vf79 : VF := ⟨vf79c,vf79v,[(4,none)]⟩
theorem ok79 : chkF Try.prog Try.f79 vf79 = true := by kernel_rfl
theorem dr79 : drawsB vf79.body = true := by kernel_rfl
/-- loop.example/g00192/impl.DefAt$2 -/
def vf80v : List Nat := [0,1,2,3]
def vf80c : VC := .seq (.rg [V 2 (.box (.t 0)),
V 3 (.mv (.k (.c (.b false))))]) (.seq (.rg [V 4 (.fad 0 (.t 2)),
V 5 (.ld none (.t 4)),
V 6 (.call 81 [(.t 5),(.k (.c (.y 68)))]),
V 7 (.mv (.t 6)),
Vg 8 7 true (.fad 1 (.t 2)),
Vg 9 7 true (.ld none (.t 8)),
Vg 10 7 true (.ld none (.t 1)),
Vg 11 7 true (.bin .eq (.t 9) (.t 10)),
V 12 (.pick (.t 7) (.t 11) (.k (.c (.b false)))),
V 3 (.mv (.t 12))]) (.ret))
def vf80 : VF := ⟨vf80c,vf80v,[(3,none)]⟩
theorem ok80 : chkF Try.prog Try.f80 vf80 = true := by kernel_rfl
theorem dr80 : drawsB vf80.body = true := by kernel_rfl
/-- loop.example/g00192/impl.has -/
def vf81v : List Nat := [0,1,4,5,6]
def vf81c : VC := .seq (.rg [V 4 (.mv (.k (.c (.b false))))]) (.seq (.rg [V 8 (.mv (.t 0)),
V 9 (.call 112 [(.t 8)]),
V 7 (.mv (.t 9)),
V 10 (.ext 0 (.t 7)),
V 11 (.ext 1 (.t 7)),
V 5 (.mv (.t 10)),
V 6 (.mv (.t 11))]) (.seq (.rg [V 12 (.mv (.t 6)),
V 13 (.mv (.t 12)),
Vg 14 13 true (.mv (.t 5)),
Vg 15 13 true (.s2b (.t 14)),
Vg 16 13 true (.mv (.t 1)),
Vg 17 13 true (.call 115 [(.t 15),(.t 16)]),
V 18 (.pick (.t 13) (.t 17) (.k (.c (.b false)))),
V 4 (.mv (.t 18))]) (.ret)))
def vf81 : VF := ⟨vf81c,vf81v,[(4,none)]⟩
theorem ok81 : chkF Try.prog Try.f81 vf81 = true := by kernel_rfl
theorem dr81 : drawsB vf81.body = true := by kernel_rfl
/-- loop.example/g00192/spec.l3Right -/
def vf82v : List Nat := [0,1,2,4]
def vf82c : VC := .seq (.rg [V 2 (.box (.t 0)),
V 4 (.mv (.k (.c (.b false))))]) (.seq (.rg [V 5 (.ld (some 2) (.t 2)),
V 6 (.call 21 [(.t 5)]),
V 7 (.mv (.t 6)),
Vg 8 7 true (.mv (.t 1)),
Vg 9 7 true (.fad 0 (.t 2)),
Vg 10 7 true (.ld none (.t 9)),
Vg 11 7 true (.len (.t 10)),
Vg 12 7 true (.bin .sub (.t 11) (.k (.c (.i 1)))),
Vg 13 7 true (.call 60 [(.t 8),(.k (.c (.i 0))),(.t 12)]),
V 14 (.pick (.t 7) (.t 13) (.k (.c (.b false)))),
V 4 (.mv (.t 14))]) (.ret))
def vf82 : VF := ⟨vf82c,vf82v,[(4,none)]⟩
theorem ok82 : chkF Try.prog Try.f82 vf82 = true := by kernel_rfl
theorem dr82 : drawsB vf82.body = true := by kernel_rfl
/-- loop.example/g00192/spec.l3Succs -/
def vf83v : List Nat := [0,1,2,4,5,13,14,19,25]
def vf83c : VC := .seq (.rg [V 2 (.box (.t 0)),
V 4 (.mv (.k (.c .ns)))]) (.seq (.rg [V 6 (.fad 0 (.t 2)),
V 7 (.ld none (.t 6)),
V 8 (.mv (.t 1)),
V 9 (.idx 6 (.t 7) (.t 8)),
V 10 (.fad 2 (.t 9)),
V 11 (.ld (some 4) (.t 10)),
V 5 (.alloc [.i 0,.i 0,.i 0,.i 0]),
Vn (.st 4 (.t 5) (.t 11))]) (.seq (.seq (.rg [V 12 (.fad 0 (.t 5)),
V 13 (.ld none (.t 12))]) (.block 0 (.seq (.rg [V 15 (.bin .eq (.t 13) (.k (.c (.i 1)))),
V 14 (.mv (.t 15))]) (.cond (.t 14) (.seq (.rg [V 16 (.fad 2 (.t 5)),
V 17 (.ld none (.t 16)),
V 18 (.bsl 1 [.i 0] 1 [(0,1,(.t 17))]),
V 4 (.mv (.t 18))]) (.ret)) (.seq (.rg [V 20 (.bin .eq (.t 13) (.k (.c (.i 2)))),
V 19 (.mv (.t 20))]) (.cond (.t 19) (.seq (.seq (.rg [V 21 (.fad 2 (.t 5)),
V 22 (.ld none (.t 21)),
V 23 (.fad 3 (.t 5)),
V 24 (.ld none (.t 23)),
V 25 (.bin .eq (.t 22) (.t 24))]) (.cond (.t 25) (.seq (.rg [V 26 (.fad 2 (.t 5)),
V 27 (.ld none (.t 26)),
V 28 (.bsl 1 [.i 0] 1 [(0,1,(.t 27))]),
V 4 (.mv (.t 28))]) (.ret)) (.skip))) (.seq (.rg [V 29 (.fad 2 (.t 5)),
V 30 (.ld none (.t 29)),
V 31 (.fad 3 (.t 5)),
V 32 (.ld none (.t 31)),
V 33 (.bsl 1 [.i 0] 2 [(0,1,(.t 30)),(1,1,(.t 32))]),
V 4 (.mv (.t 33))]) (.ret))) (.skip))))))) (.seq (.rg [V 34 (.bsl 1 [.i 0] 0 []),
V 4 (.mv (.t 34))]) (.ret))))
def vf83 : VF := ⟨vf83c,vf83v,[(4,none)]⟩
theorem ok83 : chkF Try.prog Try.f83 vf83 = true := by kernel_rfl
theorem dr83 : drawsB vf83.body = true := by kernel_rfl
/-- loop.example/g00192/impl.isBlock -/
def vf84v : List Nat := [0,1,2,4]
def vf84c : VC := .seq (.rg [V 2 (.box (.t 0)),
V 4 (.mv (.k (.c (.b false))))]) (.seq (.rg [V 5 (.ld (some 2) (.t 2)),
V 6 (.call 23 [(.t 5)]),
V 7 (.mv (.t 6)),
Vg 8 7 true (.mv (.t 1)),
Vg 9 7 true (.fad 0 (.t 2)),
Vg 10 7 true (.ld none (.t 9)),
Vg 11 7 true (.len (.t 10)),
Vg 12 7 true (.bin .sub (.t 11) (.k (.c (.i 1)))),
Vg 13 7 true (.call 65 [(.t 8),(.k (.c (.i 0))),(.t 12)]),
V 14 (.pick (.t 7) (.t 13) (.k (.c (.b false)))),
V 4 (.mv (.t 14))]) (.ret))
def vf84 : VF := ⟨vf84c,vf84v,[(4,none)]⟩
theorem ok84 : chkF Try.prog Try.f84 vf84 = true := by kernel_rfl
theorem dr84 : drawsB vf84.body = true := by kernel_rfl
/-- loop.example/g00192/impl.succs -/
def vf85v : List Nat := [0,1,2,4,5,12,31]
def vf85c : VC := .seq (.rg [V 2 (.box (.t 0)),
V 4 (.mv (.k (.c .ns)))]) (.seq (.rg [V 6 (.fad 0 (.t 2)),
V 7 (.ld none (.t 6)),
V 8 (.mv (.t 1)),
V 9 (.idx 6 (.t 7) (.t 8)),
V 10 (.fad 2 (.t 9)),
V 11 (.ld (some 4) (.t 10)),
V 5 (.alloc [.i 0,.i 0,.i 0,.i 0]),
Vn (.st 4 (.t 5) (.t 11))]) (.seq (.block 0 (.seq (.rg [V 13 (.fad 0 (.t 5)),
V 14 (.ld none (.t 13)),
V 15 (.bin .eq (.t 14) (.k (.c (.i 1)))),
V 16 (.mv (.t 15)),
Vg 17 16 false (.fad 0 (.t 5)),
Vg 18 16 false (.ld none (.t 17)),
Vg 19 16 false (.bin .eq (.t 18) (.k (.c (.i 2)))),
Vg 20 16 false (.mv (.t 19)),
Vg 21 20 true (.fad 2 (.t 5)),
Vg 22 20 true (.ld none (.t 21)),
Vg 23 20 true (.fad 3 (.t 5)),
Vg 24 20 true (.ld none (.t 23)),
Vg 25 20 true (.bin .eq (.t 22) (.t 24)),
Vg 26 16 false (.pick (.t 20) (.t 25) (.k (.c (.b false)))),
V 27 (.pick (.t 16) (.k (.c (.b true))) (.t 26)),
V 12 (.mv (.t 27))]) (.cond (.t 12) (.seq (.rg [V 28 (.fad 2 (.t 5)),
V 29 (.ld none (.t 28)),
V 30 (.bsl 1 [.i 0] 1 [(0,1,(.t 29))]),
V 4 (.mv (.t 30))]) (.ret)) (.seq (.rg [V 32 (.fad 0 (.t 5)),
V 33 (.ld none (.t 32)),
V 34 (.bin .eq (.t 33) (.k (.c (.i 2)))),
V 31 (.mv (.t 34))]) (.cond (.t 31) (.seq (.rg [V 35 (.fad 2 (.t 5)),
V 36 (.ld none (.t 35)),
V 37 (.fad 3 (.t 5)),
V 38 (.ld none (.t 37)),
V 39 (.bsl 1 [.i 0] 2 [(0,1,(.t 36)),(1,1,(.t 38))]),
V 4 (.mv (.t 39))]) (.ret)) (.skip)))))) (.seq (.rg [V 4 (.mv (.k (.c .ns)))]) (.ret))))
def vf85 : VF := ⟨vf85c,vf85v,[(4,none)]⟩
theorem ok85 : chkF Try.prog Try.f85 vf85 = true := by kernel_rfl
theorem dr85 : drawsB vf85.body = true := by kernel_rfl
/-- loop.example/g00192/laws.markBlockS -/
def vf86v : List Nat := [0,1,4,5,9]
def vf86b0 : VC := .seq (.seq (.rg [V 6 (.mv (.t 5)),
V 7 (.mv (.t 0)),
V 8 (.len (.t 7)),
V 9 (.bin .lt (.t 6) (.t 8))]) (.cond (.t 9) (.skip) (.exit 0))) (.seq (.block 1 (.seq (.rg [V 12 (.mv (.t 0)),
V 13 (.mv (.t 5)),
V 14 (.idx 6 (.t 12) (.t 13)),
V 15 (.fad 0 (.t 14)),
V 16 (.ld none (.t 15)),
V 17 (.mv (.t 1)),
V 18 (.call 116 [(.t 16),(.t 17)]),
V 1 (.mv (.t 18))]) (.seq (.rg [V 19 (.mv (.t 0)),
V 20 (.mv (.t 5)),
V 21 (.idx 6 (.t 19) (.t 20)),
V 22 (.fad 1 (.t 21)),
V 23 (.ld none (.t 22)),
V 24 (.mv (.t 1)),
V 25 (.call 117 [(.t 23),(.t 24)]),
V 1 (.mv (.t 25))]) (.seq (.rg [V 26 (.mv (.t 0)),
V 27 (.mv (.t 5)),
V 28 (.mv (.t 1)),
V 29 (.idx 6 (.t 26) (.t 27)),
V 30 (.fad 2 (.t 29)),
V 31 (.fad 0 (.t 30)),
Vn (.st 1 (.t 31) (.t 28))]) (.seq (.rg [V 32 (.mv (.t 1)),
V 33 (.bin .add (.t 32) (.k (.c (.i 1)))),
V 1 (.mv (.t 33))]) (.seq (.rg [V 34 (.mv (.t 0)),
V 35 (.mv (.t 5)),
V 36 (.mv (.t 1)),
V 37 (.idx 6 (.t 34) (.t 35)),
V 38 (.fad 2 (.t 37)),
V 39 (.fad 1 (.t 38)),
Vn (.st 1 (.t 39) (.t 36))]) (.seq (.rg [V 40 (.mv (.t 1)),
V 41 (.bin .add (.t 40) (.k (.c (.i 1)))),
V 1 (.mv (.t 41))]) (.seq (.rg [V 42 (.mv (.t 0)),
V 43 (.mv (.t 5)),
V 44 (.mv (.t 1)),
V 45 (.idx 6 (.t 42) (.t 43)),
V 46 (.fad 2 (.t 45)),
V 47 (.fad 2 (.t 46)),
Vn (.st 1 (.t 47) (.t 44))]) (.seq (.rg [V 48 (.mv (.t 1)),
V 49 (.bin .add (.t 48) (.k (.c (.i 1)))),
V 1 (.mv (.t 49))]) (.seq (.rg [V 50 (.mv (.t 0)),
V 51 (.mv (.t 5)),
V 52 (.mv (.t 1)),
V 53 (.idx 6 (.t 50) (.t 51)),
V 54 (.fad 2 (.t 53)),
V 55 (.fad 3 (.t 54)),
Vn (.st 1 (.t 55) (.t 52))]) (.rg [V 56 (.mv (.t 1)),
V 57 (.bin .add (.t 56) (.k (.c (.i 1)))),
V 1 (.mv (.t 57))]))))))))))) (.rg [V 10 (.mv (.t 5)),
V 11 (.bin .add (.t 10) (.k (.c (.i 1)))),
V 5 (.mv (.t 11))]))
def vf86c : VC := .seq (.rg [V 4 (.mv (.k (.c (.i 0))))]) (.seq (.seq (.rg [V 5 (.mv (.k (.c (.i 0))))]) (.block 0 (.loop vf86b0))) (.seq (.rg [V 58 (.mv (.t 1)),
V 4 (.mv (.t 58))]) (.ret)))
def vf86 : VF := ⟨vf86c,vf86v,[(4,none)]⟩
theorem ok86 : chkF Try.prog Try.f86 vf86 = true := by kernel_rfl
theorem dr86 : drawsB vf86.body = true := by kernel_rfl
/-- loop.example/g00192/spec.l3Preds -/
def vf87v : List Nat := [0,1,2,4,5,6,12,19]
def vf87b0 : VC := .seq (.seq (.rg [V 8 (.mv (.t 6)),
V 9 (.fad 0 (.t 2)),
V 10 (.ld none (.t 9)),
V 11 (.len (.t 10)),
V 12 (.bin .lt (.t 8) (.t 11))]) (.cond (.t 12) (.skip) (.exit 0))) (.seq (.block 1 (.seq (.rg [V 15 (.ld (some 2) (.t 2)),
V 16 (.mv (.t 6)),
V 17 (.call 83 [(.t 15),(.t 16)]),
V 18 (.mv (.t 1)),
V 19 (.call 89 [(.t 17),(.t 18)])]) (.cond (.t 19) (.rg [V 20 (.mv (.t 5)),
V 21 (.mv (.t 6)),
V 22 (.bsl 1 [.i 0] 1 [(0,1,(.t 21))]),
V 23 (.app 1 (.t 20) (.t 22)),
V 5 (.mv (.t 23))]) (.skip)))) (.rg [V 13 (.mv (.t 6)),
V 14 (.bin .add (.t 13) (.k (.c (.i 1)))),
V 6 (.mv (.t 14))]))
def vf87c : VC := .seq (.rg [V 2 (.box (.t 0)),
V 4 (.mv (.k (.c .ns)))]) (.seq (.rg [V 7 (.bsl 1 [.i 0] 0 []),
V 5 (.mv (.t 7))]) (.seq (.seq (.rg [V 6 (.mv (.k (.c (.i 0))))]) (.block 0 (.loop vf87b0))) (.seq (.rg [V 24 (.mv (.t 5)),
V 4 (.mv (.t 24))]) (.ret))))
def vf87 : VF := ⟨vf87c,vf87v,[(4,none)]⟩
theorem ok87 : chkF Try.prog Try.f87 vf87 = true := by kernel_rfl
theorem dr87 : drawsB vf87.body = true := by kernel_rfl
/-- loop.example/g00192/impl.preds -/
def vf88v : List Nat := [0,1,2,4,5,6,10,11,12,18]
def vf88b0 : VC := .seq (.rg [V 12 (.bin .lt (.t 11) (.t 10))]) (.seq (.cond (.t 12) (.skip) (.exit 0)) (.seq (.block 1 (.seq (.rg [V 13 (.mv (.t 11)),
V 6 (.mv (.t 13))]) (.seq (.rg [V 14 (.ld (some 2) (.t 2)),
V 15 (.mv (.t 6)),
V 16 (.call 85 [(.t 14),(.t 15)]),
V 17 (.mv (.t 1)),
V 18 (.call 118 [(.t 16),(.t 17)])]) (.cond (.t 18) (.rg [V 19 (.mv (.t 5)),
V 20 (.mv (.t 6)),
V 21 (.bsl 1 [.i 0] 1 [(0,1,(.t 20))]),
V 22 (.app 1 (.t 19) (.t 21)),
V 5 (.mv (.t 22))]) (.skip))))) (.rg [V 23 (.bin .add (.t 11) (.k (.c (.i 1)))),
V 11 (.mv (.t 23))])))
def vf88c : VC := .seq (.rg [V 2 (.box (.t 0)),
V 4 (.mv (.k (.c .ns)))]) (.seq (.rg [V 7 (.bsl 1 [.i 0] 0 []),
V 5 (.mv (.t 7))]) (.seq (.seq (.rg [V 8 (.fad 0 (.t 2)),
V 9 (.ld none (.t 8)),
V 10 (.len (.t 9)),
V 11 (.mv (.k (.c (.i 0))))]) (.block 0 (.loop vf88b0))) (.seq (.rg [V 24 (.mv (.t 5)),
V 4 (.mv (.t 24))]) (.ret))))
def vf88 : VF := ⟨vf88c,vf88v,[(4,none)]⟩
theorem ok88 : chkF Try.prog Try.f88 vf88 = true := by kernel_rfl
theorem dr88 : drawsB vf88.body = true := by kernel_rfl
/-- loop.example/g00192/spec.l3Has -/
def vf89v : List Nat := [0,1,4,5,9,17]
def vf89b0 : VC := .seq (.seq (.rg [V 6 (.mv (.t 5)),
V 7 (.mv (.t 0)),
V 8 (.len (.t 7)),
V 9 (.bin .lt (.t 6) (.t 8))]) (.cond (.t 9) (.skip) (.exit 0))) (.seq (.block 1 (.seq (.rg [V 12 (.mv (.t 0)),
V 13 (.mv (.t 5)),
V 14 (.idx 1 (.t 12) (.t 13)),
V 15 (.ld none (.t 14)),
V 16 (.mv (.t 1)),
V 17 (.bin .eq (.t 15) (.t 16))]) (.cond (.t 17) (.seq (.rg [V 4 (.mv (.k (.c (.b true))))]) (.ret)) (.skip)))) (.rg [V 10 (.mv (.t 5)),
V 11 (.bin .add (.t 10) (.k (.c (.i 1)))),
V 5 (.mv (.t 11))]))
def vf89c : VC := .seq (.rg [V 4 (.mv (.k (.c (.b false))))]) (.seq (.seq (.rg [V 5 (.mv (.k (.c (.i 0))))]) (.block 0 (.loop vf89b0))) (.seq (.rg [V 4 (.mv (.k (.c (.b false))))]) (.ret)))
def vf89 : VF := ⟨vf89c,vf89v,[(4,none)]⟩
theorem ok89 : chkF Try.prog Try.f89 vf89 = true := by kernel_rfl
theorem dr89 : drawsB vf89.body = true := by kernel_rfl
/-- loop.example/g00192/spec.l4Doms -/
def vf90v : List Nat := [0,1,2,3,4,5,6,7,24,34,53]
def vf90b0 : VC := .seq (.seq (.rg [V 30 (.mv (.t 7)),
V 31 (.fad 0 (.t 1)),
V 32 (.ld none (.t 31)),
V 33 (.len (.t 32)),
V 34 (.bin .lt (.t 30) (.t 33))]) (.cond (.t 34) (.skip) (.exit 2))) (.seq (.block 3 (.seq (.rg [V 37 (.mv (.t 4)),
V 38 (.mv (.t 5)),
V 39 (.idx 1 (.t 37) (.t 38)),
V 40 (.ld none (.t 39)),
V 41 (.mv (.t 40)),
Vg 42 41 true (.mv (.t 4)),
Vg 43 41 true (.mv (.t 7)),
Vg 44 41 true (.idx 1 (.t 42) (.t 43)),
Vg 45 41 true (.ld none (.t 44)),
V 46 (.pick (.t 41) (.t 45) (.k (.c (.b false)))),
V 47 (.mv (.t 46)),
Vg 48 47 true (.mv (.t 6)),
Vg 49 47 true (.mv (.t 7)),
Vg 50 47 true (.idx 1 (.t 48) (.t 49)),
Vg 51 47 true (.ld none (.t 50)),
Vg 52 47 true (.not (.t 51)),
V 53 (.pick (.t 47) (.t 52) (.k (.c (.b false))))]) (.cond (.t 53) (.rg [V 54 (.mv (.t 3)),
V 55 (.mv (.t 7)),
V 56 (.mv (.t 3)),
V 57 (.mv (.t 7)),
V 58 (.idx 1 (.t 56) (.t 57)),
V 59 (.ld none (.t 58)),
V 60 (.mv (.t 5)),
V 61 (.bsl 1 [.i 0] 1 [(0,1,(.t 60))]),
V 62 (.app 1 (.t 59) (.t 61)),
V 63 (.idx 1 (.t 54) (.t 55)),
Vn (.st 1 (.t 63) (.t 62))]) (.skip)))) (.rg [V 35 (.mv (.t 7)),
V 36 (.bin .add (.t 35) (.k (.c (.i 1)))),
V 7 (.mv (.t 36))]))
def vf90b1 : VC := .seq (.seq (.rg [V 20 (.mv (.t 5)),
V 21 (.fad 0 (.t 1)),
V 22 (.ld none (.t 21)),
V 23 (.len (.t 22)),
V 24 (.bin .lt (.t 20) (.t 23))]) (.cond (.t 24) (.skip) (.exit 0))) (.seq (.block 1 (.seq (.rg [V 27 (.ld (some 2) (.t 1)),
V 28 (.mv (.t 5)),
V 29 (.call 120 [(.t 27),(.t 28)]),
V 6 (.mv (.t 29))]) (.seq (.rg [V 7 (.mv (.k (.c (.i 0))))]) (.block 2 (.loop vf90b0))))) (.rg [V 25 (.mv (.t 5)),
V 26 (.bin .add (.t 25) (.k (.c (.i 1)))),
V 5 (.mv (.t 26))]))
def vf90c : VC := .seq (.rg [V 1 (.box (.t 0)),
V 2 (.mv (.k (.c .ns)))]) (.seq (.rg [V 8 (.fad 0 (.t 1)),
V 9 (.ld none (.t 8)),
V 10 (.len (.t 9)),
V 11 (.mks 1 [.ns] (.t 10)),
V 3 (.mv (.t 11))]) (.seq (.rg [V 12 (.fad 0 (.t 1)),
V 13 (.ld none (.t 12)),
V 14 (.len (.t 13)),
V 15 (.mks 1 [.b false] (.t 14)),
V 4 (.mv (.t 15))]) (.seq (.rg [V 16 (.ld (some 2) (.t 1)),
V 17 (.mv (.t 4)),
V 18 (.bsl 1 [.i 0] 0 []),
V 19 (.call 119 [(.t 16),(.k (.c (.i 0))),(.t 17),(.t 18)])]) (.seq (.seq (.rg [V 5 (.mv (.k (.c (.i 0))))]) (.block 0 (.loop vf90b1))) (.seq (.rg [V 64 (.mv (.t 3)),
V 2 (.mv (.t 64))]) (.ret))))))
def vf90 : VF := ⟨vf90c,vf90v,[(2,none)]⟩
theorem ok90 : chkF Try.prog Try.f90 vf90 = true := by kernel_rfl
theorem dr90 : drawsB vf90.body = true := by kernel_rfl
/-- loop.example/g00192/impl.among -/
def vf91v : List Nat := [0,1,2,6]
def vf91c : VC := .seq (.rg [V 6 (.mv (.k (.c (.b false))))]) (.seq (.rg [V 7 (.mv (.t 2)),
V 8 (.mv (.t 0)),
V 9 (.len (.t 8)),
V 10 (.bin .sub (.t 9) (.k (.c (.i 1)))),
V 11 (.call 65 [(.t 7),(.k (.c (.i 0))),(.t 10)]),
V 12 (.mv (.t 11)),
Vg 13 12 true (.mv (.t 0)),
Vg 14 12 true (.mv (.t 2)),
Vg 15 12 true (.idx 1 (.t 13) (.t 14)),
Vg 16 12 true (.ld none (.t 15)),
Vg 17 12 true (.mv (.t 1)),
Vg 18 12 true (.call 118 [(.t 16),(.t 17)]),
V 19 (.pick (.t 12) (.t 18) (.k (.c (.b false)))),
V 6 (.mv (.t 19))]) (.ret))
def vf91 : VF := ⟨vf91c,vf91v,[(6,none)]⟩
theorem ok91 : chkF Try.prog Try.f91 vf91 = true := by kernel_rfl
theorem dr91 : drawsB vf91.body = true := by kernel_rfl
/-- loop.example/g00192/impl.Doms -/
def vf92v : List Nat := [0,1,2,4,5,6,7,8,9,12,24,25,26,31,32,33,34,51]
def vf92b0 : VC := .seq (.rg [V 34 (.bin .lt (.t 33) (.t 32))]) (.seq (.cond (.t 34) (.skip) (.exit 2)) (.seq (.block 3 (.seq (.rg [V 35 (.mv (.t 33)),
V 36 (.idx 1 (.t 31) (.t 33)),
V 37 (.ld none (.t 36)),
V 8 (.mv (.t 35)),
V 9 (.mv (.t 37))]) (.seq (.rg [V 38 (.mv (.t 9)),
V 39 (.mv (.t 38)),
Vg 40 39 true (.mv (.t 7)),
Vg 41 39 true (.mv (.t 8)),
Vg 42 39 true (.idx 1 (.t 40) (.t 41)),
Vg 43 39 true (.ld none (.t 42)),
Vg 44 39 true (.not (.t 43)),
V 45 (.pick (.t 39) (.t 44) (.k (.c (.b false)))),
V 46 (.mv (.t 45)),
Vg 47 46 true (.mv (.t 4)),
Vg 48 46 true (.mv (.t 6)),
Vg 49 46 true (.idx 1 (.t 47) (.t 48)),
Vg 50 46 true (.ld none (.t 49)),
V 51 (.pick (.t 46) (.t 50) (.k (.c (.b false))))]) (.cond (.t 51) (.rg [V 52 (.mv (.t 5)),
V 53 (.mv (.t 8)),
V 54 (.mv (.t 5)),
V 55 (.mv (.t 8)),
V 56 (.idx 1 (.t 54) (.t 55)),
V 57 (.ld none (.t 56)),
V 58 (.mv (.t 6)),
V 59 (.bsl 1 [.i 0] 1 [(0,1,(.t 58))]),
V 60 (.app 1 (.t 57) (.t 59)),
V 61 (.idx 1 (.t 52) (.t 53)),
Vn (.st 1 (.t 61) (.t 60))]) (.skip))))) (.rg [V 62 (.bin .add (.t 33) (.k (.c (.i 1)))),
V 33 (.mv (.t 62))])))
def vf92b1 : VC := .seq (.rg [V 26 (.bin .lt (.t 25) (.t 24))]) (.seq (.cond (.t 26) (.skip) (.exit 0)) (.seq (.block 1 (.seq (.rg [V 27 (.mv (.t 25)),
V 6 (.mv (.t 27))]) (.seq (.rg [V 28 (.ld (some 2) (.t 1)),
V 29 (.mv (.t 6)),
V 30 (.call 121 [(.t 28),(.t 29)]),
V 7 (.mv (.t 30))]) (.seq (.rg [V 31 (.mv (.t 4)),
V 32 (.len (.t 31)),
V 33 (.mv (.k (.c (.i 0))))]) (.block 2 (.loop vf92b0)))))) (.rg [V 63 (.bin .add (.t 25) (.k (.c (.i 1)))),
V 25 (.mv (.t 63))])))
def vf92c : VC := .seq (.rg [V 1 (.box (.t 0)),
V 2 (.mv (.k (.c .ns)))]) (.seq (.seq (.rg [V 10 (.ld (some 2) (.t 1)),
V 11 (.call 23 [(.t 10)]),
V 12 (.not (.t 11))]) (.cond (.t 12) (.seq (.rg [V 2 (.mv (.k (.c .ns)))]) (.ret)) (.skip))) (.seq (.rg [V 14 (.ld (some 2) (.t 1)),
V 15 (.call 99 [(.t 14)]),
V 13 (.mv (.t 15)),
V 16 (.ext 0 (.t 13)),
V 17 (.ext 1 (.t 13)),
V 3 (.mv (.t 16)),
V 4 (.mv (.t 17))]) (.seq (.rg [V 18 (.fad 0 (.t 1)),
V 19 (.ld none (.t 18)),
V 20 (.len (.t 19)),
V 21 (.mks 1 [.ns] (.t 20)),
V 5 (.mv (.t 21))]) (.seq (.seq (.rg [V 22 (.fad 0 (.t 1)),
V 23 (.ld none (.t 22)),
V 24 (.len (.t 23)),
V 25 (.mv (.k (.c (.i 0))))]) (.block 0 (.loop vf92b1))) (.seq (.rg [V 64 (.mv (.t 5)),
V 2 (.mv (.t 64))]) (.ret))))))
def vf92 : VF := ⟨vf92c,vf92v,[(2,none)]⟩
theorem ok92 : chkF Try.prog Try.f92 vf92 = true := by kernel_rfl
theorem dr92 : drawsB vf92.body = true := by kernel_rfl
/-- slices.DeleteFuncintint -/
def vf93v : List Nat := [0,1,4,5,6,7,12,19,29]
def vf93b0 : VC := .seq (.seq (.rg [V 16 (.mv (.t 6)),
V 17 (.mv (.t 0)),
V 18 (.len (.t 17)),
V 19 (.bin .lt (.t 16) (.t 18))]) (.cond (.t 19) (.skip) (.exit 0))) (.seq (.block 1 (.seq (.rg [V 22 (.mv (.t 0)),
V 23 (.mv (.t 6)),
V 24 (.idx 1 (.t 22) (.t 23)),
V 25 (.ld none (.t 24)),
V 7 (.mv (.t 25))]) (.seq (.rg [V 26 (.mv (.t 1)),
V 27 (.mv (.t 7)),
V 28 (.clv (.t 26) [(.t 27)]),
V 29 (.not (.t 28))]) (.cond (.t 29) (.seq (.rg [V 30 (.mv (.t 0)),
V 31 (.mv (.t 5)),
V 32 (.mv (.t 7)),
V 33 (.idx 1 (.t 30) (.t 31)),
Vn (.st 1 (.t 33) (.t 32))]) (.rg [V 34 (.mv (.t 5)),
V 35 (.bin .add (.t 34) (.k (.c (.i 1)))),
V 5 (.mv (.t 35))])) (.skip))))) (.rg [V 20 (.mv (.t 6)),
V 21 (.bin .add (.t 20) (.k (.c (.i 1)))),
V 6 (.mv (.t 21))]))
def vf93c : VC := .seq (.rg [V 4 (.mv (.k (.c .ns)))]) (.seq (.rg [V 8 (.mv (.t 0)),
V 9 (.mv (.t 1)),
V 10 (.call 122 [(.t 8),(.t 9)]),
V 5 (.mv (.t 10))]) (.seq (.seq (.rg [V 11 (.mv (.t 5)),
V 12 (.bin .eq (.t 11) (.k (.c (.i (-1)))))]) (.cond (.t 12) (.seq (.rg [V 13 (.mv (.t 0)),
V 4 (.mv (.t 13))]) (.ret)) (.skip))) (.seq (.seq (.rg [V 14 (.mv (.t 5)),
V 15 (.bin .add (.t 14) (.k (.c (.i 1)))),
V 6 (.mv (.t 15))]) (.block 0 (.loop vf93b0))) (.seq (.rg [V 36 (.mv (.t 0)),
V 37 (.mv (.t 5)),
V 38 (.slc 1 (.t 36) (some (.t 37)) none),
Vn (.clr 1 [.i 0] (.t 38))]) (.seq (.rg [V 39 (.mv (.t 0)),
V 40 (.mv (.t 5)),
V 41 (.slc 1 (.t 39) none (some (.t 40))),
V 4 (.mv (.t 41))]) (.ret))))))
def vf93 : VF := ⟨vf93c,vf93v,[(4,none)]⟩
theorem ok93 : chkF Try.prog Try.f93 vf93 = true := by kernel_rfl
theorem dr93 : drawsB vf93.body = true := by kernel_rfl
/-- slices.Cloneintint -/
def vf94v : List Nat := [0,2,4]
def vf94c : VC := .seq (.rg [V 2 (.mv (.k (.c .ns)))]) (.seq (.seq (.rg [V 3 (.mv (.t 0)),
V 4 (.eqn false (.t 3))]) (.cond (.t 4) (.seq (.rg [V 2 (.mv (.k (.c .ns)))]) (.ret)) (.skip))) (.seq (.rg [V 5 (.bsl 1 [.i 0] 0 []),
V 6 (.mv (.t 0)),
V 7 (.app 1 (.t 5) (.t 6)),
V 2 (.mv (.t 7))]) (.ret)))
def vf94 : VF := ⟨vf94c,vf94v,[(2,none)]⟩
theorem ok94 : chkF Try.prog Try.f94 vf94 = true := by kernel_rfl
theorem dr94 : drawsB vf94.body = true := by kernel_rfl
/-- loop.example/g00192/impl.Above$1 -/
def vf95v : List Nat := [0,1,3]
def vf95c : VC := .seq (.rg [V 3 (.mv (.k (.c (.b false))))]) (.seq (.rg [V 4 (.mv (.t 0)),
V 5 (.ld none (.t 1)),
V 6 (.bin .eq (.t 4) (.t 5)),
V 3 (.mv (.t 6))]) (.ret))
def vf95 : VF := ⟨vf95c,vf95v,[(3,none)]⟩
theorem ok95 : chkF Try.prog Try.f95 vf95 = true := by kernel_rfl
theorem dr95 : drawsB vf95.body = true := by kernel_rfl
/-- slices.ContainsFuncintint -/
def vf96v : List Nat := [0,1,4]
def vf96c : VC := .seq (.rg [V 4 (.mv (.k (.c (.b false))))]) (.seq (.rg [V 5 (.mv (.t 0)),
V 6 (.mv (.t 1)),
V 7 (.call 122 [(.t 5),(.t 6)]),
V 8 (.bin .ge (.t 7) (.k (.c (.i 0)))),
V 4 (.mv (.t 8))]) (.ret))
def vf96 : VF := ⟨vf96c,vf96v,[(4,none)]⟩
theorem ok96 : chkF Try.prog Try.f96 vf96 = true := by kernel_rfl
theorem dr96 : drawsB vf96.body = true := by kernel_rfl
/-- loop.example/g00192/impl.Above$2 -/
def vf97v : List Nat := [0,1,2,4]
def vf97c : VC := .seq (.rg [V 4 (.mv (.k (.c (.b false))))]) (.seq (.rg [V 5 (.ld none (.t 1)),
V 6 (.mv (.t 0)),
V 7 (.ld none (.t 2)),
V 8 (.call 91 [(.t 5),(.t 6),(.t 7)]),
V 9 (.not (.t 8)),
V 4 (.mv (.t 9))]) (.ret))
def vf97 : VF := ⟨vf97c,vf97v,[(4,none)]⟩
theorem ok97 : chkF Try.prog Try.f97 vf97 = true := by kernel_rfl
theorem dr97 : drawsB vf97.body = true := by kernel_rfl
/-- loop.example/g00192/spec.l3Order -/
def vf98v : List Nat := [0,1,2,3,4,5,18]
def vf98r0 : List VO := [V 6 (.ld (some 2) (.t 1)),V 7 (.fad 0 (.t 1)),Vd [1] (V 8 (.ld none (.t 7))),Vd [2] (V 9 (.len (.t 8))),Vd [3] (V 10 (.mks 1 [.b false] (.t 9))),V 11 (.bsl 1 [.i 0] 0 []),Vd [0,4,5] (V 12 (.call 119 [(.t 6),(.k (.c (.i 0))),(.t 10),(.t 11)])),Vd [6] (V 3 (.mv (.t 12)))]
def vf98t0 : VT := .split 4 5 (.leaf [(0,Vc [] [] true (V 6 (.ld (some 2) (.t 1)))),
(1,Vc [] [] false (V 7 (.fad 0 (.t 1)))),
(2,Vc [1] [] false (V 8 (.ld none (.t 7)))),
(3,Vc [2] [] false (V 9 (.len (.t 8)))),
(4,Vc [3] [0] false (V 10 (.mks 1 [.b false] (.t 9)))),
(5,Vc [] [0] false (V 11 (.bsl 1 [.i 0] 0 []))),
(6,Vc [0,4,5] [] false (V 12 (.call 119 [(.t 6),(.k (.c (.i 0))),(.t 10),(.t 11)]))),
(7,Vc [6] [] false (V 3 (.mv (.t 12))))]) (.leaf [(0,Vc [] [] true (V 6 (.ld (some 2) (.t 1)))),
(1,Vc [] [] false (V 7 (.fad 0 (.t 1)))),
(2,Vc [1] [] true (V 8 (.ld none (.t 7)))),
(3,Vc [2] [] false (V 9 (.len (.t 8)))),
(5,Vc [] [0,2] false (V 11 (.bsl 1 [.i 0] 0 []))),
(4,Vc [3] [0] false (V 10 (.mks 1 [.b false] (.t 9)))),
(6,Vc [0,4,5] [] false (V 12 (.call 119 [(.t 6),(.k (.c (.i 0))),(.t 10),(.t 11)]))),
(7,Vc [6] [] false (V 3 (.mv (.t 12))))])
def vf98b0 : VC := .seq (.seq (.rg [V 17 (.mv (.t 5)),
V 18 (.bin .ge (.t 17) (.k (.c (.i 0))))]) (.cond (.t 18) (.skip) (.exit 0))) (.seq (.block 1 (.rg [V 21 (.mv (.t 4)),
V 22 (.mv (.t 3)),
V 23 (.mv (.t 5)),
V 24 (.idx 1 (.t 22) (.t 23)),
V 25 (.ld none (.t 24)),
V 26 (.bsl 1 [.i 0] 1 [(0,1,(.t 25))]),
V 27 (.app 1 (.t 21) (.t 26)),
V 4 (.mv (.t 27))])) (.rg [V 19 (.mv (.t 5)),
V 20 (.bin .sub (.t 19) (.k (.c (.i 1)))),
V 5 (.mv (.t 20))]))
def vf98c : VC := .seq (.rg [V 1 (.box (.t 0)),
V 2 (.mv (.k (.c .ns)))]) (.seq (.rx vf98r0 vf98t0) (.seq (.rg [V 13 (.bsl 1 [.i 0] 0 []),
V 4 (.mv (.t 13))]) (.seq (.seq (.rg [V 14 (.mv (.t 3)),
V 15 (.len (.t 14)),
V 16 (.bin .sub (.t 15) (.k (.c (.i 1)))),
V 5 (.mv (.t 16))]) (.block 0 (.loop vf98b0))) (.seq (.rg [V 28 (.mv (.t 4)),
V 2 (.mv (.t 28))]) (.ret)))))
def vf98 : VF := ⟨vf98c,vf98v,[(2,none)]⟩
theorem ok98 : chkF Try.prog Try.f98 vf98 = true := by kernel_rfl
theorem dr98 : drawsB vf98.body = true := by kernel_rfl
/-- loop.example/g00192/impl.order -/
def vf99v : List Nat := [0,1,2,3,4,5]
def vf99c : VC := .seq (.rg [V 1 (.box (.t 0)),
V 2 (.mv (.k (.c .ns))),
V 3 (.mv (.k (.c .ns)))]) (.seq (.rg [V 6 (.fad 0 (.t 1)),
V 7 (.ld none (.t 6)),
V 8 (.len (.t 7)),
V 9 (.mks 1 [.b false] (.t 8)),
V 4 (.mv (.t 9))]) (.seq (.rg [V 10 (.ld (some 2) (.t 1)),
V 11 (.mv (.t 4)),
V 12 (.call 123 [(.t 10),(.k (.c (.i 0))),(.t 11),(.k (.c .ns))]),
V 5 (.mv (.t 12))]) (.seq (.rg [V 13 (.mv (.t 5)),
V 14 (.call 124 [(.t 13)])]) (.seq (.rg [V 15 (.mv (.t 5)),
V 16 (.mv (.t 4)),
V 2 (.mv (.t 15)),
V 3 (.mv (.t 16))]) (.ret)))))
def vf99 : VF := ⟨vf99c,vf99v,[(2,none),(3,none)]⟩
theorem ok99 : chkF Try.prog Try.f99 vf99 = true := by kernel_rfl
theorem dr99 : drawsB vf99.body = true := by kernel_rfl
/-- loop.example/g00192/spec.l8Critical -/
def vf100v : List Nat := [0,1,2,3,4,5,6,12,26,49]
def vf100b0 : VC := .seq (.seq (.rg [V 18 (.mv (.t 6)),
V 19 (.mv (.t 5)),
V 20 (.len (.t 19)),
V 21 (.bin .lt (.t 18) (.t 20)),
V 22 (.mv (.t 21)),
Vg 23 22 true (.mv (.t 5)),
Vg 24 22 true (.len (.t 23)),
Vg 25 22 true (.bin .gt (.t 24) (.k (.c (.i 1)))),
V 26 (.pick (.t 22) (.t 25) (.k (.c (.b false))))]) (.cond (.t 26) (.skip) (.exit 2))) (.seq (.block 3 (.seq (.rd [V 29 (.ld (some 2) (.t 1)),
V 30 (.mv (.t 5)),
V 31 (.mv (.t 6)),
Vd [1,2] (V 32 (.idx 1 (.t 30) (.t 31))),
Vd [3] (V 33 (.ld none (.t 32))),
Vd [0,4] (V 34 (.call 87 [(.t 29),(.t 33)])),
Vd [5] (V 35 (.len (.t 34))),
Vd [6] (V 36 (.bin .gt (.t 35) (.k (.c (.i 1))))),
Vd [7] (V 37 (.mv (.t 36))),
Vd [8] (Vg 38 37 false (.fad 0 (.t 1))),
Vd [9] (Vg 39 37 false (.ld none (.t 38))),
Vd [8] (Vg 40 37 false (.mv (.t 5))),
Vd [8] (Vg 41 37 false (.mv (.t 6))),
Vd [11,12] (Vg 42 37 false (.idx 1 (.t 40) (.t 41))),
Vd [13] (Vg 43 37 false (.ld none (.t 42))),
Vd [10,14] (Vg 44 37 false (.idx 6 (.t 39) (.t 43))),
Vd [15] (Vg 45 37 false (.fad 0 (.t 44))),
Vd [16] (Vg 46 37 false (.ld none (.t 45))),
Vd [17] (Vg 47 37 false (.len (.t 46))),
Vd [18] (Vg 48 37 false (.bin .gt (.t 47) (.k (.c (.i 0))))),
Vd [19] (V 49 (.pick (.t 37) (.k (.c (.b true))) (.t 48)))]) (.cond (.t 49) (.rg [V 50 (.mv (.t 3)),
V 51 (.mv (.t 4)),
V 52 (.mv (.t 5)),
V 53 (.mv (.t 6)),
V 54 (.idx 1 (.t 52) (.t 53)),
V 55 (.ld none (.t 54)),
V 56 (.build [.i 0,.i 0] [(0,1,(.t 51)),(1,1,(.t 55))]),
V 57 (.bsl 2 [.i 0,.i 0] 1 [(0,2,(.t 56))]),
V 58 (.app 2 (.t 50) (.t 57)),
V 3 (.mv (.t 58))]) (.skip)))) (.rg [V 27 (.mv (.t 6)),
V 28 (.bin .add (.t 27) (.k (.c (.i 1)))),
V 6 (.mv (.t 28))]))
def vf100b1 : VC := .seq (.seq (.rg [V 8 (.mv (.t 4)),
V 9 (.fad 0 (.t 1)),
V 10 (.ld none (.t 9)),
V 11 (.len (.t 10)),
V 12 (.bin .lt (.t 8) (.t 11))]) (.cond (.t 12) (.skip) (.exit 0))) (.seq (.block 1 (.seq (.rg [V 15 (.ld (some 2) (.t 1)),
V 16 (.mv (.t 4)),
V 17 (.call 83 [(.t 15),(.t 16)]),
V 5 (.mv (.t 17))]) (.seq (.rg [V 6 (.mv (.k (.c (.i 0))))]) (.block 2 (.loop vf100b0))))) (.rg [V 13 (.mv (.t 4)),
V 14 (.bin .add (.t 13) (.k (.c (.i 1)))),
V 4 (.mv (.t 14))]))
def vf100c : VC := .seq (.rg [V 1 (.box (.t 0)),
V 2 (.mv (.k (.c .ns)))]) (.seq (.rg [V 7 (.bsl 2 [.i 0,.i 0] 0 []),
V 3 (.mv (.t 7))]) (.seq (.seq (.rg [V 4 (.mv (.k (.c (.i 0))))]) (.block 0 (.loop vf100b1))) (.seq (.rg [V 59 (.mv (.t 3)),
V 2 (.mv (.t 59))]) (.ret))))
def vf100 : VF := ⟨vf100c,vf100v,[(2,none)]⟩
theorem ok100 : chkF Try.prog Try.f100 vf100 = true := by kernel_rfl
theorem dr100 : drawsB vf100.body = true := by kernel_rfl
/-- loop.example/g00192/laws.eqEdge -/
def vf101v : List Nat := [0,1,2,3,4,9,14]
def vf101c : VC := .seq (.rg [V 2 (.box (.t 0)),
V 3 (.box (.t 1)),
V 4 (.mv (.k (.c (.b false))))]) (.seq (.seq (.rg [V 5 (.fad 0 (.t 2)),
V 6 (.ld none (.t 5)),
V 7 (.fad 0 (.t 3)),
V 8 (.ld none (.t 7)),
V 9 (.bin .ne (.t 6) (.t 8))]) (.cond (.t 9) (.seq (.rg [V 4 (.mv (.k (.c (.b false))))]) (.ret)) (.skip))) (.seq (.seq (.rg [V 10 (.fad 1 (.t 2)),
V 11 (.ld none (.t 10)),
V 12 (.fad 1 (.t 3)),
V 13 (.ld none (.t 12)),
V 14 (.bin .ne (.t 11) (.t 13))]) (.cond (.t 14) (.seq (.rg [V 4 (.mv (.k (.c (.b false))))]) (.ret)) (.skip))) (.seq (.rg [V 4 (.mv (.k (.c (.b true))))]) (.ret))))
def vf101 : VF := ⟨vf101c,vf101v,[(4,none)]⟩
theorem ok101 : chkF Try.prog Try.f101 vf101 = true := by kernel_rfl
theorem dr101 : drawsB vf101.body = true := by kernel_rfl
end Go.Proofs.Ytnmnpfdjigpgaaa.Vm
