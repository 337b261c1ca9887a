/- The ideal machine's code for some of the program's functions, each checked against the translated one. No conditions. -/
import Derived.Test.YtnmnpfdjigpgaaaChecked
import Derived.Test.YtnmnpfdjigpgaaaVmQ
import Derived.Test.YtnmnpfdjigpgaaaVmC
namespace Go.Proofs.Ytnmnpfdjigpgaaa.Vm
set_option linter.unusedVariables false
set_option maxRecDepth 100000
/-- slices.IndexFuncloop.example/g00192/impl.Moveloop.example/g00192/impl.Move -/
def vf102v : List Nat := [0,1,4,5,7,8,9,16]
def vf102b0 : VC := .seq (.rg [V 9 (.bin .lt (.t 8) (.t 7))]) (.seq (.cond (.t 9) (.skip) (.exit 0)) (.seq (.block 1 (.seq (.rg [V 10 (.mv (.t 8)),
V 5 (.mv (.t 10))]) (.seq (.rg [V 11 (.mv (.t 1)),
V 12 (.mv (.t 0)),
V 13 (.mv (.t 5)),
V 14 (.idx 2 (.t 12) (.t 13)),
V 15 (.ld (some 2) (.t 14)),
V 16 (.clv (.t 11) [(.t 15)])]) (.cond (.t 16) (.seq (.rg [V 17 (.mv (.t 5)),
V 4 (.mv (.t 17))]) (.ret)) (.skip))))) (.rg [V 18 (.bin .add (.t 8) (.k (.c (.i 1)))),
V 8 (.mv (.t 18))])))
def vf102c : VC := .seq (.rg [V 4 (.mv (.k (.c (.i 0))))]) (.seq (.seq (.rg [V 6 (.mv (.t 0)),
V 7 (.len (.t 6)),
V 8 (.mv (.k (.c (.i 0))))]) (.block 0 (.loop vf102b0))) (.seq (.rg [V 4 (.mv (.k (.c (.i (-1)))))]) (.ret)))
def vf102 : VF := ⟨vf102c,vf102v,[(4,none)]⟩
theorem ok102 : chkF Try.prog Try.f102 vf102 = true := by kernel_rfl
theorem dr102 : drawsB vf102.body = true := by kernel_rfl
/-- loop.example/g00192/laws.szBlock -/
def vf103v : List Nat := [0,1,2,4,10,16]
def vf103c : VC := .seq (.rg [V 2 (.box (.t 0)),
V 4 (.mv (.k (.c (.i 0))))]) (.seq (.rg [V 5 (.fad 0 (.t 2)),
V 6 (.ld none (.t 5)),
V 7 (.mv (.t 1)),
V 8 (.call 125 [(.t 6),(.t 7)]),
V 1 (.mv (.t 8))]) (.seq (.seq (.rg [V 9 (.mv (.t 1)),
V 10 (.bin .lt (.t 9) (.k (.c (.i 0))))]) (.cond (.t 10) (.seq (.rg [V 4 (.mv (.k (.c (.i (-1)))))]) (.ret)) (.skip))) (.seq (.rg [V 11 (.fad 1 (.t 2)),
V 12 (.ld none (.t 11)),
V 13 (.mv (.t 1)),
V 14 (.call 126 [(.t 12),(.t 13)]),
V 1 (.mv (.t 14))]) (.seq (.seq (.rg [V 15 (.mv (.t 1)),
V 16 (.bin .lt (.t 15) (.k (.c (.i 0))))]) (.cond (.t 16) (.seq (.rg [V 4 (.mv (.k (.c (.i (-1)))))]) (.ret)) (.skip))) (.seq (.rg [V 17 (.mv (.t 1)),
V 4 (.mv (.t 17))]) (.ret))))))
def vf103 : VF := ⟨vf103c,vf103v,[(4,none)]⟩
theorem ok103 : chkF Try.prog Try.f103 vf103 = true := by kernel_rfl
theorem dr103 : drawsB vf103.body = true := by kernel_rfl
/-- loop.example/g00192/spec.l2Value -/
def vf104v : List Nat := [0,1,4]
def vf104c : VC := .seq (.rg [V 4 (.mv (.k (.c (.b false))))]) (.seq (.rg [V 5 (.mv (.t 0)),
V 6 (.bin .ge (.t 5) (.k (.c (.i 0)))),
V 7 (.mv (.t 6)),
Vg 8 7 true (.mv (.t 0)),
Vg 9 7 true (.mv (.t 1)),
Vg 10 7 true (.bin .lt (.t 8) (.t 9)),
V 11 (.pick (.t 7) (.t 10) (.k (.c (.b false)))),
V 4 (.mv (.t 11))]) (.ret))
def vf104 : VF := ⟨vf104c,vf104v,[(4,none)]⟩
theorem ok104 : chkF Try.prog Try.f104 vf104 = true := by kernel_rfl
theorem dr104 : drawsB vf104.body = true := by kernel_rfl
/-- loop.example/g00192/spec.WordOk -/
def vf105v : List Nat := [0,2]
def vf105c : VC := .seq (.rg [V 2 (.mv (.k (.c (.b false))))]) (.seq (.rg [V 3 (.mv (.t 0)),
V 4 (.call 60 [(.t 3),(.k (.c (.i 1))),(.k (.c (.i 10)))]),
V 2 (.mv (.t 4))]) (.ret))
def vf105 : VF := ⟨vf105c,vf105v,[(2,none)]⟩
theorem ok105 : chkF Try.prog Try.f105 vf105 = true := by kernel_rfl
theorem dr105 : drawsB vf105.body = true := by kernel_rfl
/-- loop.example/g00192/laws.toBlock -/
def vf106v : List Nat := [0,1,2,3]
def vf106c : VC := .seq (.rg [V 1 (.box (.t 0)),
V 2 (.alloc [.ns,.ns,.i 0,.i 0,.i 0,.i 0])]) (.seq (.rg [V 3 (.alloc [.ns,.ns,.i 0,.i 0,.i 0,.i 0])]) (.seq (.rg [V 4 (.fad 0 (.t 1)),
V 5 (.ld none (.t 4)),
V 6 (.call 127 [(.t 5)]),
V 7 (.fad 0 (.t 3)),
Vn (.st 1 (.t 7) (.t 6))]) (.seq (.rg [V 8 (.fad 1 (.t 1)),
V 9 (.ld none (.t 8)),
V 10 (.call 128 [(.t 9)]),
V 11 (.fad 1 (.t 3)),
Vn (.st 1 (.t 11) (.t 10))]) (.seq (.rg [V 12 (.fad 2 (.t 1)),
V 13 (.ld (some 4) (.t 12)),
V 14 (.call 129 [(.t 13)]),
V 15 (.fad 2 (.t 3)),
Vn (.st 4 (.t 15) (.t 14))]) (.seq (.rg [V 16 (.ld (some 6) (.t 3)),
Vn (.st 6 (.t 2) (.t 16))]) (.ret))))))
def vf106 : VF := ⟨vf106c,vf106v,[(2,(some (some 6)))]⟩
theorem ok106 : chkF Try.prog Try.f106 vf106 = true := by kernel_rfl
theorem dr106 : drawsB vf106.body = true := by kernel_rfl
/-- slices.IndexFuncloop.example/g00192/impl.Blockloop.example/g00192/impl.Block -/
def vf107v : List Nat := [0,1,4,5,7,8,9,16]
def vf107b0 : VC := .seq (.rg [V 9 (.bin .lt (.t 8) (.t 7))]) (.seq (.cond (.t 9) (.skip) (.exit 0)) (.seq (.block 1 (.seq (.rg [V 10 (.mv (.t 8)),
V 5 (.mv (.t 10))]) (.seq (.rg [V 11 (.mv (.t 1)),
V 12 (.mv (.t 0)),
V 13 (.mv (.t 5)),
V 14 (.idx 6 (.t 12) (.t 13)),
V 15 (.ld (some 6) (.t 14)),
V 16 (.clv (.t 11) [(.t 15)])]) (.cond (.t 16) (.seq (.rg [V 17 (.mv (.t 5)),
V 4 (.mv (.t 17))]) (.ret)) (.skip))))) (.rg [V 18 (.bin .add (.t 8) (.k (.c (.i 1)))),
V 8 (.mv (.t 18))])))
def vf107c : VC := .seq (.rg [V 4 (.mv (.k (.c (.i 0))))]) (.seq (.seq (.rg [V 6 (.mv (.t 0)),
V 7 (.len (.t 6)),
V 8 (.mv (.k (.c (.i 0))))]) (.block 0 (.loop vf107b0))) (.seq (.rg [V 4 (.mv (.k (.c (.i (-1)))))]) (.ret)))
def vf107 : VF := ⟨vf107c,vf107v,[(4,none)]⟩
theorem ok107 : chkF Try.prog Try.f107 vf107 = true := by kernel_rfl
theorem dr107 : drawsB vf107.body = true := by kernel_rfl
/-- loop.example/g00192/impl.partOk -/
def vf108v : List Nat := [0,1,2,6,7]
def vf108c : VC := .seq (.rg [V 6 (.mv (.k (.c (.b false))))]) (.seq (.seq (.rg [V 7 (.mv (.t 1))]) (.cond (.t 7) (.seq (.rg [V 8 (.mv (.t 0)),
V 9 (.bin .ge (.t 8) (.k (.c (.i 0)))),
V 10 (.mv (.t 9)),
Vg 11 10 true (.mv (.t 0)),
Vg 12 10 true (.mv (.t 2)),
Vg 13 10 true (.bin .lt (.t 11) (.t 12)),
V 14 (.pick (.t 10) (.t 13) (.k (.c (.b false)))),
V 6 (.mv (.t 14))]) (.ret)) (.skip))) (.seq (.rg [V 15 (.mv (.t 0)),
V 16 (.bin .eq (.t 15) (.k (.c (.i 0)))),
V 6 (.mv (.t 16))]) (.ret)))
def vf108 : VF := ⟨vf108c,vf108v,[(6,none)]⟩
theorem ok108 : chkF Try.prog Try.f108 vf108 = true := by kernel_rfl
theorem dr108 : drawsB vf108.body = true := by kernel_rfl
/-- slices.IndexFuncloop.example/g00192/impl.Philoop.example/g00192/impl.Phi -/
def vf109v : List Nat := [0,1,4,5,7,8,9,16]
def vf109b0 : VC := .seq (.rg [V 9 (.bin .lt (.t 8) (.t 7))]) (.seq (.cond (.t 9) (.skip) (.exit 0)) (.seq (.block 1 (.seq (.rg [V 10 (.mv (.t 8)),
V 5 (.mv (.t 10))]) (.seq (.rg [V 11 (.mv (.t 1)),
V 12 (.mv (.t 0)),
V 13 (.mv (.t 5)),
V 14 (.idx 2 (.t 12) (.t 13)),
V 15 (.ld (some 2) (.t 14)),
V 16 (.clv (.t 11) [(.t 15)])]) (.cond (.t 16) (.seq (.rg [V 17 (.mv (.t 5)),
V 4 (.mv (.t 17))]) (.ret)) (.skip))))) (.rg [V 18 (.bin .add (.t 8) (.k (.c (.i 1)))),
V 8 (.mv (.t 18))])))
def vf109c : VC := .seq (.rg [V 4 (.mv (.k (.c (.i 0))))]) (.seq (.seq (.rg [V 6 (.mv (.t 0)),
V 7 (.len (.t 6)),
V 8 (.mv (.k (.c (.i 0))))]) (.block 0 (.loop vf109b0))) (.seq (.rg [V 4 (.mv (.k (.c (.i (-1)))))]) (.ret)))
def vf109 : VF := ⟨vf109c,vf109v,[(4,none)]⟩
theorem ok109 : chkF Try.prog Try.f109 vf109 = true := by kernel_rfl
theorem dr109 : drawsB vf109.body = true := by kernel_rfl
/-- slices.ContainsFuncloop.example/g00192/impl.Armloop.example/g00192/impl.Arm -/
def vf110v : List Nat := [0,1,4]
def vf110c : VC := .seq (.rg [V 4 (.mv (.k (.c (.b false))))]) (.seq (.rg [V 5 (.mv (.t 0)),
V 6 (.mv (.t 1)),
V 7 (.call 130 [(.t 5),(.t 6)]),
V 8 (.bin .ge (.t 7) (.k (.c (.i 0)))),
V 4 (.mv (.t 8))]) (.ret))
def vf110 : VF := ⟨vf110c,vf110v,[(4,none)]⟩
theorem ok110 : chkF Try.prog Try.f110 vf110 = true := by kernel_rfl
theorem dr110 : drawsB vf110.body = true := by kernel_rfl
/-- loop.example/g00192/impl.phiOk$1 -/
def vf111v : List Nat := [0,1,2,3]
def vf111c : VC := .seq (.rg [V 2 (.box (.t 0)),
V 3 (.mv (.k (.c (.b false))))]) (.seq (.rg [V 4 (.fad 0 (.t 2)),
V 5 (.ld none (.t 4)),
V 6 (.fad 0 (.t 1)),
V 7 (.ld none (.t 6)),
V 8 (.bin .eq (.t 5) (.t 7)),
V 3 (.mv (.t 8))]) (.ret))
def vf111 : VF := ⟨vf111c,vf111v,[(3,none)]⟩
theorem ok111 : chkF Try.prog Try.f111 vf111 = true := by kernel_rfl
theorem dr111 : drawsB vf111.body = true := by kernel_rfl
/-- loop.example/g00192/impl.formOf -/
def vf112v : List Nat := [0,2,3,4,5,7,10,12,14]
def vf112c : VC := .seq (.rg [V 2 (.mv (.k (.c (.s ⟨#[]⟩)))),
V 3 (.mv (.k (.c (.b false))))]) (.seq (.seq (.rg [V 4 (.mv (.t 0))]) (.block 0 (.seq (.rg [V 6 (.bin .eq (.t 4) (.k (.c (.i 20)))),
V 5 (.mv (.t 6))]) (.cond (.t 5) (.seq (.rg [V 2 (.mv (.k (.c (.s ⟨#[68,78]⟩)))),
V 3 (.mv (.k (.c (.b true))))]) (.ret)) (.seq (.seq (.rg [V 8 (.bin .eq (.t 4) (.k (.c (.i 21)))),
V 7 (.mv (.t 8))]) (.cond (.t 7) (.skip) (.rg [V 9 (.bin .eq (.t 4) (.k (.c (.i 25)))),
V 7 (.mv (.t 9))]))) (.cond (.t 7) (.seq (.rg [V 2 (.mv (.k (.c (.s ⟨#[68,65]⟩)))),
V 3 (.mv (.k (.c (.b true))))]) (.ret)) (.seq (.rg [V 11 (.bin .eq (.t 4) (.k (.c (.i 22)))),
V 10 (.mv (.t 11))]) (.cond (.t 10) (.seq (.rg [V 2 (.mv (.k (.c (.s ⟨#[65,66]⟩)))),
V 3 (.mv (.k (.c (.b true))))]) (.ret)) (.seq (.rg [V 13 (.bin .eq (.t 4) (.k (.c (.i 23)))),
V 12 (.mv (.t 13))]) (.cond (.t 12) (.seq (.rg [V 2 (.mv (.k (.c (.s ⟨#[65]⟩)))),
V 3 (.mv (.k (.c (.b true))))]) (.ret)) (.seq (.rg [V 15 (.bin .eq (.t 4) (.k (.c (.i 24)))),
V 14 (.mv (.t 15))]) (.cond (.t 14) (.seq (.rg [V 2 (.mv (.k (.c (.s ⟨#[68]⟩)))),
V 3 (.mv (.k (.c (.b true))))]) (.ret)) (.skip))))))))))))) (.seq (.rg [V 16 (.mv (.t 0)),
V 17 (.call 131 [(.t 16)]),
V 2 (.mv (.k (.c (.s ⟨#[68,65,66]⟩)))),
V 3 (.mv (.t 17))]) (.ret)))
def vf112 : VF := ⟨vf112c,vf112v,[(2,none),(3,none)]⟩
theorem ok112 : chkF Try.prog Try.f112 vf112 = true := by kernel_rfl
theorem dr112 : drawsB vf112.body = true := by kernel_rfl
/-- loop.example/g00192/laws.eqBlock -/
def vf113v : List Nat := [0,1,2,3,4,10,16,22]
def vf113c : VC := .seq (.rg [V 2 (.box (.t 0)),
V 3 (.box (.t 1)),
V 4 (.mv (.k (.c (.b false))))]) (.seq (.seq (.rg [V 5 (.fad 0 (.t 2)),
V 6 (.ld none (.t 5)),
V 7 (.fad 0 (.t 3)),
V 8 (.ld none (.t 7)),
V 9 (.call 132 [(.t 6),(.t 8)]),
V 10 (.not (.t 9))]) (.cond (.t 10) (.seq (.rg [V 4 (.mv (.k (.c (.b false))))]) (.ret)) (.skip))) (.seq (.seq (.rg [V 11 (.fad 1 (.t 2)),
V 12 (.ld none (.t 11)),
V 13 (.fad 1 (.t 3)),
V 14 (.ld none (.t 13)),
V 15 (.call 133 [(.t 12),(.t 14)]),
V 16 (.not (.t 15))]) (.cond (.t 16) (.seq (.rg [V 4 (.mv (.k (.c (.b false))))]) (.ret)) (.skip))) (.seq (.seq (.rg [V 17 (.fad 2 (.t 2)),
V 18 (.ld (some 4) (.t 17)),
V 19 (.fad 2 (.t 3)),
V 20 (.ld (some 4) (.t 19)),
V 21 (.call 134 [(.t 18),(.t 20)]),
V 22 (.not (.t 21))]) (.cond (.t 22) (.seq (.rg [V 4 (.mv (.k (.c (.b false))))]) (.ret)) (.skip))) (.seq (.rg [V 4 (.mv (.k (.c (.b true))))]) (.ret)))))
def vf113 : VF := ⟨vf113c,vf113v,[(4,none)]⟩
theorem ok113 : chkF Try.prog Try.f113 vf113 = true := by kernel_rfl
theorem dr113 : drawsB vf113.body = true := by kernel_rfl
/-- loop.example/g00192/spec.InsDef -/
def vf114v : List Nat := [0,1,2,5]
def vf114c : VC := .seq (.rg [V 1 (.box (.t 0)),
V 2 (.mv (.k (.c (.i 0))))]) (.seq (.seq (.rg [V 3 (.fad 0 (.t 1)),
V 4 (.ld none (.t 3)),
V 5 (.call 135 [(.t 4)])]) (.cond (.t 5) (.seq (.rg [V 6 (.fad 1 (.t 1)),
V 7 (.ld none (.t 6)),
V 2 (.mv (.t 7))]) (.ret)) (.skip))) (.seq (.rg [V 2 (.mv (.k (.c (.i (-1)))))]) (.ret)))
def vf114 : VF := ⟨vf114c,vf114v,[(2,none)]⟩
theorem ok114 : chkF Try.prog Try.f114 vf114 = true := by kernel_rfl
theorem dr114 : drawsB vf114.body = true := by kernel_rfl
/-- slices.Containsbytebyte -/
def vf115v : List Nat := [0,1,4]
def vf115c : VC := .seq (.rg [V 4 (.mv (.k (.c (.b false))))]) (.seq (.rg [V 5 (.mv (.t 0)),
V 6 (.mv (.t 1)),
V 7 (.call 136 [(.t 5),(.t 6)]),
V 8 (.bin .ge (.t 7) (.k (.c (.i 0)))),
V 4 (.mv (.t 8))]) (.ret))
def vf115 : VF := ⟨vf115c,vf115v,[(4,none)]⟩
theorem ok115 : chkF Try.prog Try.f115 vf115 = true := by kernel_rfl
theorem dr115 : drawsB vf115.body = true := by kernel_rfl
/-- loop.example/g00192/laws.markPhiS -/
def vf116v : List Nat := [0,1,4,5,9]
def vf116b0 : VC := .seq (.seq (.rg [V 6 (.mv (.t 5)),
V 7 (.mv (.t 0)),
V 8 (.len (.t 7)),
V 9 (.bin .lt (.t 6) (.t 8))]) (.cond (.t 9) (.skip) (.exit 0))) (.seq (.block 1 (.seq (.rg [V 12 (.mv (.t 0)),
V 13 (.mv (.t 5)),
V 14 (.mv (.t 1)),
V 15 (.idx 2 (.t 12) (.t 13)),
V 16 (.fad 0 (.t 15)),
Vn (.st 1 (.t 16) (.t 14))]) (.seq (.rg [V 17 (.mv (.t 1)),
V 18 (.bin .add (.t 17) (.k (.c (.i 1)))),
V 1 (.mv (.t 18))]) (.rg [V 19 (.mv (.t 0)),
V 20 (.mv (.t 5)),
V 21 (.idx 2 (.t 19) (.t 20)),
V 22 (.fad 1 (.t 21)),
V 23 (.ld none (.t 22)),
V 24 (.mv (.t 1)),
V 25 (.call 137 [(.t 23),(.t 24)]),
V 1 (.mv (.t 25))])))) (.rg [V 10 (.mv (.t 5)),
V 11 (.bin .add (.t 10) (.k (.c (.i 1)))),
V 5 (.mv (.t 11))]))
def vf116c : VC := .seq (.rg [V 4 (.mv (.k (.c (.i 0))))]) (.seq (.seq (.rg [V 5 (.mv (.k (.c (.i 0))))]) (.block 0 (.loop vf116b0))) (.seq (.rg [V 26 (.mv (.t 1)),
V 4 (.mv (.t 26))]) (.ret)))
def vf116 : VF := ⟨vf116c,vf116v,[(4,none)]⟩
theorem ok116 : chkF Try.prog Try.f116 vf116 = true := by kernel_rfl
theorem dr116 : drawsB vf116.body = true := by kernel_rfl
/-- loop.example/g00192/laws.markInsS -/
def vf117v : List Nat := [0,1,4,5,9]
def vf117b0 : VC := .seq (.seq (.rg [V 6 (.mv (.t 5)),
V 7 (.mv (.t 0)),
V 8 (.len (.t 7)),
V 9 (.bin .lt (.t 6) (.t 8))]) (.cond (.t 9) (.skip) (.exit 0))) (.seq (.block 1 (.seq (.rg [V 12 (.mv (.t 0)),
V 13 (.mv (.t 5)),
V 14 (.mv (.t 1)),
V 15 (.idx 5 (.t 12) (.t 13)),
V 16 (.fad 0 (.t 15)),
Vn (.st 1 (.t 16) (.t 14))]) (.seq (.rg [V 17 (.mv (.t 1)),
V 18 (.bin .add (.t 17) (.k (.c (.i 1)))),
V 1 (.mv (.t 18))]) (.seq (.rg [V 19 (.mv (.t 0)),
V 20 (.mv (.t 5)),
V 21 (.mv (.t 1)),
V 22 (.idx 5 (.t 19) (.t 20)),
V 23 (.fad 1 (.t 22)),
Vn (.st 1 (.t 23) (.t 21))]) (.seq (.rg [V 24 (.mv (.t 1)),
V 25 (.bin .add (.t 24) (.k (.c (.i 1)))),
V 1 (.mv (.t 25))]) (.seq (.rg [V 26 (.mv (.t 0)),
V 27 (.mv (.t 5)),
V 28 (.mv (.t 1)),
V 29 (.idx 5 (.t 26) (.t 27)),
V 30 (.fad 2 (.t 29)),
Vn (.st 1 (.t 30) (.t 28))]) (.seq (.rg [V 31 (.mv (.t 1)),
V 32 (.bin .add (.t 31) (.k (.c (.i 1)))),
V 1 (.mv (.t 32))]) (.seq (.rg [V 33 (.mv (.t 0)),
V 34 (.mv (.t 5)),
V 35 (.mv (.t 1)),
V 36 (.idx 5 (.t 33) (.t 34)),
V 37 (.fad 3 (.t 36)),
Vn (.st 1 (.t 37) (.t 35))]) (.seq (.rg [V 38 (.mv (.t 1)),
V 39 (.bin .add (.t 38) (.k (.c (.i 1)))),
V 1 (.mv (.t 39))]) (.seq (.rg [V 40 (.mv (.t 0)),
V 41 (.mv (.t 5)),
V 42 (.mv (.t 1)),
V 43 (.idx 5 (.t 40) (.t 41)),
V 44 (.fad 4 (.t 43)),
Vn (.st 1 (.t 44) (.t 42))]) (.rg [V 45 (.mv (.t 1)),
V 46 (.bin .add (.t 45) (.k (.c (.i 1)))),
V 1 (.mv (.t 46))]))))))))))) (.rg [V 10 (.mv (.t 5)),
V 11 (.bin .add (.t 10) (.k (.c (.i 1)))),
V 5 (.mv (.t 11))]))
def vf117c : VC := .seq (.rg [V 4 (.mv (.k (.c (.i 0))))]) (.seq (.seq (.rg [V 5 (.mv (.k (.c (.i 0))))]) (.block 0 (.loop vf117b0))) (.seq (.rg [V 47 (.mv (.t 1)),
V 4 (.mv (.t 47))]) (.ret)))
def vf117 : VF := ⟨vf117c,vf117v,[(4,none)]⟩
theorem ok117 : chkF Try.prog Try.f117 vf117 = true := by kernel_rfl
theorem dr117 : drawsB vf117.body = true := by kernel_rfl
/-- slices.Containsintint -/
def vf118v : List Nat := [0,1,4]
def vf118c : VC := .seq (.rg [V 4 (.mv (.k (.c (.b false))))]) (.seq (.rg [V 5 (.mv (.t 0)),
V 6 (.mv (.t 1)),
V 7 (.call 138 [(.t 5),(.t 6)]),
V 8 (.bin .ge (.t 7) (.k (.c (.i 0)))),
V 4 (.mv (.t 8))]) (.ret))
def vf118 : VF := ⟨vf118c,vf118v,[(4,none)]⟩
theorem ok118 : chkF Try.prog Try.f118 vf118 = true := by kernel_rfl
theorem dr118 : drawsB vf118.body = true := by kernel_rfl
/-- loop.example/g00192/spec.l3Left -/
def vf119v : List Nat := [0,1,2,3,4,8,9,10,20,30]
def vf119b0 : VC := .seq (.seq (.rg [V 17 (.mv (.t 10)),
V 18 (.mv (.t 9)),
V 19 (.len (.t 18)),
V 20 (.bin .lt (.t 17) (.t 19))]) (.cond (.t 20) (.skip) (.exit 0))) (.seq (.block 1 (.seq (.rg [V 23 (.mv (.t 2)),
V 24 (.mv (.t 9)),
V 25 (.mv (.t 10)),
V 26 (.idx 1 (.t 24) (.t 25)),
V 27 (.ld none (.t 26)),
V 28 (.idx 1 (.t 23) (.t 27)),
V 29 (.ld none (.t 28)),
V 30 (.not (.t 29))]) (.cond (.t 30) (.rd [V 31 (.ld (some 2) (.t 4)),
V 32 (.mv (.t 9)),
V 33 (.mv (.t 10)),
Vd [1,2] (V 34 (.idx 1 (.t 32) (.t 33))),
Vd [3] (V 35 (.ld none (.t 34))),
V 36 (.mv (.t 2)),
V 37 (.mv (.t 3)),
Vd [0,4,5,6] (V 38 (.call 119 [(.t 31),(.t 35),(.t 36),(.t 37)])),
Vd [7] (V 3 (.mv (.t 38)))]) (.skip)))) (.rg [V 21 (.mv (.t 10)),
V 22 (.bin .add (.t 21) (.k (.c (.i 1)))),
V 10 (.mv (.t 22))]))
def vf119c : VC := .seq (.rg [V 4 (.box (.t 0)),
V 8 (.mv (.k (.c .ns)))]) (.seq (.rg [V 11 (.mv (.t 2)),
V 12 (.mv (.t 1)),
V 13 (.idx 1 (.t 11) (.t 12)),
Vn (.st 1 (.t 13) (.k (.c (.b true))))]) (.seq (.rg [V 14 (.ld (some 2) (.t 4)),
V 15 (.mv (.t 1)),
V 16 (.call 83 [(.t 14),(.t 15)]),
V 9 (.mv (.t 16))]) (.seq (.seq (.rg [V 10 (.mv (.k (.c (.i 0))))]) (.block 0 (.loop vf119b0))) (.seq (.rg [V 39 (.mv (.t 3)),
V 40 (.mv (.t 1)),
V 41 (.bsl 1 [.i 0] 1 [(0,1,(.t 40))]),
V 42 (.app 1 (.t 39) (.t 41)),
V 8 (.mv (.t 42))]) (.ret)))))
def vf119 : VF := ⟨vf119c,vf119v,[(8,none)]⟩
theorem ok119 : chkF Try.prog Try.f119 vf119 = true := by kernel_rfl
theorem dr119 : drawsB vf119.body = true := by kernel_rfl
/-- loop.example/g00192/spec.l4Without -/
def vf120v : List Nat := [0,1,2,4,5,11]
def vf120c : VC := .seq (.rg [V 2 (.box (.t 0)),
V 4 (.mv (.k (.c .ns)))]) (.seq (.rg [V 6 (.fad 0 (.t 2)),
V 7 (.ld none (.t 6)),
V 8 (.len (.t 7)),
V 9 (.mks 1 [.b false] (.t 8)),
V 5 (.mv (.t 9))]) (.seq (.seq (.rg [V 10 (.mv (.t 1)),
V 11 (.bin .eq (.t 10) (.k (.c (.i 0))))]) (.cond (.t 11) (.seq (.rg [V 12 (.mv (.t 5)),
V 4 (.mv (.t 12))]) (.ret)) (.skip))) (.seq (.rg [V 13 (.mv (.t 5)),
V 14 (.mv (.t 1)),
V 15 (.idx 1 (.t 13) (.t 14)),
Vn (.st 1 (.t 15) (.k (.c (.b true))))]) (.seq (.rg [V 16 (.ld (some 2) (.t 2)),
V 17 (.mv (.t 5)),
V 18 (.bsl 1 [.i 0] 0 []),
V 19 (.call 119 [(.t 16),(.k (.c (.i 0))),(.t 17),(.t 18)])]) (.seq (.rg [V 20 (.mv (.t 5)),
V 21 (.mv (.t 1)),
V 22 (.idx 1 (.t 20) (.t 21)),
Vn (.st 1 (.t 22) (.k (.c (.b false))))]) (.seq (.rg [V 23 (.mv (.t 5)),
V 4 (.mv (.t 23))]) (.ret)))))))
def vf120 : VF := ⟨vf120c,vf120v,[(4,none)]⟩
theorem ok120 : chkF Try.prog Try.f120 vf120 = true := by kernel_rfl
theorem dr120 : drawsB vf120.body = true := by kernel_rfl
/-- loop.example/g00192/impl.reachedWithout -/
def vf121v : List Nat := [0,1,2,4,5,11]
def vf121c : VC := .seq (.rg [V 2 (.box (.t 0)),
V 4 (.mv (.k (.c .ns)))]) (.seq (.rg [V 6 (.fad 0 (.t 2)),
V 7 (.ld none (.t 6)),
V 8 (.len (.t 7)),
V 9 (.mks 1 [.b false] (.t 8)),
V 5 (.mv (.t 9))]) (.seq (.seq (.rg [V 10 (.mv (.t 1)),
V 11 (.bin .eq (.t 10) (.k (.c (.i 0))))]) (.cond (.t 11) (.seq (.rg [V 12 (.mv (.t 5)),
V 4 (.mv (.t 12))]) (.ret)) (.skip))) (.seq (.rg [V 13 (.mv (.t 5)),
V 14 (.mv (.t 1)),
V 15 (.idx 1 (.t 13) (.t 14)),
Vn (.st 1 (.t 15) (.k (.c (.b true))))]) (.seq (.rg [V 16 (.ld (some 2) (.t 2)),
V 17 (.mv (.t 5)),
V 18 (.call 123 [(.t 16),(.k (.c (.i 0))),(.t 17),(.k (.c .ns))])]) (.seq (.rg [V 19 (.mv (.t 5)),
V 20 (.mv (.t 1)),
V 21 (.idx 1 (.t 19) (.t 20)),
Vn (.st 1 (.t 21) (.k (.c (.b false))))]) (.seq (.rg [V 22 (.mv (.t 5)),
V 4 (.mv (.t 22))]) (.ret)))))))
def vf121 : VF := ⟨vf121c,vf121v,[(4,none)]⟩
theorem ok121 : chkF Try.prog Try.f121 vf121 = true := by kernel_rfl
theorem dr121 : drawsB vf121.body = true := by kernel_rfl
/-- slices.IndexFuncintint -/
def vf122v : List Nat := [0,1,4,5,7,8,9,16]
def vf122b0 : VC := .seq (.rg [V 9 (.bin .lt (.t 8) (.t 7))]) (.seq (.cond (.t 9) (.skip) (.exit 0)) (.seq (.block 1 (.seq (.rg [V 10 (.mv (.t 8)),
V 5 (.mv (.t 10))]) (.seq (.rg [V 11 (.mv (.t 1)),
V 12 (.mv (.t 0)),
V 13 (.mv (.t 5)),
V 14 (.idx 1 (.t 12) (.t 13)),
V 15 (.ld none (.t 14)),
V 16 (.clv (.t 11) [(.t 15)])]) (.cond (.t 16) (.seq (.rg [V 17 (.mv (.t 5)),
V 4 (.mv (.t 17))]) (.ret)) (.skip))))) (.rg [V 18 (.bin .add (.t 8) (.k (.c (.i 1)))),
V 8 (.mv (.t 18))])))
def vf122c : VC := .seq (.rg [V 4 (.mv (.k (.c (.i 0))))]) (.seq (.seq (.rg [V 6 (.mv (.t 0)),
V 7 (.len (.t 6)),
V 8 (.mv (.k (.c (.i 0))))]) (.block 0 (.loop vf122b0))) (.seq (.rg [V 4 (.mv (.k (.c (.i (-1)))))]) (.ret)))
def vf122 : VF := ⟨vf122c,vf122v,[(4,none)]⟩
theorem ok122 : chkF Try.prog Try.f122 vf122 = true := by kernel_rfl
theorem dr122 : drawsB vf122.body = true := by kernel_rfl
/-- loop.example/g00192/impl.walk -/
def vf123v : List Nat := [0,1,2,3,4,8,10,16,17,18,19,26]
def vf123b0 : VC := .seq (.rg [V 19 (.bin .lt (.t 18) (.t 17))]) (.seq (.cond (.t 19) (.skip) (.exit 0)) (.seq (.block 1 (.seq (.rg [V 20 (.idx 1 (.t 16) (.t 18)),
V 21 (.ld none (.t 20)),
V 10 (.mv (.t 21))]) (.seq (.rg [V 22 (.mv (.t 2)),
V 23 (.mv (.t 10)),
V 24 (.idx 1 (.t 22) (.t 23)),
V 25 (.ld none (.t 24)),
V 26 (.not (.t 25))]) (.cond (.t 26) (.rg [V 27 (.ld (some 2) (.t 4)),
V 28 (.mv (.t 10)),
V 29 (.mv (.t 2)),
V 30 (.mv (.t 3)),
V 31 (.call 123 [(.t 27),(.t 28),(.t 29),(.t 30)]),
V 3 (.mv (.t 31))]) (.skip))))) (.rg [V 32 (.bin .add (.t 18) (.k (.c (.i 1)))),
V 18 (.mv (.t 32))])))
def vf123c : VC := .seq (.rg [V 4 (.box (.t 0)),
V 8 (.mv (.k (.c .ns)))]) (.seq (.rg [V 11 (.mv (.t 2)),
V 12 (.mv (.t 1)),
V 13 (.idx 1 (.t 11) (.t 12)),
Vn (.st 1 (.t 13) (.k (.c (.b true))))]) (.seq (.seq (.rg [V 14 (.ld (some 2) (.t 4)),
V 15 (.mv (.t 1)),
V 16 (.call 85 [(.t 14),(.t 15)]),
V 17 (.len (.t 16)),
V 18 (.mv (.k (.c (.i 0))))]) (.block 0 (.loop vf123b0))) (.seq (.rg [V 33 (.mv (.t 3)),
V 34 (.mv (.t 1)),
V 35 (.bsl 1 [.i 0] 1 [(0,1,(.t 34))]),
V 36 (.app 1 (.t 33) (.t 35)),
V 8 (.mv (.t 36))]) (.ret))))
def vf123 : VF := ⟨vf123c,vf123v,[(8,none)]⟩
theorem ok123 : chkF Try.prog Try.f123 vf123 = true := by kernel_rfl
theorem dr123 : drawsB vf123.body = true := by kernel_rfl
/-- slices.Reverseintint -/
def vf124v : List Nat := [0,2,3,9]
def vf124b0 : VC := .seq (.seq (.rg [V 7 (.mv (.t 2)),
V 8 (.mv (.t 3)),
V 9 (.bin .lt (.t 7) (.t 8))]) (.cond (.t 9) (.skip) (.exit 0))) (.seq (.block 1 (.rd [V 14 (.mv (.t 0)),
V 15 (.mv (.t 2)),
V 16 (.mv (.t 0)),
V 17 (.mv (.t 3)),
V 18 (.mv (.t 0)),
V 19 (.mv (.t 3)),
Vd [4,5] (V 20 (.idx 1 (.t 18) (.t 19))),
Vd [6] (V 21 (.ld none (.t 20))),
V 22 (.mv (.t 0)),
V 23 (.mv (.t 2)),
Vd [8,9] (V 24 (.idx 1 (.t 22) (.t 23))),
Vd [10] (V 25 (.ld none (.t 24))),
Vd [0,1,7,11] (V 26 (.idx 1 (.t 14) (.t 15))),
Vd [12] (Vn (.st 1 (.t 26) (.t 21))),
Vd [2,3,13] (V 27 (.idx 1 (.t 16) (.t 17))),
Vd [14] (Vn (.st 1 (.t 27) (.t 25)))])) (.rg [V 10 (.mv (.t 2)),
V 11 (.bin .add (.t 10) (.k (.c (.i 1)))),
V 12 (.mv (.t 3)),
V 13 (.bin .sub (.t 12) (.k (.c (.i 1)))),
V 2 (.mv (.t 11)),
V 3 (.mv (.t 13))]))
def vf124c : VC := .seq (.rg [V 4 (.mv (.t 0)),
V 5 (.len (.t 4)),
V 6 (.bin .sub (.t 5) (.k (.c (.i 1)))),
V 2 (.mv (.k (.c (.i 0)))),
V 3 (.mv (.t 6))]) (.block 0 (.loop vf124b0))
def vf124 : VF := ⟨vf124c,vf124v,[]⟩
theorem ok124 : chkF Try.prog Try.f124 vf124 = true := by kernel_rfl
theorem dr124 : drawsB vf124.body = true := by kernel_rfl
/-- loop.example/g00192/laws.szPhiS -/
def vf125v : List Nat := [0,1,4,5,11,15,25]
def vf125b0 : VC := .seq (.seq (.rg [V 12 (.mv (.t 5)),
V 13 (.mv (.t 0)),
V 14 (.len (.t 13)),
V 15 (.bin .lt (.t 12) (.t 14))]) (.cond (.t 15) (.skip) (.exit 0))) (.seq (.block 1 (.seq (.rg [V 18 (.mv (.t 0)),
V 19 (.mv (.t 5)),
V 20 (.idx 2 (.t 18) (.t 19)),
V 21 (.ld (some 2) (.t 20)),
V 22 (.mv (.t 1)),
V 23 (.call 139 [(.t 21),(.t 22)]),
V 1 (.mv (.t 23))]) (.seq (.rg [V 24 (.mv (.t 1)),
V 25 (.bin .lt (.t 24) (.k (.c (.i 0))))]) (.cond (.t 25) (.seq (.rg [V 4 (.mv (.k (.c (.i (-1)))))]) (.ret)) (.skip))))) (.rg [V 16 (.mv (.t 5)),
V 17 (.bin .add (.t 16) (.k (.c (.i 1)))),
V 5 (.mv (.t 17))]))
def vf125c : VC := .seq (.rg [V 4 (.mv (.k (.c (.i 0))))]) (.seq (.rg [V 6 (.mv (.t 1)),
V 7 (.mv (.t 0)),
V 8 (.len (.t 7)),
V 9 (.bin .sub (.t 6) (.t 8)),
V 1 (.mv (.t 9))]) (.seq (.seq (.rg [V 10 (.mv (.t 1)),
V 11 (.bin .lt (.t 10) (.k (.c (.i 0))))]) (.cond (.t 11) (.seq (.rg [V 4 (.mv (.k (.c (.i (-1)))))]) (.ret)) (.skip))) (.seq (.seq (.rg [V 5 (.mv (.k (.c (.i 0))))]) (.block 0 (.loop vf125b0))) (.seq (.rg [V 26 (.mv (.t 1)),
V 4 (.mv (.t 26))]) (.ret)))))
def vf125 : VF := ⟨vf125c,vf125v,[(4,none)]⟩
theorem ok125 : chkF Try.prog Try.f125 vf125 = true := by kernel_rfl
theorem dr125 : drawsB vf125.body = true := by kernel_rfl
/-- loop.example/g00192/laws.szInsS -/
def vf126v : List Nat := [0,1,4,10]
def vf126c : VC := .seq (.rg [V 4 (.mv (.k (.c (.i 0))))]) (.seq (.rg [V 5 (.mv (.t 1)),
V 6 (.mv (.t 0)),
V 7 (.len (.t 6)),
V 8 (.bin .sub (.t 5) (.t 7)),
V 1 (.mv (.t 8))]) (.seq (.seq (.rg [V 9 (.mv (.t 1)),
V 10 (.bin .lt (.t 9) (.k (.c (.i 0))))]) (.cond (.t 10) (.seq (.rg [V 4 (.mv (.k (.c (.i (-1)))))]) (.ret)) (.skip))) (.seq (.rg [V 11 (.mv (.t 1)),
V 4 (.mv (.t 11))]) (.ret))))
def vf126 : VF := ⟨vf126c,vf126v,[(4,none)]⟩
theorem ok126 : chkF Try.prog Try.f126 vf126 = true := by kernel_rfl
theorem dr126 : drawsB vf126.body = true := by kernel_rfl
/-- loop.example/g00192/laws.toPhiS -/
def vf127v : List Nat := [0,2,3,4,11]
def vf127b0 : VC := .seq (.seq (.rg [V 8 (.mv (.t 4)),
V 9 (.mv (.t 0)),
V 10 (.len (.t 9)),
V 11 (.bin .lt (.t 8) (.t 10))]) (.cond (.t 11) (.skip) (.exit 0))) (.seq (.block 1 (.rg [V 14 (.mv (.t 3)),
V 15 (.mv (.t 4)),
V 16 (.mv (.t 0)),
V 17 (.mv (.t 4)),
V 18 (.idx 2 (.t 16) (.t 17)),
V 19 (.ld (some 2) (.t 18)),
V 20 (.call 140 [(.t 19)]),
V 21 (.idx 2 (.t 14) (.t 15)),
Vn (.st 2 (.t 21) (.t 20))])) (.rg [V 12 (.mv (.t 4)),
V 13 (.bin .add (.t 12) (.k (.c (.i 1)))),
V 4 (.mv (.t 13))]))
def vf127c : VC := .seq (.rg [V 2 (.mv (.k (.c .ns)))]) (.seq (.rg [V 5 (.mv (.t 0)),
V 6 (.len (.t 5)),
V 7 (.mks 2 [.i 0,.ns] (.t 6)),
V 3 (.mv (.t 7))]) (.seq (.seq (.rg [V 4 (.mv (.k (.c (.i 0))))]) (.block 0 (.loop vf127b0))) (.seq (.rg [V 22 (.mv (.t 3)),
V 2 (.mv (.t 22))]) (.ret))))
def vf127 : VF := ⟨vf127c,vf127v,[(2,none)]⟩
theorem ok127 : chkF Try.prog Try.f127 vf127 = true := by kernel_rfl
theorem dr127 : drawsB vf127.body = true := by kernel_rfl
/-- loop.example/g00192/laws.toInsS -/
def vf128v : List Nat := [0,2,3,4,11]
def vf128b0 : VC := .seq (.seq (.rg [V 8 (.mv (.t 4)),
V 9 (.mv (.t 0)),
V 10 (.len (.t 9)),
V 11 (.bin .lt (.t 8) (.t 10))]) (.cond (.t 11) (.skip) (.exit 0))) (.seq (.block 1 (.rg [V 14 (.mv (.t 3)),
V 15 (.mv (.t 4)),
V 16 (.mv (.t 0)),
V 17 (.mv (.t 4)),
V 18 (.idx 5 (.t 16) (.t 17)),
V 19 (.ld (some 5) (.t 18)),
V 20 (.call 141 [(.t 19)]),
V 21 (.idx 5 (.t 14) (.t 15)),
Vn (.st 5 (.t 21) (.t 20))])) (.rg [V 12 (.mv (.t 4)),
V 13 (.bin .add (.t 12) (.k (.c (.i 1)))),
V 4 (.mv (.t 13))]))
def vf128c : VC := .seq (.rg [V 2 (.mv (.k (.c .ns)))]) (.seq (.rg [V 5 (.mv (.t 0)),
V 6 (.len (.t 5)),
V 7 (.mks 5 [.i 0,.i 0,.i 0,.i 0,.i 0] (.t 6)),
V 3 (.mv (.t 7))]) (.seq (.seq (.rg [V 4 (.mv (.k (.c (.i 0))))]) (.block 0 (.loop vf128b0))) (.seq (.rg [V 22 (.mv (.t 3)),
V 2 (.mv (.t 22))]) (.ret))))
def vf128 : VF := ⟨vf128c,vf128v,[(2,none)]⟩
theorem ok128 : chkF Try.prog Try.f128 vf128 = true := by kernel_rfl
theorem dr128 : drawsB vf128.body = true := by kernel_rfl
/-- loop.example/g00192/laws.toTerm -/
def vf129v : List Nat := [0,1,2,3]
def vf129c : VC := .seq (.rg [V 1 (.box (.t 0)),
V 2 (.alloc [.i 0,.i 0,.i 0,.i 0])]) (.seq (.rg [V 3 (.alloc [.i 0,.i 0,.i 0,.i 0])]) (.seq (.rg [V 4 (.fad 0 (.t 1)),
V 5 (.ld none (.t 4)),
V 6 (.fad 0 (.t 3)),
Vn (.st 1 (.t 6) (.t 5))]) (.seq (.rg [V 7 (.fad 1 (.t 1)),
V 8 (.ld none (.t 7)),
V 9 (.fad 1 (.t 3)),
Vn (.st 1 (.t 9) (.t 8))]) (.seq (.rg [V 10 (.fad 2 (.t 1)),
V 11 (.ld none (.t 10)),
V 12 (.fad 2 (.t 3)),
Vn (.st 1 (.t 12) (.t 11))]) (.seq (.rg [V 13 (.fad 3 (.t 1)),
V 14 (.ld none (.t 13)),
V 15 (.fad 3 (.t 3)),
Vn (.st 1 (.t 15) (.t 14))]) (.seq (.rg [V 16 (.ld (some 4) (.t 3)),
Vn (.st 4 (.t 2) (.t 16))]) (.ret)))))))
def vf129 : VF := ⟨vf129c,vf129v,[(2,(some (some 4)))]⟩
theorem ok129 : chkF Try.prog Try.f129 vf129 = true := by kernel_rfl
theorem dr129 : drawsB vf129.body = true := by kernel_rfl
/-- slices.IndexFuncloop.example/g00192/impl.Armloop.example/g00192/impl.Arm -/
def vf130v : List Nat := [0,1,4,5,7,8,9,16]
def vf130b0 : VC := .seq (.rg [V 9 (.bin .lt (.t 8) (.t 7))]) (.seq (.cond (.t 9) (.skip) (.exit 0)) (.seq (.block 1 (.seq (.rg [V 10 (.mv (.t 8)),
V 5 (.mv (.t 10))]) (.seq (.rg [V 11 (.mv (.t 1)),
V 12 (.mv (.t 0)),
V 13 (.mv (.t 5)),
V 14 (.idx 2 (.t 12) (.t 13)),
V 15 (.ld (some 2) (.t 14)),
V 16 (.clv (.t 11) [(.t 15)])]) (.cond (.t 16) (.seq (.rg [V 17 (.mv (.t 5)),
V 4 (.mv (.t 17))]) (.ret)) (.skip))))) (.rg [V 18 (.bin .add (.t 8) (.k (.c (.i 1)))),
V 8 (.mv (.t 18))])))
def vf130c : VC := .seq (.rg [V 4 (.mv (.k (.c (.i 0))))]) (.seq (.seq (.rg [V 6 (.mv (.t 0)),
V 7 (.len (.t 6)),
V 8 (.mv (.k (.c (.i 0))))]) (.block 0 (.loop vf130b0))) (.seq (.rg [V 4 (.mv (.k (.c (.i (-1)))))]) (.ret)))
def vf130 : VF := ⟨vf130c,vf130v,[(4,none)]⟩
theorem ok130 : chkF Try.prog Try.f130 vf130 = true := by kernel_rfl
theorem dr130 : drawsB vf130.body = true := by kernel_rfl
/-- loop.example/g00192/impl.WordOk -/
def vf131v : List Nat := [0,2]
def vf131c : VC := .seq (.rg [V 2 (.mv (.k (.c (.b false))))]) (.seq (.rg [V 3 (.mv (.t 0)),
V 4 (.call 65 [(.t 3),(.k (.c (.i 1))),(.k (.c (.i 10)))]),
V 2 (.mv (.t 4))]) (.ret))
def vf131 : VF := ⟨vf131c,vf131v,[(2,none)]⟩
theorem ok131 : chkF Try.prog Try.f131 vf131 = true := by kernel_rfl
theorem dr131 : drawsB vf131.body = true := by kernel_rfl
/-- loop.example/g00192/laws.eqPhiS -/
def vf132v : List Nat := [0,1,4,5,10,14,26]
def vf132b0 : VC := .seq (.seq (.rg [V 11 (.mv (.t 5)),
V 12 (.mv (.t 0)),
V 13 (.len (.t 12)),
V 14 (.bin .lt (.t 11) (.t 13))]) (.cond (.t 14) (.skip) (.exit 0))) (.seq (.block 1 (.seq (.rd [V 17 (.mv (.t 0)),
V 18 (.mv (.t 5)),
Vd [0,1] (V 19 (.idx 2 (.t 17) (.t 18))),
Vd [2] (V 20 (.ld (some 2) (.t 19))),
V 21 (.mv (.t 1)),
V 22 (.mv (.t 5)),
Vd [4,5] (V 23 (.idx 2 (.t 21) (.t 22))),
Vd [6] (V 24 (.ld (some 2) (.t 23))),
Vd [3,7] (V 25 (.call 142 [(.t 20),(.t 24)])),
Vd [8] (V 26 (.not (.t 25)))]) (.cond (.t 26) (.seq (.rg [V 4 (.mv (.k (.c (.b false))))]) (.ret)) (.skip)))) (.rg [V 15 (.mv (.t 5)),
V 16 (.bin .add (.t 15) (.k (.c (.i 1)))),
V 5 (.mv (.t 16))]))
def vf132c : VC := .seq (.rg [V 4 (.mv (.k (.c (.b false))))]) (.seq (.seq (.rg [V 6 (.mv (.t 0)),
V 7 (.len (.t 6)),
V 8 (.mv (.t 1)),
V 9 (.len (.t 8)),
V 10 (.bin .ne (.t 7) (.t 9))]) (.cond (.t 10) (.seq (.rg [V 4 (.mv (.k (.c (.b false))))]) (.ret)) (.skip))) (.seq (.seq (.rg [V 5 (.mv (.k (.c (.i 0))))]) (.block 0 (.loop vf132b0))) (.seq (.rg [V 4 (.mv (.k (.c (.b true))))]) (.ret))))
def vf132 : VF := ⟨vf132c,vf132v,[(4,none)]⟩
theorem ok132 : chkF Try.prog Try.f132 vf132 = true := by kernel_rfl
theorem dr132 : drawsB vf132.body = true := by kernel_rfl
/-- loop.example/g00192/laws.eqInsS -/
def vf133v : List Nat := [0,1,4,5,10,14,26]
def vf133b0 : VC := .seq (.seq (.rg [V 11 (.mv (.t 5)),
V 12 (.mv (.t 0)),
V 13 (.len (.t 12)),
V 14 (.bin .lt (.t 11) (.t 13))]) (.cond (.t 14) (.skip) (.exit 0))) (.seq (.block 1 (.seq (.rd [V 17 (.mv (.t 0)),
V 18 (.mv (.t 5)),
Vd [0,1] (V 19 (.idx 5 (.t 17) (.t 18))),
Vd [2] (V 20 (.ld (some 5) (.t 19))),
V 21 (.mv (.t 1)),
V 22 (.mv (.t 5)),
Vd [4,5] (V 23 (.idx 5 (.t 21) (.t 22))),
Vd [6] (V 24 (.ld (some 5) (.t 23))),
Vd [3,7] (V 25 (.call 143 [(.t 20),(.t 24)])),
Vd [8] (V 26 (.not (.t 25)))]) (.cond (.t 26) (.seq (.rg [V 4 (.mv (.k (.c (.b false))))]) (.ret)) (.skip)))) (.rg [V 15 (.mv (.t 5)),
V 16 (.bin .add (.t 15) (.k (.c (.i 1)))),
V 5 (.mv (.t 16))]))
def vf133c : VC := .seq (.rg [V 4 (.mv (.k (.c (.b false))))]) (.seq (.seq (.rg [V 6 (.mv (.t 0)),
V 7 (.len (.t 6)),
V 8 (.mv (.t 1)),
V 9 (.len (.t 8)),
V 10 (.bin .ne (.t 7) (.t 9))]) (.cond (.t 10) (.seq (.rg [V 4 (.mv (.k (.c (.b false))))]) (.ret)) (.skip))) (.seq (.seq (.rg [V 5 (.mv (.k (.c (.i 0))))]) (.block 0 (.loop vf133b0))) (.seq (.rg [V 4 (.mv (.k (.c (.b true))))]) (.ret))))
def vf133 : VF := ⟨vf133c,vf133v,[(4,none)]⟩
theorem ok133 : chkF Try.prog Try.f133 vf133 = true := by kernel_rfl
theorem dr133 : drawsB vf133.body = true := by kernel_rfl
/-- loop.example/g00192/laws.eqTerm -/
def vf134v : List Nat := [0,1,2,3,4,9,14,19,24]
def vf134c : VC := .seq (.rg [V 2 (.box (.t 0)),
V 3 (.box (.t 1)),
V 4 (.mv (.k (.c (.b false))))]) (.seq (.seq (.rg [V 5 (.fad 0 (.t 2)),
V 6 (.ld none (.t 5)),
V 7 (.fad 0 (.t 3)),
V 8 (.ld none (.t 7)),
V 9 (.bin .ne (.t 6) (.t 8))]) (.cond (.t 9) (.seq (.rg [V 4 (.mv (.k (.c (.b false))))]) (.ret)) (.skip))) (.seq (.seq (.rg [V 10 (.fad 1 (.t 2)),
V 11 (.ld none (.t 10)),
V 12 (.fad 1 (.t 3)),
V 13 (.ld none (.t 12)),
V 14 (.bin .ne (.t 11) (.t 13))]) (.cond (.t 14) (.seq (.rg [V 4 (.mv (.k (.c (.b false))))]) (.ret)) (.skip))) (.seq (.seq (.rg [V 15 (.fad 2 (.t 2)),
V 16 (.ld none (.t 15)),
V 17 (.fad 2 (.t 3)),
V 18 (.ld none (.t 17)),
V 19 (.bin .ne (.t 16) (.t 18))]) (.cond (.t 19) (.seq (.rg [V 4 (.mv (.k (.c (.b false))))]) (.ret)) (.skip))) (.seq (.seq (.rg [V 20 (.fad 3 (.t 2)),
V 21 (.ld none (.t 20)),
V 22 (.fad 3 (.t 3)),
V 23 (.ld none (.t 22)),
V 24 (.bin .ne (.t 21) (.t 23))]) (.cond (.t 24) (.seq (.rg [V 4 (.mv (.k (.c (.b false))))]) (.ret)) (.skip))) (.seq (.rg [V 4 (.mv (.k (.c (.b true))))]) (.ret))))))
def vf134 : VF := ⟨vf134c,vf134v,[(4,none)]⟩
theorem ok134 : chkF Try.prog Try.f134 vf134 = true := by kernel_rfl
theorem dr134 : drawsB vf134.body = true := by kernel_rfl
/-- loop.example/g00192/spec.l2Makes -/
def vf135v : List Nat := [0,2]
def vf135c : VC := .seq (.rg [V 2 (.mv (.k (.c (.b false))))]) (.seq (.rg [V 3 (.mv (.t 0)),
V 4 (.call 105 [(.t 3)]),
V 5 (.mv (.t 4)),
Vg 6 5 false (.mv (.t 0)),
Vg 7 5 false (.bin .eq (.t 6) (.k (.c (.i 20)))),
V 8 (.pick (.t 5) (.k (.c (.b true))) (.t 7)),
V 9 (.mv (.t 8)),
Vg 10 9 false (.mv (.t 0)),
Vg 11 9 false (.bin .eq (.t 10) (.k (.c (.i 21)))),
V 12 (.pick (.t 9) (.k (.c (.b true))) (.t 11)),
V 13 (.mv (.t 12)),
Vg 14 13 false (.mv (.t 0)),
Vg 15 13 false (.bin .eq (.t 14) (.k (.c (.i 24)))),
V 16 (.pick (.t 13) (.k (.c (.b true))) (.t 15)),
V 17 (.mv (.t 16)),
Vg 18 17 false (.mv (.t 0)),
Vg 19 17 false (.bin .eq (.t 18) (.k (.c (.i 25)))),
V 20 (.pick (.t 17) (.k (.c (.b true))) (.t 19)),
V 2 (.mv (.t 20))]) (.ret))
def vf135 : VF := ⟨vf135c,vf135v,[(2,none)]⟩
theorem ok135 : chkF Try.prog Try.f135 vf135 = true := by kernel_rfl
theorem dr135 : drawsB vf135.body = true := by kernel_rfl
/-- slices.Indexbytebyte -/
def vf136v : List Nat := [0,1,4,5,7,8,9,16]
def vf136b0 : VC := .seq (.rg [V 9 (.bin .lt (.t 8) (.t 7))]) (.seq (.cond (.t 9) (.skip) (.exit 0)) (.seq (.block 1 (.seq (.rg [V 10 (.mv (.t 8)),
V 5 (.mv (.t 10))]) (.seq (.rg [V 11 (.mv (.t 1)),
V 12 (.mv (.t 0)),
V 13 (.mv (.t 5)),
V 14 (.idx 1 (.t 12) (.t 13)),
V 15 (.ld none (.t 14)),
V 16 (.bin .eq (.t 11) (.t 15))]) (.cond (.t 16) (.seq (.rg [V 17 (.mv (.t 5)),
V 4 (.mv (.t 17))]) (.ret)) (.skip))))) (.rg [V 18 (.bin .add (.t 8) (.k (.c (.i 1)))),
V 8 (.mv (.t 18))])))
def vf136c : VC := .seq (.rg [V 4 (.mv (.k (.c (.i 0))))]) (.seq (.seq (.rg [V 6 (.mv (.t 0)),
V 7 (.len (.t 6)),
V 8 (.mv (.k (.c (.i 0))))]) (.block 0 (.loop vf136b0))) (.seq (.rg [V 4 (.mv (.k (.c (.i (-1)))))]) (.ret)))
def vf136 : VF := ⟨vf136c,vf136v,[(4,none)]⟩
theorem ok136 : chkF Try.prog Try.f136 vf136 = true := by kernel_rfl
theorem dr136 : drawsB vf136.body = true := by kernel_rfl
/-- loop.example/g00192/laws.markArmS -/
def vf137v : List Nat := [0,1,4,5,9]
def vf137b0 : VC := .seq (.seq (.rg [V 6 (.mv (.t 5)),
V 7 (.mv (.t 0)),
V 8 (.len (.t 7)),
V 9 (.bin .lt (.t 6) (.t 8))]) (.cond (.t 9) (.skip) (.exit 0))) (.seq (.block 1 (.seq (.rg [V 12 (.mv (.t 0)),
V 13 (.mv (.t 5)),
V 14 (.mv (.t 1)),
V 15 (.idx 2 (.t 12) (.t 13)),
V 16 (.fad 0 (.t 15)),
Vn (.st 1 (.t 16) (.t 14))]) (.seq (.rg [V 17 (.mv (.t 1)),
V 18 (.bin .add (.t 17) (.k (.c (.i 1)))),
V 1 (.mv (.t 18))]) (.seq (.rg [V 19 (.mv (.t 0)),
V 20 (.mv (.t 5)),
V 21 (.mv (.t 1)),
V 22 (.idx 2 (.t 19) (.t 20)),
V 23 (.fad 1 (.t 22)),
Vn (.st 1 (.t 23) (.t 21))]) (.rg [V 24 (.mv (.t 1)),
V 25 (.bin .add (.t 24) (.k (.c (.i 1)))),
V 1 (.mv (.t 25))]))))) (.rg [V 10 (.mv (.t 5)),
V 11 (.bin .add (.t 10) (.k (.c (.i 1)))),
V 5 (.mv (.t 11))]))
def vf137c : VC := .seq (.rg [V 4 (.mv (.k (.c (.i 0))))]) (.seq (.seq (.rg [V 5 (.mv (.k (.c (.i 0))))]) (.block 0 (.loop vf137b0))) (.seq (.rg [V 26 (.mv (.t 1)),
V 4 (.mv (.t 26))]) (.ret)))
def vf137 : VF := ⟨vf137c,vf137v,[(4,none)]⟩
theorem ok137 : chkF Try.prog Try.f137 vf137 = true := by kernel_rfl
theorem dr137 : drawsB vf137.body = true := by kernel_rfl
/-- slices.Indexintint -/
def vf138v : List Nat := [0,1,4,5,7,8,9,16]
def vf138b0 : VC := .seq (.rg [V 9 (.bin .lt (.t 8) (.t 7))]) (.seq (.cond (.t 9) (.skip) (.exit 0)) (.seq (.block 1 (.seq (.rg [V 10 (.mv (.t 8)),
V 5 (.mv (.t 10))]) (.seq (.rg [V 11 (.mv (.t 1)),
V 12 (.mv (.t 0)),
V 13 (.mv (.t 5)),
V 14 (.idx 1 (.t 12) (.t 13)),
V 15 (.ld none (.t 14)),
V 16 (.bin .eq (.t 11) (.t 15))]) (.cond (.t 16) (.seq (.rg [V 17 (.mv (.t 5)),
V 4 (.mv (.t 17))]) (.ret)) (.skip))))) (.rg [V 18 (.bin .add (.t 8) (.k (.c (.i 1)))),
V 8 (.mv (.t 18))])))
def vf138c : VC := .seq (.rg [V 4 (.mv (.k (.c (.i 0))))]) (.seq (.seq (.rg [V 6 (.mv (.t 0)),
V 7 (.len (.t 6)),
V 8 (.mv (.k (.c (.i 0))))]) (.block 0 (.loop vf138b0))) (.seq (.rg [V 4 (.mv (.k (.c (.i (-1)))))]) (.ret)))
def vf138 : VF := ⟨vf138c,vf138v,[(4,none)]⟩
theorem ok138 : chkF Try.prog Try.f138 vf138 = true := by kernel_rfl
theorem dr138 : drawsB vf138.body = true := by kernel_rfl
/-- loop.example/g00192/laws.szPhi -/
def vf139v : List Nat := [0,1,2,4,10]
def vf139c : VC := .seq (.rg [V 2 (.box (.t 0)),
V 4 (.mv (.k (.c (.i 0))))]) (.seq (.rg [V 5 (.fad 1 (.t 2)),
V 6 (.ld none (.t 5)),
V 7 (.mv (.t 1)),
V 8 (.call 144 [(.t 6),(.t 7)]),
V 1 (.mv (.t 8))]) (.seq (.seq (.rg [V 9 (.mv (.t 1)),
V 10 (.bin .lt (.t 9) (.k (.c (.i 0))))]) (.cond (.t 10) (.seq (.rg [V 4 (.mv (.k (.c (.i (-1)))))]) (.ret)) (.skip))) (.seq (.rg [V 11 (.mv (.t 1)),
V 4 (.mv (.t 11))]) (.ret))))
def vf139 : VF := ⟨vf139c,vf139v,[(4,none)]⟩
theorem ok139 : chkF Try.prog Try.f139 vf139 = true := by kernel_rfl
theorem dr139 : drawsB vf139.body = true := by kernel_rfl
/-- loop.example/g00192/laws.toPhi -/
def vf140v : List Nat := [0,1,2,3]
def vf140c : VC := .seq (.rg [V 1 (.box (.t 0)),
V 2 (.alloc [.i 0,.ns])]) (.seq (.rg [V 3 (.alloc [.i 0,.ns])]) (.seq (.rg [V 4 (.fad 0 (.t 1)),
V 5 (.ld none (.t 4)),
V 6 (.fad 0 (.t 3)),
Vn (.st 1 (.t 6) (.t 5))]) (.seq (.rg [V 7 (.fad 1 (.t 1)),
V 8 (.ld none (.t 7)),
V 9 (.call 145 [(.t 8)]),
V 10 (.fad 1 (.t 3)),
Vn (.st 1 (.t 10) (.t 9))]) (.seq (.rg [V 11 (.ld (some 2) (.t 3)),
Vn (.st 2 (.t 2) (.t 11))]) (.ret)))))
def vf140 : VF := ⟨vf140c,vf140v,[(2,(some (some 2)))]⟩
theorem ok140 : chkF Try.prog Try.f140 vf140 = true := by kernel_rfl
theorem dr140 : drawsB vf140.body = true := by kernel_rfl
/-- loop.example/g00192/laws.toIns -/
def vf141v : List Nat := [0,1,2,3]
def vf141c : VC := .seq (.rg [V 1 (.box (.t 0)),
V 2 (.alloc [.i 0,.i 0,.i 0,.i 0,.i 0])]) (.seq (.rg [V 3 (.alloc [.i 0,.i 0,.i 0,.i 0,.i 0])]) (.seq (.rg [V 4 (.fad 0 (.t 1)),
V 5 (.ld none (.t 4)),
V 6 (.fad 0 (.t 3)),
Vn (.st 1 (.t 6) (.t 5))]) (.seq (.rg [V 7 (.fad 1 (.t 1)),
V 8 (.ld none (.t 7)),
V 9 (.fad 1 (.t 3)),
Vn (.st 1 (.t 9) (.t 8))]) (.seq (.rg [V 10 (.fad 2 (.t 1)),
V 11 (.ld none (.t 10)),
V 12 (.fad 2 (.t 3)),
Vn (.st 1 (.t 12) (.t 11))]) (.seq (.rg [V 13 (.fad 3 (.t 1)),
V 14 (.ld none (.t 13)),
V 15 (.fad 3 (.t 3)),
Vn (.st 1 (.t 15) (.t 14))]) (.seq (.rg [V 16 (.fad 4 (.t 1)),
V 17 (.ld none (.t 16)),
V 18 (.fad 4 (.t 3)),
Vn (.st 1 (.t 18) (.t 17))]) (.seq (.rg [V 19 (.ld (some 5) (.t 3)),
Vn (.st 5 (.t 2) (.t 19))]) (.ret))))))))
def vf141 : VF := ⟨vf141c,vf141v,[(2,(some (some 5)))]⟩
theorem ok141 : chkF Try.prog Try.f141 vf141 = true := by kernel_rfl
theorem dr141 : drawsB vf141.body = true := by kernel_rfl
/-- loop.example/g00192/laws.eqPhi -/
def vf142v : List Nat := [0,1,2,3,4,9,15]
def vf142c : VC := .seq (.rg [V 2 (.box (.t 0)),
V 3 (.box (.t 1)),
V 4 (.mv (.k (.c (.b false))))]) (.seq (.seq (.rg [V 5 (.fad 0 (.t 2)),
V 6 (.ld none (.t 5)),
V 7 (.fad 0 (.t 3)),
V 8 (.ld none (.t 7)),
V 9 (.bin .ne (.t 6) (.t 8))]) (.cond (.t 9) (.seq (.rg [V 4 (.mv (.k (.c (.b false))))]) (.ret)) (.skip))) (.seq (.seq (.rg [V 10 (.fad 1 (.t 2)),
V 11 (.ld none (.t 10)),
V 12 (.fad 1 (.t 3)),
V 13 (.ld none (.t 12)),
V 14 (.call 146 [(.t 11),(.t 13)]),
V 15 (.not (.t 14))]) (.cond (.t 15) (.seq (.rg [V 4 (.mv (.k (.c (.b false))))]) (.ret)) (.skip))) (.seq (.rg [V 4 (.mv (.k (.c (.b true))))]) (.ret))))
def vf142 : VF := ⟨vf142c,vf142v,[(4,none)]⟩
theorem ok142 : chkF Try.prog Try.f142 vf142 = true := by kernel_rfl
theorem dr142 : drawsB vf142.body = true := by kernel_rfl
/-- loop.example/g00192/laws.eqIns -/
def vf143v : List Nat := [0,1,2,3,4,9,14,19,24,29]
def vf143c : VC := .seq (.rg [V 2 (.box (.t 0)),
V 3 (.box (.t 1)),
V 4 (.mv (.k (.c (.b false))))]) (.seq (.seq (.rg [V 5 (.fad 0 (.t 2)),
V 6 (.ld none (.t 5)),
V 7 (.fad 0 (.t 3)),
V 8 (.ld none (.t 7)),
V 9 (.bin .ne (.t 6) (.t 8))]) (.cond (.t 9) (.seq (.rg [V 4 (.mv (.k (.c (.b false))))]) (.ret)) (.skip))) (.seq (.seq (.rg [V 10 (.fad 1 (.t 2)),
V 11 (.ld none (.t 10)),
V 12 (.fad 1 (.t 3)),
V 13 (.ld none (.t 12)),
V 14 (.bin .ne (.t 11) (.t 13))]) (.cond (.t 14) (.seq (.rg [V 4 (.mv (.k (.c (.b false))))]) (.ret)) (.skip))) (.seq (.seq (.rg [V 15 (.fad 2 (.t 2)),
V 16 (.ld none (.t 15)),
V 17 (.fad 2 (.t 3)),
V 18 (.ld none (.t 17)),
V 19 (.bin .ne (.t 16) (.t 18))]) (.cond (.t 19) (.seq (.rg [V 4 (.mv (.k (.c (.b false))))]) (.ret)) (.skip))) (.seq (.seq (.rg [V 20 (.fad 3 (.t 2)),
V 21 (.ld none (.t 20)),
V 22 (.fad 3 (.t 3)),
V 23 (.ld none (.t 22)),
V 24 (.bin .ne (.t 21) (.t 23))]) (.cond (.t 24) (.seq (.rg [V 4 (.mv (.k (.c (.b false))))]) (.ret)) (.skip))) (.seq (.seq (.rg [V 25 (.fad 4 (.t 2)),
V 26 (.ld none (.t 25)),
V 27 (.fad 4 (.t 3)),
V 28 (.ld none (.t 27)),
V 29 (.bin .ne (.t 26) (.t 28))]) (.cond (.t 29) (.seq (.rg [V 4 (.mv (.k (.c (.b false))))]) (.ret)) (.skip))) (.seq (.rg [V 4 (.mv (.k (.c (.b true))))]) (.ret)))))))
def vf143 : VF := ⟨vf143c,vf143v,[(4,none)]⟩
theorem ok143 : chkF Try.prog Try.f143 vf143 = true := by kernel_rfl
theorem dr143 : drawsB vf143.body = true := by kernel_rfl
/-- loop.example/g00192/laws.szArmS -/
def vf144v : List Nat := [0,1,4,10]
def vf144c : VC := .seq (.rg [V 4 (.mv (.k (.c (.i 0))))]) (.seq (.rg [V 5 (.mv (.t 1)),
V 6 (.mv (.t 0)),
V 7 (.len (.t 6)),
V 8 (.bin .sub (.t 5) (.t 7)),
V 1 (.mv (.t 8))]) (.seq (.seq (.rg [V 9 (.mv (.t 1)),
V 10 (.bin .lt (.t 9) (.k (.c (.i 0))))]) (.cond (.t 10) (.seq (.rg [V 4 (.mv (.k (.c (.i (-1)))))]) (.ret)) (.skip))) (.seq (.rg [V 11 (.mv (.t 1)),
V 4 (.mv (.t 11))]) (.ret))))
def vf144 : VF := ⟨vf144c,vf144v,[(4,none)]⟩
theorem ok144 : chkF Try.prog Try.f144 vf144 = true := by kernel_rfl
theorem dr144 : drawsB vf144.body = true := by kernel_rfl
/-- loop.example/g00192/laws.toArmS -/
def vf145v : List Nat := [0,2,3,4,11]
def vf145b0 : VC := .seq (.seq (.rg [V 8 (.mv (.t 4)),
V 9 (.mv (.t 0)),
V 10 (.len (.t 9)),
V 11 (.bin .lt (.t 8) (.t 10))]) (.cond (.t 11) (.skip) (.exit 0))) (.seq (.block 1 (.rg [V 14 (.mv (.t 3)),
V 15 (.mv (.t 4)),
V 16 (.mv (.t 0)),
V 17 (.mv (.t 4)),
V 18 (.idx 2 (.t 16) (.t 17)),
V 19 (.ld (some 2) (.t 18)),
V 20 (.call 147 [(.t 19)]),
V 21 (.idx 2 (.t 14) (.t 15)),
Vn (.st 2 (.t 21) (.t 20))])) (.rg [V 12 (.mv (.t 4)),
V 13 (.bin .add (.t 12) (.k (.c (.i 1)))),
V 4 (.mv (.t 13))]))
def vf145c : VC := .seq (.rg [V 2 (.mv (.k (.c .ns)))]) (.seq (.rg [V 5 (.mv (.t 0)),
V 6 (.len (.t 5)),
V 7 (.mks 2 [.i 0,.i 0] (.t 6)),
V 3 (.mv (.t 7))]) (.seq (.seq (.rg [V 4 (.mv (.k (.c (.i 0))))]) (.block 0 (.loop vf145b0))) (.seq (.rg [V 22 (.mv (.t 3)),
V 2 (.mv (.t 22))]) (.ret))))
def vf145 : VF := ⟨vf145c,vf145v,[(2,none)]⟩
theorem ok145 : chkF Try.prog Try.f145 vf145 = true := by kernel_rfl
theorem dr145 : drawsB vf145.body = true := by kernel_rfl
/-- loop.example/g00192/laws.eqArmS -/
def vf146v : List Nat := [0,1,4,5,10,14,26]
def vf146b0 : VC := .seq (.seq (.rg [V 11 (.mv (.t 5)),
V 12 (.mv (.t 0)),
V 13 (.len (.t 12)),
V 14 (.bin .lt (.t 11) (.t 13))]) (.cond (.t 14) (.skip) (.exit 0))) (.seq (.block 1 (.seq (.rd [V 17 (.mv (.t 0)),
V 18 (.mv (.t 5)),
Vd [0,1] (V 19 (.idx 2 (.t 17) (.t 18))),
Vd [2] (V 20 (.ld (some 2) (.t 19))),
V 21 (.mv (.t 1)),
V 22 (.mv (.t 5)),
Vd [4,5] (V 23 (.idx 2 (.t 21) (.t 22))),
Vd [6] (V 24 (.ld (some 2) (.t 23))),
Vd [3,7] (V 25 (.call 148 [(.t 20),(.t 24)])),
Vd [8] (V 26 (.not (.t 25)))]) (.cond (.t 26) (.seq (.rg [V 4 (.mv (.k (.c (.b false))))]) (.ret)) (.skip)))) (.rg [V 15 (.mv (.t 5)),
V 16 (.bin .add (.t 15) (.k (.c (.i 1)))),
V 5 (.mv (.t 16))]))
def vf146c : VC := .seq (.rg [V 4 (.mv (.k (.c (.b false))))]) (.seq (.seq (.rg [V 6 (.mv (.t 0)),
V 7 (.len (.t 6)),
V 8 (.mv (.t 1)),
V 9 (.len (.t 8)),
V 10 (.bin .ne (.t 7) (.t 9))]) (.cond (.t 10) (.seq (.rg [V 4 (.mv (.k (.c (.b false))))]) (.ret)) (.skip))) (.seq (.seq (.rg [V 5 (.mv (.k (.c (.i 0))))]) (.block 0 (.loop vf146b0))) (.seq (.rg [V 4 (.mv (.k (.c (.b true))))]) (.ret))))
def vf146 : VF := ⟨vf146c,vf146v,[(4,none)]⟩
theorem ok146 : chkF Try.prog Try.f146 vf146 = true := by kernel_rfl
theorem dr146 : drawsB vf146.body = true := by kernel_rfl
/-- loop.example/g00192/laws.toArm -/
def vf147v : List Nat := [0,1,2,3]
def vf147c : VC := .seq (.rg [V 1 (.box (.t 0)),
V 2 (.alloc [.i 0,.i 0])]) (.seq (.rg [V 3 (.alloc [.i 0,.i 0])]) (.seq (.rg [V 4 (.fad 0 (.t 1)),
V 5 (.ld none (.t 4)),
V 6 (.fad 0 (.t 3)),
Vn (.st 1 (.t 6) (.t 5))]) (.seq (.rg [V 7 (.fad 1 (.t 1)),
V 8 (.ld none (.t 7)),
V 9 (.fad 1 (.t 3)),
Vn (.st 1 (.t 9) (.t 8))]) (.seq (.rg [V 10 (.ld (some 2) (.t 3)),
Vn (.st 2 (.t 2) (.t 10))]) (.ret)))))
def vf147 : VF := ⟨vf147c,vf147v,[(2,(some (some 2)))]⟩
theorem ok147 : chkF Try.prog Try.f147 vf147 = true := by kernel_rfl
theorem dr147 : drawsB vf147.body = true := by kernel_rfl
/-- loop.example/g00192/laws.eqArm -/
def vf148v : List Nat := [0,1,2,3,4,9,14]
def vf148c : VC := .seq (.rg [V 2 (.box (.t 0)),
V 3 (.box (.t 1)),
V 4 (.mv (.k (.c (.b false))))]) (.seq (.seq (.rg [V 5 (.fad 0 (.t 2)),
V 6 (.ld none (.t 5)),
V 7 (.fad 0 (.t 3)),
V 8 (.ld none (.t 7)),
V 9 (.bin .ne (.t 6) (.t 8))]) (.cond (.t 9) (.seq (.rg [V 4 (.mv (.k (.c (.b false))))]) (.ret)) (.skip))) (.seq (.seq (.rg [V 10 (.fad 1 (.t 2)),
V 11 (.ld none (.t 10)),
V 12 (.fad 1 (.t 3)),
V 13 (.ld none (.t 12)),
V 14 (.bin .ne (.t 11) (.t 13))]) (.cond (.t 14) (.seq (.rg [V 4 (.mv (.k (.c (.b false))))]) (.ret)) (.skip))) (.seq (.rg [V 4 (.mv (.k (.c (.b true))))]) (.ret))))
def vf148 : VF := ⟨vf148c,vf148v,[(4,none)]⟩
theorem ok148 : chkF Try.prog Try.f148 vf148 = true := by kernel_rfl
theorem dr148 : drawsB vf148.body = true := by kernel_rfl
end Go.Proofs.Ytnmnpfdjigpgaaa.Vm
