/- The ideal machine's code for some of the program's functions, each checked against the translated one. No conditions. -/
import Derived.Test.YtgdfgnppeekfjaaGreatChecked
import Derived.Test.YtgdfgnppeekfjaaGreatVmQ
import Derived.Test.YtgdfgnppeekfjaaGreatVmC
namespace Go.Proofs.YtgdfgnppeekfjaaGreat.Vm
set_option linter.unusedVariables false
set_option maxRecDepth 100000
def vf246v : List Nat := [0,1,2,3]
def vf246c : VC := .seq (.rg [V 1 (.box (.t 0)),
V 2 (.alloc [.i 0,.i 0,.i 0,.i 0,.i 0])]) (.seq (.rg [V 3 (.alloc [.i 0,.i 0,.i 0,.i 0,.i 0])]) (.seq (.rg [V 4 (.fad 0 (.t 1)),
V 5 (.ld none (.t 4)),
V 6 (.fad 0 (.t 3)),
Vn (.st 1 (.t 6) (.t 5))]) (.seq (.rg [V 7 (.fad 1 (.t 1)),
V 8 (.ld none (.t 7)),
V 9 (.fad 1 (.t 3)),
Vn (.st 1 (.t 9) (.t 8))]) (.seq (.rg [V 10 (.fad 2 (.t 1)),
V 11 (.ld none (.t 10)),
V 12 (.fad 2 (.t 3)),
Vn (.st 1 (.t 12) (.t 11))]) (.seq (.rg [V 13 (.fad 3 (.t 1)),
V 14 (.ld none (.t 13)),
V 15 (.fad 3 (.t 3)),
Vn (.st 1 (.t 15) (.t 14))]) (.seq (.rg [V 16 (.fad 4 (.t 1)),
V 17 (.ld none (.t 16)),
V 18 (.fad 4 (.t 3)),
Vn (.st 1 (.t 18) (.t 17))]) (.seq (.rg [V 19 (.ld (some 5) (.t 3)),
Vn (.st 5 (.t 2) (.t 19))]) (.ret))))))))
def vf246 : VF := ⟨vf246c,vf246v,[(2,(some (some 5)))]⟩
theorem ok246 : chkF Tryz.prog Tryz.f246 vf246 = true := by kernel_rfl
theorem dr246 : drawsB vf246.body = true := by kernel_rfl
def vf247v : List Nat := [0,1,2,3,4,9,15]
def vf247c : VC := .seq (.rg [V 2 (.box (.t 0)),
V 3 (.box (.t 1)),
V 4 (.mv (.k (.c (.b false))))]) (.seq (.seq (.rg [V 5 (.fad 0 (.t 2)),
V 6 (.ld none (.t 5)),
V 7 (.fad 0 (.t 3)),
V 8 (.ld none (.t 7)),
V 9 (.bin .ne (.t 6) (.t 8))]) (.cond (.t 9) (.seq (.rg [V 4 (.mv (.k (.c (.b false))))]) (.ret)) (.skip))) (.seq (.seq (.rg [V 10 (.fad 1 (.t 2)),
V 11 (.ld none (.t 10)),
V 12 (.fad 1 (.t 3)),
V 13 (.ld none (.t 12)),
V 14 (.call 257 [(.t 11),(.t 13)]),
V 15 (.not (.t 14))]) (.cond (.t 15) (.seq (.rg [V 4 (.mv (.k (.c (.b false))))]) (.ret)) (.skip))) (.seq (.rg [V 4 (.mv (.k (.c (.b true))))]) (.ret))))
def vf247 : VF := ⟨vf247c,vf247v,[(4,none)]⟩
theorem ok247 : chkF Tryz.prog Tryz.f247 vf247 = true := by kernel_rfl
theorem dr247 : drawsB vf247.body = true := by kernel_rfl
def vf248v : List Nat := [0,1,2,3,4,9,14,19,24,29]
def vf248c : VC := .seq (.rg [V 2 (.box (.t 0)),
V 3 (.box (.t 1)),
V 4 (.mv (.k (.c (.b false))))]) (.seq (.seq (.rg [V 5 (.fad 0 (.t 2)),
V 6 (.ld none (.t 5)),
V 7 (.fad 0 (.t 3)),
V 8 (.ld none (.t 7)),
V 9 (.bin .ne (.t 6) (.t 8))]) (.cond (.t 9) (.seq (.rg [V 4 (.mv (.k (.c (.b false))))]) (.ret)) (.skip))) (.seq (.seq (.rg [V 10 (.fad 1 (.t 2)),
V 11 (.ld none (.t 10)),
V 12 (.fad 1 (.t 3)),
V 13 (.ld none (.t 12)),
V 14 (.bin .ne (.t 11) (.t 13))]) (.cond (.t 14) (.seq (.rg [V 4 (.mv (.k (.c (.b false))))]) (.ret)) (.skip))) (.seq (.seq (.rg [V 15 (.fad 2 (.t 2)),
V 16 (.ld none (.t 15)),
V 17 (.fad 2 (.t 3)),
V 18 (.ld none (.t 17)),
V 19 (.bin .ne (.t 16) (.t 18))]) (.cond (.t 19) (.seq (.rg [V 4 (.mv (.k (.c (.b false))))]) (.ret)) (.skip))) (.seq (.seq (.rg [V 20 (.fad 3 (.t 2)),
V 21 (.ld none (.t 20)),
V 22 (.fad 3 (.t 3)),
V 23 (.ld none (.t 22)),
V 24 (.bin .ne (.t 21) (.t 23))]) (.cond (.t 24) (.seq (.rg [V 4 (.mv (.k (.c (.b false))))]) (.ret)) (.skip))) (.seq (.seq (.rg [V 25 (.fad 4 (.t 2)),
V 26 (.ld none (.t 25)),
V 27 (.fad 4 (.t 3)),
V 28 (.ld none (.t 27)),
V 29 (.bin .ne (.t 26) (.t 28))]) (.cond (.t 29) (.seq (.rg [V 4 (.mv (.k (.c (.b false))))]) (.ret)) (.skip))) (.seq (.rg [V 4 (.mv (.k (.c (.b true))))]) (.ret)))))))
def vf248 : VF := ⟨vf248c,vf248v,[(4,none)]⟩
theorem ok248 : chkF Tryz.prog Tryz.f248 vf248 = true := by kernel_rfl
theorem dr248 : drawsB vf248.body = true := by kernel_rfl
def vf255v : List Nat := [0,1,4,10]
def vf255c : VC := .seq (.rg [V 4 (.mv (.k (.c (.i 0))))]) (.seq (.rg [V 5 (.mv (.t 1)),
V 6 (.mv (.t 0)),
V 7 (.len (.t 6)),
V 8 (.bin .sub (.t 5) (.t 7)),
V 1 (.mv (.t 8))]) (.seq (.seq (.rg [V 9 (.mv (.t 1)),
V 10 (.bin .lt (.t 9) (.k (.c (.i 0))))]) (.cond (.t 10) (.seq (.rg [V 4 (.mv (.k (.c (.i (-1)))))]) (.ret)) (.skip))) (.seq (.rg [V 11 (.mv (.t 1)),
V 4 (.mv (.t 11))]) (.ret))))
def vf255 : VF := ⟨vf255c,vf255v,[(4,none)]⟩
theorem ok255 : chkF Tryz.prog Tryz.f255 vf255 = true := by kernel_rfl
theorem dr255 : drawsB vf255.body = true := by kernel_rfl
def vf256v : List Nat := [0,2,3,4,11]
def vf256b0 : VC := .seq (.seq (.rg [V 8 (.mv (.t 4)),
V 9 (.mv (.t 0)),
V 10 (.len (.t 9)),
V 11 (.bin .lt (.t 8) (.t 10))]) (.cond (.t 11) (.skip) (.exit 0))) (.seq (.block 1 (.rg [V 14 (.mv (.t 3)),
V 15 (.mv (.t 4)),
V 16 (.mv (.t 0)),
V 17 (.mv (.t 4)),
V 18 (.idx 2 (.t 16) (.t 17)),
V 19 (.ld (some 2) (.t 18)),
V 20 (.call 259 [(.t 19)]),
V 21 (.idx 2 (.t 14) (.t 15)),
Vn (.st 2 (.t 21) (.t 20))])) (.rg [V 12 (.mv (.t 4)),
V 13 (.bin .add (.t 12) (.k (.c (.i 1)))),
V 4 (.mv (.t 13))]))
def vf256c : VC := .seq (.rg [V 2 (.mv (.k (.c .ns)))]) (.seq (.rg [V 5 (.mv (.t 0)),
V 6 (.len (.t 5)),
V 7 (.mks 2 [.i 0,.i 0] (.t 6)),
V 3 (.mv (.t 7))]) (.seq (.seq (.rg [V 4 (.mv (.k (.c (.i 0))))]) (.block 0 (.loop vf256b0))) (.seq (.rg [V 22 (.mv (.t 3)),
V 2 (.mv (.t 22))]) (.ret))))
def vf256 : VF := ⟨vf256c,vf256v,[(2,none)]⟩
theorem ok256 : chkF Tryz.prog Tryz.f256 vf256 = true := by kernel_rfl
theorem dr256 : drawsB vf256.body = true := by kernel_rfl
def vf257v : List Nat := [0,1,4,5,10,14,26]
def vf257b0 : VC := .seq (.seq (.rg [V 11 (.mv (.t 5)),
V 12 (.mv (.t 0)),
V 13 (.len (.t 12)),
V 14 (.bin .lt (.t 11) (.t 13))]) (.cond (.t 14) (.skip) (.exit 0))) (.seq (.block 1 (.seq (.rd [V 17 (.mv (.t 0)),
V 18 (.mv (.t 5)),
Vd [0,1] (V 19 (.idx 2 (.t 17) (.t 18))),
Vd [2] (V 20 (.ld (some 2) (.t 19))),
V 21 (.mv (.t 1)),
V 22 (.mv (.t 5)),
Vd [4,5] (V 23 (.idx 2 (.t 21) (.t 22))),
Vd [6] (V 24 (.ld (some 2) (.t 23))),
Vd [3,7] (V 25 (.call 260 [(.t 20),(.t 24)])),
Vd [8] (V 26 (.not (.t 25)))]) (.cond (.t 26) (.seq (.rg [V 4 (.mv (.k (.c (.b false))))]) (.ret)) (.skip)))) (.rg [V 15 (.mv (.t 5)),
V 16 (.bin .add (.t 15) (.k (.c (.i 1)))),
V 5 (.mv (.t 16))]))
def vf257c : VC := .seq (.rg [V 4 (.mv (.k (.c (.b false))))]) (.seq (.seq (.rg [V 6 (.mv (.t 0)),
V 7 (.len (.t 6)),
V 8 (.mv (.t 1)),
V 9 (.len (.t 8)),
V 10 (.bin .ne (.t 7) (.t 9))]) (.cond (.t 10) (.seq (.rg [V 4 (.mv (.k (.c (.b false))))]) (.ret)) (.skip))) (.seq (.seq (.rg [V 5 (.mv (.k (.c (.i 0))))]) (.block 0 (.loop vf257b0))) (.seq (.rg [V 4 (.mv (.k (.c (.b true))))]) (.ret))))
def vf257 : VF := ⟨vf257c,vf257v,[(4,none)]⟩
theorem ok257 : chkF Tryz.prog Tryz.f257 vf257 = true := by kernel_rfl
theorem dr257 : drawsB vf257.body = true := by kernel_rfl
def vf259v : List Nat := [0,1,2,3]
def vf259c : VC := .seq (.rg [V 1 (.box (.t 0)),
V 2 (.alloc [.i 0,.i 0])]) (.seq (.rg [V 3 (.alloc [.i 0,.i 0])]) (.seq (.rg [V 4 (.fad 0 (.t 1)),
V 5 (.ld none (.t 4)),
V 6 (.fad 0 (.t 3)),
Vn (.st 1 (.t 6) (.t 5))]) (.seq (.rg [V 7 (.fad 1 (.t 1)),
V 8 (.ld none (.t 7)),
V 9 (.fad 1 (.t 3)),
Vn (.st 1 (.t 9) (.t 8))]) (.seq (.rg [V 10 (.ld (some 2) (.t 3)),
Vn (.st 2 (.t 2) (.t 10))]) (.ret)))))
def vf259 : VF := ⟨vf259c,vf259v,[(2,(some (some 2)))]⟩
theorem ok259 : chkF Tryz.prog Tryz.f259 vf259 = true := by kernel_rfl
theorem dr259 : drawsB vf259.body = true := by kernel_rfl
def vf260v : List Nat := [0,1,2,3,4,9,14]
def vf260c : VC := .seq (.rg [V 2 (.box (.t 0)),
V 3 (.box (.t 1)),
V 4 (.mv (.k (.c (.b false))))]) (.seq (.seq (.rg [V 5 (.fad 0 (.t 2)),
V 6 (.ld none (.t 5)),
V 7 (.fad 0 (.t 3)),
V 8 (.ld none (.t 7)),
V 9 (.bin .ne (.t 6) (.t 8))]) (.cond (.t 9) (.seq (.rg [V 4 (.mv (.k (.c (.b false))))]) (.ret)) (.skip))) (.seq (.seq (.rg [V 10 (.fad 1 (.t 2)),
V 11 (.ld none (.t 10)),
V 12 (.fad 1 (.t 3)),
V 13 (.ld none (.t 12)),
V 14 (.bin .ne (.t 11) (.t 13))]) (.cond (.t 14) (.seq (.rg [V 4 (.mv (.k (.c (.b false))))]) (.ret)) (.skip))) (.seq (.rg [V 4 (.mv (.k (.c (.b true))))]) (.ret))))
def vf260 : VF := ⟨vf260c,vf260v,[(4,none)]⟩
theorem ok260 : chkF Tryz.prog Tryz.f260 vf260 = true := by kernel_rfl
theorem dr260 : drawsB vf260.body = true := by kernel_rfl
end Go.Proofs.YtgdfgnppeekfjaaGreat.Vm
