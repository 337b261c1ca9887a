/- The ideal machine's code for some of the program's functions, each checked against the translated one. No conditions. -/
import Derived.Test.YtgdfgnppeekfjaaGreatChecked
import Derived.Test.YtgdfgnppeekfjaaGreatVmQ
import Derived.Test.YtgdfgnppeekfjaaGreatVmC
namespace Go.Proofs.YtgdfgnppeekfjaaGreat.Vm
set_option linter.unusedVariables false
set_option maxRecDepth 100000
def vf139v : List Nat := [0,1,4,5,7,8,9,16]
def vf139b0 : VC := .seq (.rg [V 9 (.bin .lt (.t 8) (.t 7))]) (.seq (.cond (.t 9) (.skip) (.exit 0)) (.seq (.block 1 (.seq (.rg [V 10 (.mv (.t 8)),
V 5 (.mv (.t 10))]) (.seq (.rg [V 11 (.mv (.t 1)),
V 12 (.mv (.t 0)),
V 13 (.mv (.t 5)),
V 14 (.idx 6 (.t 12) (.t 13)),
V 15 (.ld (some 6) (.t 14)),
V 16 (.clv (.t 11) [(.t 15)])]) (.cond (.t 16) (.seq (.rg [V 17 (.mv (.t 5)),
V 4 (.mv (.t 17))]) (.ret)) (.skip))))) (.rg [V 18 (.bin .add (.t 8) (.k (.c (.i 1)))),
V 8 (.mv (.t 18))])))
def vf139c : VC := .seq (.rg [V 4 (.mv (.k (.c (.i 0))))]) (.seq (.seq (.rg [V 6 (.mv (.t 0)),
V 7 (.len (.t 6)),
V 8 (.mv (.k (.c (.i 0))))]) (.block 0 (.loop vf139b0))) (.seq (.rg [V 4 (.mv (.k (.c (.i (-1)))))]) (.ret)))
def vf139 : VF := ⟨vf139c,vf139v,[(4,none)]⟩
theorem ok139 : chkF Tryz.prog Tryz.f139 vf139 = true := by kernel_rfl
theorem dr139 : drawsB vf139.body = true := by kernel_rfl
def vf140v : List Nat := [0,1,2,6,7]
def vf140c : VC := .seq (.rg [V 6 (.mv (.k (.c (.b false))))]) (.seq (.seq (.rg [V 7 (.mv (.t 1))]) (.cond (.t 7) (.seq (.rg [V 8 (.mv (.t 0)),
V 9 (.bin .ge (.t 8) (.k (.c (.i 0)))),
V 10 (.mv (.t 9)),
Vg 11 10 true (.mv (.t 0)),
Vg 12 10 true (.mv (.t 2)),
Vg 13 10 true (.bin .lt (.t 11) (.t 12)),
V 14 (.pick (.t 10) (.t 13) (.k (.c (.b false)))),
V 6 (.mv (.t 14))]) (.ret)) (.skip))) (.seq (.rg [V 15 (.mv (.t 0)),
V 16 (.bin .eq (.t 15) (.k (.c (.i 0)))),
V 6 (.mv (.t 16))]) (.ret)))
def vf140 : VF := ⟨vf140c,vf140v,[(6,none)]⟩
theorem ok140 : chkF Tryz.prog Tryz.f140 vf140 = true := by kernel_rfl
theorem dr140 : drawsB vf140.body = true := by kernel_rfl
def vf141v : List Nat := [0,1,4,5,7,8,9,16]
def vf141b0 : VC := .seq (.rg [V 9 (.bin .lt (.t 8) (.t 7))]) (.seq (.cond (.t 9) (.skip) (.exit 0)) (.seq (.block 1 (.seq (.rg [V 10 (.mv (.t 8)),
V 5 (.mv (.t 10))]) (.seq (.rg [V 11 (.mv (.t 1)),
V 12 (.mv (.t 0)),
V 13 (.mv (.t 5)),
V 14 (.idx 2 (.t 12) (.t 13)),
V 15 (.ld (some 2) (.t 14)),
V 16 (.clv (.t 11) [(.t 15)])]) (.cond (.t 16) (.seq (.rg [V 17 (.mv (.t 5)),
V 4 (.mv (.t 17))]) (.ret)) (.skip))))) (.rg [V 18 (.bin .add (.t 8) (.k (.c (.i 1)))),
V 8 (.mv (.t 18))])))
def vf141c : VC := .seq (.rg [V 4 (.mv (.k (.c (.i 0))))]) (.seq (.seq (.rg [V 6 (.mv (.t 0)),
V 7 (.len (.t 6)),
V 8 (.mv (.k (.c (.i 0))))]) (.block 0 (.loop vf141b0))) (.seq (.rg [V 4 (.mv (.k (.c (.i (-1)))))]) (.ret)))
def vf141 : VF := ⟨vf141c,vf141v,[(4,none)]⟩
theorem ok141 : chkF Tryz.prog Tryz.f141 vf141 = true := by kernel_rfl
theorem dr141 : drawsB vf141.body = true := by kernel_rfl
def vf142v : List Nat := [0,1,4]
def vf142c : VC := .seq (.rg [V 4 (.mv (.k (.c (.b false))))]) (.seq (.rg [V 5 (.mv (.t 0)),
V 6 (.mv (.t 1)),
V 7 (.call 197 [(.t 5),(.t 6)]),
V 8 (.bin .ge (.t 7) (.k (.c (.i 0)))),
V 4 (.mv (.t 8))]) (.ret))
def vf142 : VF := ⟨vf142c,vf142v,[(4,none)]⟩
theorem ok142 : chkF Tryz.prog Tryz.f142 vf142 = true := by kernel_rfl
theorem dr142 : drawsB vf142.body = true := by kernel_rfl
def vf143v : List Nat := [0,1,2,3]
def vf143c : VC := .seq (.rg [V 2 (.box (.t 0)),
V 3 (.mv (.k (.c (.b false))))]) (.seq (.rg [V 4 (.fad 0 (.t 2)),
V 5 (.ld none (.t 4)),
V 6 (.fad 0 (.t 1)),
V 7 (.ld none (.t 6)),
V 8 (.bin .eq (.t 5) (.t 7)),
V 3 (.mv (.t 8))]) (.ret))
def vf143 : VF := ⟨vf143c,vf143v,[(3,none)]⟩
theorem ok143 : chkF Tryz.prog Tryz.f143 vf143 = true := by kernel_rfl
theorem dr143 : drawsB vf143.body = true := by kernel_rfl
def vf144v : List Nat := [0,2,3,4,5,7,10,12,14]
def vf144c : VC := .seq (.rg [V 2 (.mv (.k (.c (.s ⟨#[]⟩)))),
V 3 (.mv (.k (.c (.b false))))]) (.seq (.seq (.rg [V 4 (.mv (.t 0))]) (.block 0 (.seq (.rg [V 6 (.bin .eq (.t 4) (.k (.c (.i 20)))),
V 5 (.mv (.t 6))]) (.cond (.t 5) (.seq (.rg [V 2 (.mv (.k (.c (.s ⟨#[68,78]⟩)))),
V 3 (.mv (.k (.c (.b true))))]) (.ret)) (.seq (.seq (.rg [V 8 (.bin .eq (.t 4) (.k (.c (.i 21)))),
V 7 (.mv (.t 8))]) (.cond (.t 7) (.skip) (.rg [V 9 (.bin .eq (.t 4) (.k (.c (.i 25)))),
V 7 (.mv (.t 9))]))) (.cond (.t 7) (.seq (.rg [V 2 (.mv (.k (.c (.s ⟨#[68,65]⟩)))),
V 3 (.mv (.k (.c (.b true))))]) (.ret)) (.seq (.rg [V 11 (.bin .eq (.t 4) (.k (.c (.i 22)))),
V 10 (.mv (.t 11))]) (.cond (.t 10) (.seq (.rg [V 2 (.mv (.k (.c (.s ⟨#[65,66]⟩)))),
V 3 (.mv (.k (.c (.b true))))]) (.ret)) (.seq (.rg [V 13 (.bin .eq (.t 4) (.k (.c (.i 23)))),
V 12 (.mv (.t 13))]) (.cond (.t 12) (.seq (.rg [V 2 (.mv (.k (.c (.s ⟨#[65]⟩)))),
V 3 (.mv (.k (.c (.b true))))]) (.ret)) (.seq (.rg [V 15 (.bin .eq (.t 4) (.k (.c (.i 24)))),
V 14 (.mv (.t 15))]) (.cond (.t 14) (.seq (.rg [V 2 (.mv (.k (.c (.s ⟨#[68]⟩)))),
V 3 (.mv (.k (.c (.b true))))]) (.ret)) (.skip))))))))))))) (.seq (.rg [V 16 (.mv (.t 0)),
V 17 (.call 118 [(.t 16)]),
V 2 (.mv (.k (.c (.s ⟨#[68,65,66]⟩)))),
V 3 (.mv (.t 17))]) (.ret)))
def vf144 : VF := ⟨vf144c,vf144v,[(2,none),(3,none)]⟩
theorem ok144 : chkF Tryz.prog Tryz.f144 vf144 = true := by kernel_rfl
theorem dr144 : drawsB vf144.body = true := by kernel_rfl
def vf145v : List Nat := [0,1,4]
def vf145c : VC := .seq (.rg [V 4 (.mv (.k (.c (.b false))))]) (.seq (.rg [V 5 (.mv (.t 0)),
V 6 (.bin .ge (.t 5) (.k (.c (.i 0)))),
V 7 (.mv (.t 6)),
Vg 8 7 true (.mv (.t 0)),
Vg 9 7 true (.mv (.t 1)),
Vg 10 7 true (.bin .lt (.t 8) (.t 9)),
V 11 (.pick (.t 7) (.t 10) (.k (.c (.b false)))),
V 4 (.mv (.t 11))]) (.ret))
def vf145 : VF := ⟨vf145c,vf145v,[(4,none)]⟩
theorem ok145 : chkF Tryz.prog Tryz.f145 vf145 = true := by kernel_rfl
theorem dr145 : drawsB vf145.body = true := by kernel_rfl
def vf147v : List Nat := [0,1,2,3,4,8,10,16,17,18,19,26]
def vf147b0 : VC := .seq (.rg [V 19 (.bin .lt (.t 18) (.t 17))]) (.seq (.cond (.t 19) (.skip) (.exit 0)) (.seq (.block 1 (.seq (.rg [V 20 (.idx 1 (.t 16) (.t 18)),
V 21 (.ld none (.t 20)),
V 10 (.mv (.t 21))]) (.seq (.rg [V 22 (.mv (.t 2)),
V 23 (.mv (.t 10)),
V 24 (.idx 1 (.t 22) (.t 23)),
V 25 (.ld none (.t 24)),
V 26 (.not (.t 25))]) (.cond (.t 26) (.rg [V 27 (.ld (some 2) (.t 4)),
V 28 (.mv (.t 10)),
V 29 (.mv (.t 2)),
V 30 (.mv (.t 3)),
V 31 (.call 147 [(.t 27),(.t 28),(.t 29),(.t 30)]),
V 3 (.mv (.t 31))]) (.skip))))) (.rg [V 32 (.bin .add (.t 18) (.k (.c (.i 1)))),
V 18 (.mv (.t 32))])))
def vf147c : VC := .seq (.rg [V 4 (.box (.t 0)),
V 8 (.mv (.k (.c .ns)))]) (.seq (.rg [V 11 (.mv (.t 2)),
V 12 (.mv (.t 1)),
V 13 (.idx 1 (.t 11) (.t 12)),
Vn (.st 1 (.t 13) (.k (.c (.b true))))]) (.seq (.seq (.rg [V 14 (.ld (some 2) (.t 4)),
V 15 (.mv (.t 1)),
V 16 (.call 83 [(.t 14),(.t 15)]),
V 17 (.len (.t 16)),
V 18 (.mv (.k (.c (.i 0))))]) (.block 0 (.loop vf147b0))) (.seq (.rg [V 33 (.mv (.t 3)),
V 34 (.mv (.t 1)),
V 35 (.bsl 1 [.i 0] 1 [(0,1,(.t 34))]),
V 36 (.app 1 (.t 33) (.t 35)),
V 8 (.mv (.t 36))]) (.ret))))
def vf147 : VF := ⟨vf147c,vf147v,[(8,none)]⟩
theorem ok147 : chkF Tryz.prog Tryz.f147 vf147 = true := by kernel_rfl
theorem dr147 : drawsB vf147.body = true := by kernel_rfl
def vf148v : List Nat := [0,2,3,9]
def vf148b0 : VC := .seq (.seq (.rg [V 7 (.mv (.t 2)),
V 8 (.mv (.t 3)),
V 9 (.bin .lt (.t 7) (.t 8))]) (.cond (.t 9) (.skip) (.exit 0))) (.seq (.block 1 (.rd [V 14 (.mv (.t 0)),
V 15 (.mv (.t 2)),
V 16 (.mv (.t 0)),
V 17 (.mv (.t 3)),
V 18 (.mv (.t 0)),
V 19 (.mv (.t 3)),
Vd [4,5] (V 20 (.idx 1 (.t 18) (.t 19))),
Vd [6] (V 21 (.ld none (.t 20))),
V 22 (.mv (.t 0)),
V 23 (.mv (.t 2)),
Vd [8,9] (V 24 (.idx 1 (.t 22) (.t 23))),
Vd [10] (V 25 (.ld none (.t 24))),
Vd [0,1,7,11] (V 26 (.idx 1 (.t 14) (.t 15))),
Vd [12] (Vn (.st 1 (.t 26) (.t 21))),
Vd [2,3,13] (V 27 (.idx 1 (.t 16) (.t 17))),
Vd [14] (Vn (.st 1 (.t 27) (.t 25)))])) (.rg [V 10 (.mv (.t 2)),
V 11 (.bin .add (.t 10) (.k (.c (.i 1)))),
V 12 (.mv (.t 3)),
V 13 (.bin .sub (.t 12) (.k (.c (.i 1)))),
V 2 (.mv (.t 11)),
V 3 (.mv (.t 13))]))
def vf148c : VC := .seq (.rg [V 4 (.mv (.t 0)),
V 5 (.len (.t 4)),
V 6 (.bin .sub (.t 5) (.k (.c (.i 1)))),
V 2 (.mv (.k (.c (.i 0)))),
V 3 (.mv (.t 6))]) (.block 0 (.loop vf148b0))
def vf148 : VF := ⟨vf148c,vf148v,[]⟩
theorem ok148 : chkF Tryz.prog Tryz.f148 vf148 = true := by kernel_rfl
theorem dr148 : drawsB vf148.body = true := by kernel_rfl
def vf149v : List Nat := [0,1,4]
def vf149c : VC := .seq (.rg [V 4 (.mv (.k (.c (.b false))))]) (.seq (.rg [V 5 (.mv (.t 0)),
V 6 (.mv (.t 1)),
V 7 (.call 201 [(.t 5),(.t 6)]),
V 8 (.bin .ge (.t 7) (.k (.c (.i 0)))),
V 4 (.mv (.t 8))]) (.ret))
def vf149 : VF := ⟨vf149c,vf149v,[(4,none)]⟩
theorem ok149 : chkF Tryz.prog Tryz.f149 vf149 = true := by kernel_rfl
theorem dr149 : drawsB vf149.body = true := by kernel_rfl
def vf150v : List Nat := [0,1,2]
def vf150c : VC := .seq (.rg [V 1 (.box (.t 0)),
V 2 (.mv (.k (.c (.b false))))]) (.seq (.rg [V 3 (.fad 1 (.t 1)),
V 4 (.ld none (.t 3)),
V 5 (.call 73 [(.t 4),(.k (.f 151 []))]),
V 2 (.mv (.t 5))]) (.ret))
def vf150 : VF := ⟨vf150c,vf150v,[(2,none)]⟩
theorem ok150 : chkF Tryz.prog Tryz.f150 vf150 = true := by kernel_rfl
theorem dr150 : drawsB vf150.body = true := by kernel_rfl
def vf151v : List Nat := [0,1,2]
def vf151c : VC := .seq (.rg [V 1 (.box (.t 0)),
V 2 (.mv (.k (.c (.b false))))]) (.seq (.rg [V 3 (.fad 0 (.t 1)),
V 4 (.ld none (.t 3)),
V 5 (.bin .eq (.t 4) (.k (.c (.i 25)))),
V 2 (.mv (.t 5))]) (.ret))
def vf151 : VF := ⟨vf151c,vf151v,[(2,none)]⟩
theorem ok151 : chkF Tryz.prog Tryz.f151 vf151 = true := by kernel_rfl
theorem dr151 : drawsB vf151.body = true := by kernel_rfl
def vf152v : List Nat := [0,1,4,5,7,8,9,16]
def vf152b0 : VC := .seq (.rg [V 9 (.bin .lt (.t 8) (.t 7))]) (.seq (.cond (.t 9) (.skip) (.exit 0)) (.seq (.block 1 (.seq (.rg [V 10 (.mv (.t 8)),
V 5 (.mv (.t 10))]) (.seq (.rg [V 11 (.mv (.t 1)),
V 12 (.mv (.t 0)),
V 13 (.mv (.t 5)),
V 14 (.idx 1 (.t 12) (.t 13)),
V 15 (.ld none (.t 14)),
V 16 (.eqb false (.t 11) (.t 15))]) (.cond (.t 16) (.seq (.rg [V 17 (.mv (.t 5)),
V 4 (.mv (.t 17))]) (.ret)) (.skip))))) (.rg [V 18 (.bin .add (.t 8) (.k (.c (.i 1)))),
V 8 (.mv (.t 18))])))
def vf152c : VC := .seq (.rg [V 4 (.mv (.k (.c (.i 0))))]) (.seq (.seq (.rg [V 6 (.mv (.t 0)),
V 7 (.len (.t 6)),
V 8 (.mv (.k (.c (.i 0))))]) (.block 0 (.loop vf152b0))) (.seq (.rg [V 4 (.mv (.k (.c (.i (-1)))))]) (.ret)))
def vf152 : VF := ⟨vf152c,vf152v,[(4,none)]⟩
theorem ok152 : chkF Tryz.prog Tryz.f152 vf152 = true := by kernel_rfl
theorem dr152 : drawsB vf152.body = true := by kernel_rfl
def vf153v : List Nat := [0,1,4,5,10,12,13,14,24]
def vf153b0 : VC := .seq (.rg [V 14 (.bin .lt (.t 13) (.t 12))]) (.seq (.cond (.t 14) (.skip) (.exit 0)) (.seq (.block 1 (.seq (.rg [V 15 (.mv (.t 13)),
V 5 (.mv (.t 15))]) (.seq (.rd [V 16 (.mv (.t 0)),
V 17 (.mv (.t 5)),
Vd [0,1] (V 18 (.idx 1 (.t 16) (.t 17))),
Vd [2] (V 19 (.ld none (.t 18))),
V 20 (.mv (.t 1)),
V 21 (.mv (.t 5)),
Vd [4,5] (V 22 (.idx 1 (.t 20) (.t 21))),
Vd [6] (V 23 (.ld none (.t 22))),
Vd [3,7] (V 24 (.bin .ne (.t 19) (.t 23)))]) (.cond (.t 24) (.seq (.rg [V 4 (.mv (.k (.c (.b false))))]) (.ret)) (.skip))))) (.rg [V 25 (.bin .add (.t 13) (.k (.c (.i 1)))),
V 13 (.mv (.t 25))])))
def vf153c : VC := .seq (.rg [V 4 (.mv (.k (.c (.b false))))]) (.seq (.seq (.rg [V 6 (.mv (.t 0)),
V 7 (.len (.t 6)),
V 8 (.mv (.t 1)),
V 9 (.len (.t 8)),
V 10 (.bin .ne (.t 7) (.t 9))]) (.cond (.t 10) (.seq (.rg [V 4 (.mv (.k (.c (.b false))))]) (.ret)) (.skip))) (.seq (.seq (.rg [V 11 (.mv (.t 0)),
V 12 (.len (.t 11)),
V 13 (.mv (.k (.c (.i 0))))]) (.block 0 (.loop vf153b0))) (.seq (.rg [V 4 (.mv (.k (.c (.b true))))]) (.ret))))
def vf153 : VF := ⟨vf153c,vf153v,[(4,none)]⟩
theorem ok153 : chkF Tryz.prog Tryz.f153 vf153 = true := by kernel_rfl
theorem dr153 : drawsB vf153.body = true := by kernel_rfl
def vf154v : List Nat := [0,1,4,5,7,8,9,16]
def vf154b0 : VC := .seq (.rg [V 9 (.bin .lt (.t 8) (.t 7))]) (.seq (.cond (.t 9) (.skip) (.exit 0)) (.seq (.block 1 (.seq (.rg [V 10 (.mv (.t 8)),
V 5 (.mv (.t 10))]) (.seq (.rg [V 11 (.mv (.t 1)),
V 12 (.mv (.t 0)),
V 13 (.mv (.t 5)),
V 14 (.idx 1 (.t 12) (.t 13)),
V 15 (.ld none (.t 14)),
V 16 (.clv (.t 11) [(.t 15)])]) (.cond (.t 16) (.seq (.rg [V 17 (.mv (.t 5)),
V 4 (.mv (.t 17))]) (.ret)) (.skip))))) (.rg [V 18 (.bin .add (.t 8) (.k (.c (.i 1)))),
V 8 (.mv (.t 18))])))
def vf154c : VC := .seq (.rg [V 4 (.mv (.k (.c (.i 0))))]) (.seq (.seq (.rg [V 6 (.mv (.t 0)),
V 7 (.len (.t 6)),
V 8 (.mv (.k (.c (.i 0))))]) (.block 0 (.loop vf154b0))) (.seq (.rg [V 4 (.mv (.k (.c (.i (-1)))))]) (.ret)))
def vf154 : VF := ⟨vf154c,vf154v,[(4,none)]⟩
theorem ok154 : chkF Tryz.prog Tryz.f154 vf154 = true := by kernel_rfl
theorem dr154 : drawsB vf154.body = true := by kernel_rfl
def vf155v : List Nat := [0,1,2,3,4,5,7,9,10,12,13,21,22,23,24,28,29,30,31,48,52,53,54,55,62]
def vf155b0 : VC := .seq (.rg [V 31 (.bin .lt (.t 30) (.t 29))]) (.seq (.cond (.t 31) (.skip) (.exit 2)) (.seq (.block 3 (.seq (.rg [V 32 (.idx 2 (.t 28) (.t 30)),
V 33 (.ld (some 2) (.t 32)),
V 9 (.alloc [.i 0,.i 0]),
Vn (.st 2 (.t 9) (.t 33))]) (.seq (.rg [V 35 (.fad 0 (.t 2)),
V 36 (.ld (some 2) (.t 35)),
V 37 (.fad 1 (.t 9)),
V 38 (.ld none (.t 37)),
V 39 (.call 31 [(.t 36),(.t 38)]),
V 34 (.mv (.t 39)),
V 40 (.ext 0 (.t 34)),
V 41 (.ext 1 (.t 34)),
V 10 (.mv (.t 40)),
V 11 (.mv (.t 41))]) (.seq (.rg [V 42 (.fad 2 (.t 2)),
V 43 (.ld none (.t 42)),
V 44 (.mv (.t 10)),
V 45 (.fad 0 (.t 9)),
V 46 (.ld none (.t 45)),
V 47 (.call 103 [(.t 43),(.t 44),(.t 46)]),
V 48 (.not (.t 47))]) (.cond (.t 48) (.seq (.rg [V 4 (.mv (.k (.c (.b false))))]) (.ret)) (.skip)))))) (.rg [V 49 (.bin .add (.t 30) (.k (.c (.i 1)))),
V 30 (.mv (.t 49))])))
def vf155b1 : VC := .seq (.rg [V 24 (.bin .lt (.t 23) (.t 22))]) (.seq (.cond (.t 24) (.skip) (.exit 0)) (.seq (.block 1 (.seq (.rg [V 25 (.idx 2 (.t 21) (.t 23)),
V 26 (.ld (some 2) (.t 25)),
V 7 (.alloc [.i 0,.ns]),
Vn (.st 2 (.t 7) (.t 26))]) (.seq (.rg [V 27 (.fad 1 (.t 7)),
V 28 (.ld none (.t 27)),
V 29 (.len (.t 28)),
V 30 (.mv (.k (.c (.i 0))))]) (.block 2 (.loop vf155b0))))) (.rg [V 50 (.bin .add (.t 23) (.k (.c (.i 1)))),
V 23 (.mv (.t 50))])))
def vf155b2 : VC := .seq (.rg [V 55 (.bin .lt (.t 54) (.t 53))]) (.seq (.cond (.t 55) (.skip) (.exit 4)) (.seq (.block 5 (.seq (.rg [V 56 (.mv (.t 54)),
V 57 (.idx 5 (.t 52) (.t 54)),
V 58 (.ld (some 5) (.t 57)),
V 12 (.alloc [.i 0]),
V 13 (.alloc [.i 0,.i 0,.i 0,.i 0,.i 0]),
Vn (.st 1 (.t 12) (.t 56)),
Vn (.st 5 (.t 13) (.t 58))]) (.seq (.rg [V 59 (.ld (some 5) (.t 13)),
V 60 (.call 30 [(.t 59)]),
V 61 (.mkf 202 [(.t 2),(.t 3),(.t 12)]),
V 62 (.call 88 [(.t 60),(.t 61)])]) (.cond (.t 62) (.seq (.rg [V 4 (.mv (.k (.c (.b false))))]) (.ret)) (.skip))))) (.rg [V 63 (.bin .add (.t 54) (.k (.c (.i 1)))),
V 54 (.mv (.t 63))])))
def vf155c : VC := .seq (.rg [V 2 (.box (.t 0)),
V 3 (.box (.t 1)),
V 4 (.mv (.k (.c (.b false))))]) (.seq (.rg [V 14 (.fad 0 (.t 2)),
V 15 (.fad 0 (.t 14)),
V 16 (.ld none (.t 15)),
V 17 (.ld none (.t 3)),
V 18 (.idx 6 (.t 16) (.t 17)),
V 19 (.ld (some 6) (.t 18)),
V 5 (.alloc [.ns,.ns,.i 0,.i 0,.i 0,.i 0]),
Vn (.st 6 (.t 5) (.t 19))]) (.seq (.seq (.rg [V 20 (.fad 0 (.t 5)),
V 21 (.ld none (.t 20)),
V 22 (.len (.t 21)),
V 23 (.mv (.k (.c (.i 0))))]) (.block 0 (.loop vf155b1))) (.seq (.seq (.rg [V 51 (.fad 1 (.t 5)),
V 52 (.ld none (.t 51)),
V 53 (.len (.t 52)),
V 54 (.mv (.k (.c (.i 0))))]) (.block 4 (.loop vf155b2))) (.seq (.rg [V 64 (.fad 2 (.t 5)),
V 65 (.ld (some 4) (.t 64)),
V 66 (.call 45 [(.t 65)]),
V 67 (.mkf 204 [(.t 2),(.t 3),(.t 5)]),
V 68 (.call 88 [(.t 66),(.t 67)]),
V 69 (.not (.t 68)),
V 4 (.mv (.t 69))]) (.ret)))))
def vf155 : VF := ⟨vf155c,vf155v,[(4,none)]⟩
theorem ok155 : chkF Tryz.prog Tryz.f155 vf155 = true := by kernel_rfl
theorem dr155 : drawsB vf155.body = true := by kernel_rfl
def vf156v : List Nat := [0,1,2,3,4,8,9,10,20,30]
def vf156b0 : VC := .seq (.seq (.rg [V 17 (.mv (.t 10)),
V 18 (.mv (.t 9)),
V 19 (.len (.t 18)),
V 20 (.bin .lt (.t 17) (.t 19))]) (.cond (.t 20) (.skip) (.exit 0))) (.seq (.block 1 (.seq (.rg [V 23 (.mv (.t 2)),
V 24 (.mv (.t 9)),
V 25 (.mv (.t 10)),
V 26 (.idx 1 (.t 24) (.t 25)),
V 27 (.ld none (.t 26)),
V 28 (.idx 1 (.t 23) (.t 27)),
V 29 (.ld none (.t 28)),
V 30 (.not (.t 29))]) (.cond (.t 30) (.rd [V 31 (.ld (some 2) (.t 4)),
V 32 (.mv (.t 9)),
V 33 (.mv (.t 10)),
Vd [1,2] (V 34 (.idx 1 (.t 32) (.t 33))),
Vd [3] (V 35 (.ld none (.t 34))),
V 36 (.mv (.t 2)),
V 37 (.mv (.t 3)),
Vd [0,4,5,6] (V 38 (.call 156 [(.t 31),(.t 35),(.t 36),(.t 37)])),
Vd [7] (V 3 (.mv (.t 38)))]) (.skip)))) (.rg [V 21 (.mv (.t 10)),
V 22 (.bin .add (.t 21) (.k (.c (.i 1)))),
V 10 (.mv (.t 22))]))
def vf156c : VC := .seq (.rg [V 4 (.box (.t 0)),
V 8 (.mv (.k (.c .ns)))]) (.seq (.rg [V 11 (.mv (.t 2)),
V 12 (.mv (.t 1)),
V 13 (.idx 1 (.t 11) (.t 12)),
Vn (.st 1 (.t 13) (.k (.c (.b true))))]) (.seq (.rg [V 14 (.ld (some 2) (.t 4)),
V 15 (.mv (.t 1)),
V 16 (.call 126 [(.t 14),(.t 15)]),
V 9 (.mv (.t 16))]) (.seq (.seq (.rg [V 10 (.mv (.k (.c (.i 0))))]) (.block 0 (.loop vf156b0))) (.seq (.rg [V 39 (.mv (.t 3)),
V 40 (.mv (.t 1)),
V 41 (.bsl 1 [.i 0] 1 [(0,1,(.t 40))]),
V 42 (.app 1 (.t 39) (.t 41)),
V 8 (.mv (.t 42))]) (.ret)))))
def vf156 : VF := ⟨vf156c,vf156v,[(8,none)]⟩
theorem ok156 : chkF Tryz.prog Tryz.f156 vf156 = true := by kernel_rfl
theorem dr156 : drawsB vf156.body = true := by kernel_rfl
def vf157v : List Nat := [0,1,4,5,9,17]
def vf157b0 : VC := .seq (.seq (.rg [V 6 (.mv (.t 5)),
V 7 (.mv (.t 0)),
V 8 (.len (.t 7)),
V 9 (.bin .lt (.t 6) (.t 8))]) (.cond (.t 9) (.skip) (.exit 0))) (.seq (.block 1 (.seq (.rg [V 12 (.mv (.t 0)),
V 13 (.mv (.t 5)),
V 14 (.idx 1 (.t 12) (.t 13)),
V 15 (.ld none (.t 14)),
V 16 (.mv (.t 1)),
V 17 (.bin .eq (.t 15) (.t 16))]) (.cond (.t 17) (.seq (.rg [V 4 (.mv (.k (.c (.b true))))]) (.ret)) (.skip)))) (.rg [V 10 (.mv (.t 5)),
V 11 (.bin .add (.t 10) (.k (.c (.i 1)))),
V 5 (.mv (.t 11))]))
def vf157c : VC := .seq (.rg [V 4 (.mv (.k (.c (.b false))))]) (.seq (.seq (.rg [V 5 (.mv (.k (.c (.i 0))))]) (.block 0 (.loop vf157b0))) (.seq (.rg [V 4 (.mv (.k (.c (.b false))))]) (.ret)))
def vf157 : VF := ⟨vf157c,vf157v,[(4,none)]⟩
theorem ok157 : chkF Tryz.prog Tryz.f157 vf157 = true := by kernel_rfl
theorem dr157 : drawsB vf157.body = true := by kernel_rfl
def vf158v : List Nat := [0,1,2,3,4,5,6,7,24,34,53]
def vf158b0 : VC := .seq (.seq (.rg [V 30 (.mv (.t 7)),
V 31 (.fad 0 (.t 1)),
V 32 (.ld none (.t 31)),
V 33 (.len (.t 32)),
V 34 (.bin .lt (.t 30) (.t 33))]) (.cond (.t 34) (.skip) (.exit 2))) (.seq (.block 3 (.seq (.rg [V 37 (.mv (.t 4)),
V 38 (.mv (.t 5)),
V 39 (.idx 1 (.t 37) (.t 38)),
V 40 (.ld none (.t 39)),
V 41 (.mv (.t 40)),
Vg 42 41 true (.mv (.t 4)),
Vg 43 41 true (.mv (.t 7)),
Vg 44 41 true (.idx 1 (.t 42) (.t 43)),
Vg 45 41 true (.ld none (.t 44)),
V 46 (.pick (.t 41) (.t 45) (.k (.c (.b false)))),
V 47 (.mv (.t 46)),
Vg 48 47 true (.mv (.t 6)),
Vg 49 47 true (.mv (.t 7)),
Vg 50 47 true (.idx 1 (.t 48) (.t 49)),
Vg 51 47 true (.ld none (.t 50)),
Vg 52 47 true (.not (.t 51)),
V 53 (.pick (.t 47) (.t 52) (.k (.c (.b false))))]) (.cond (.t 53) (.rg [V 54 (.mv (.t 3)),
V 55 (.mv (.t 7)),
V 56 (.mv (.t 3)),
V 57 (.mv (.t 7)),
V 58 (.idx 1 (.t 56) (.t 57)),
V 59 (.ld none (.t 58)),
V 60 (.mv (.t 5)),
V 61 (.bsl 1 [.i 0] 1 [(0,1,(.t 60))]),
V 62 (.app 1 (.t 59) (.t 61)),
V 63 (.idx 1 (.t 54) (.t 55)),
Vn (.st 1 (.t 63) (.t 62))]) (.skip)))) (.rg [V 35 (.mv (.t 7)),
V 36 (.bin .add (.t 35) (.k (.c (.i 1)))),
V 7 (.mv (.t 36))]))
def vf158b1 : VC := .seq (.seq (.rg [V 20 (.mv (.t 5)),
V 21 (.fad 0 (.t 1)),
V 22 (.ld none (.t 21)),
V 23 (.len (.t 22)),
V 24 (.bin .lt (.t 20) (.t 23))]) (.cond (.t 24) (.skip) (.exit 0))) (.seq (.block 1 (.seq (.rg [V 27 (.ld (some 2) (.t 1)),
V 28 (.mv (.t 5)),
V 29 (.call 205 [(.t 27),(.t 28)]),
V 6 (.mv (.t 29))]) (.seq (.rg [V 7 (.mv (.k (.c (.i 0))))]) (.block 2 (.loop vf158b0))))) (.rg [V 25 (.mv (.t 5)),
V 26 (.bin .add (.t 25) (.k (.c (.i 1)))),
V 5 (.mv (.t 26))]))
def vf158c : VC := .seq (.rg [V 1 (.box (.t 0)),
V 2 (.mv (.k (.c .ns)))]) (.seq (.rg [V 8 (.fad 0 (.t 1)),
V 9 (.ld none (.t 8)),
V 10 (.len (.t 9)),
V 11 (.mks 1 [.ns] (.t 10)),
V 3 (.mv (.t 11))]) (.seq (.rg [V 12 (.fad 0 (.t 1)),
V 13 (.ld none (.t 12)),
V 14 (.len (.t 13)),
V 15 (.mks 1 [.b false] (.t 14)),
V 4 (.mv (.t 15))]) (.seq (.rg [V 16 (.ld (some 2) (.t 1)),
V 17 (.mv (.t 4)),
V 18 (.bsl 1 [.i 0] 0 []),
V 19 (.call 156 [(.t 16),(.k (.c (.i 0))),(.t 17),(.t 18)])]) (.seq (.seq (.rg [V 5 (.mv (.k (.c (.i 0))))]) (.block 0 (.loop vf158b1))) (.seq (.rg [V 64 (.mv (.t 3)),
V 2 (.mv (.t 64))]) (.ret))))))
def vf158 : VF := ⟨vf158c,vf158v,[(2,none)]⟩
theorem ok158 : chkF Tryz.prog Tryz.f158 vf158 = true := by kernel_rfl
theorem dr158 : drawsB vf158.body = true := by kernel_rfl
def vf159v : List Nat := [0,1,2,3,17]
def vf159c : VC := .seq (.rg [V 1 (.box (.t 0)),
V 2 (.mv (.k (.c .ns)))]) (.seq (.block 0 (.seq (.rg [V 4 (.fad 0 (.t 1)),
V 5 (.ld none (.t 4)),
V 6 (.call 116 [(.t 5)]),
V 7 (.mv (.t 6)),
Vg 8 7 false (.fad 0 (.t 1)),
Vg 9 7 false (.ld none (.t 8)),
Vg 10 7 false (.bin .eq (.t 9) (.k (.c (.i 22)))),
V 11 (.pick (.t 7) (.k (.c (.b true))) (.t 10)),
V 3 (.mv (.t 11))]) (.cond (.t 3) (.seq (.rg [V 12 (.fad 2 (.t 1)),
V 13 (.ld none (.t 12)),
V 14 (.fad 3 (.t 1)),
V 15 (.ld none (.t 14)),
V 16 (.bsl 1 [.i 0] 2 [(0,1,(.t 13)),(1,1,(.t 15))]),
V 2 (.mv (.t 16))]) (.ret)) (.seq (.rg [V 18 (.fad 0 (.t 1)),
V 19 (.ld none (.t 18)),
V 20 (.bin .eq (.t 19) (.k (.c (.i 21)))),
V 21 (.mv (.t 20)),
Vg 22 21 false (.fad 0 (.t 1)),
Vg 23 21 false (.ld none (.t 22)),
Vg 24 21 false (.bin .eq (.t 23) (.k (.c (.i 23)))),
V 25 (.pick (.t 21) (.k (.c (.b true))) (.t 24)),
V 26 (.mv (.t 25)),
Vg 27 26 false (.fad 0 (.t 1)),
Vg 28 26 false (.ld none (.t 27)),
Vg 29 26 false (.bin .eq (.t 28) (.k (.c (.i 25)))),
V 30 (.pick (.t 26) (.k (.c (.b true))) (.t 29)),
V 17 (.mv (.t 30))]) (.cond (.t 17) (.seq (.rg [V 31 (.fad 2 (.t 1)),
V 32 (.ld none (.t 31)),
V 33 (.bsl 1 [.i 0] 1 [(0,1,(.t 32))]),
V 2 (.mv (.t 33))]) (.ret)) (.skip)))))) (.seq (.rg [V 34 (.bsl 1 [.i 0] 0 []),
V 2 (.mv (.t 34))]) (.ret)))
def vf159 : VF := ⟨vf159c,vf159v,[(2,none)]⟩
theorem ok159 : chkF Tryz.prog Tryz.f159 vf159 = true := by kernel_rfl
theorem dr159 : drawsB vf159.body = true := by kernel_rfl
def vf160v : List Nat := [0,1,2,3,4,5,10,11,12,21]
def vf160c : VC := .seq (.rg [V 5 (.box (.t 0)),
V 10 (.mv (.k (.c (.b false))))]) (.seq (.rg [V 14 (.ld (some 2) (.t 5)),
V 15 (.mv (.t 2)),
V 16 (.call 206 [(.t 14),(.t 15)]),
V 13 (.mv (.t 16)),
V 17 (.ext 0 (.t 13)),
V 18 (.ext 1 (.t 13)),
V 11 (.mv (.t 17)),
V 12 (.mv (.t 18))]) (.seq (.seq (.rg [V 19 (.mv (.t 11)),
V 20 (.mv (.t 3)),
V 21 (.bin .eq (.t 19) (.t 20))]) (.cond (.t 21) (.seq (.rg [V 22 (.mv (.t 12)),
V 23 (.mv (.t 4)),
V 24 (.bin .lt (.t 22) (.t 23)),
V 10 (.mv (.t 24))]) (.ret)) (.skip))) (.seq (.rg [V 25 (.mv (.t 11)),
V 26 (.bin .ge (.t 25) (.k (.c (.i 0)))),
V 27 (.mv (.t 26)),
Vg 28 27 true (.mv (.t 1)),
Vg 29 27 true (.mv (.t 3)),
Vg 30 27 true (.idx 1 (.t 28) (.t 29)),
Vg 31 27 true (.ld none (.t 30)),
Vg 32 27 true (.mv (.t 11)),
Vg 33 27 true (.call 157 [(.t 31),(.t 32)]),
V 34 (.pick (.t 27) (.t 33) (.k (.c (.b false)))),
V 10 (.mv (.t 34))]) (.ret))))
def vf160 : VF := ⟨vf160c,vf160v,[(10,none)]⟩
theorem ok160 : chkF Tryz.prog Tryz.f160 vf160 = true := by kernel_rfl
theorem dr160 : drawsB vf160.body = true := by kernel_rfl
def vf161v : List Nat := [0,1,2,10]
def vf161c : VC := .seq (.rg [V 1 (.box (.t 0)),
V 2 (.mv (.k (.c .ns)))]) (.seq (.seq (.rg [V 3 (.fad 0 (.t 1)),
V 4 (.ld none (.t 3)),
V 5 (.bin .eq (.t 4) (.k (.c (.i 2)))),
V 6 (.mv (.t 5)),
Vg 7 6 false (.fad 0 (.t 1)),
Vg 8 6 false (.ld none (.t 7)),
Vg 9 6 false (.bin .eq (.t 8) (.k (.c (.i 3)))),
V 10 (.pick (.t 6) (.k (.c (.b true))) (.t 9))]) (.cond (.t 10) (.seq (.rg [V 11 (.fad 1 (.t 1)),
V 12 (.ld none (.t 11)),
V 13 (.bsl 1 [.i 0] 1 [(0,1,(.t 12))]),
V 2 (.mv (.t 13))]) (.ret)) (.skip))) (.seq (.rg [V 14 (.bsl 1 [.i 0] 0 []),
V 2 (.mv (.t 14))]) (.ret)))
def vf161 : VF := ⟨vf161c,vf161v,[(2,none)]⟩
theorem ok161 : chkF Tryz.prog Tryz.f161 vf161 = true := by kernel_rfl
theorem dr161 : drawsB vf161.body = true := by kernel_rfl
def vf162v : List Nat := [0,1,4]
def vf162c : VC := .seq (.rg [V 4 (.mv (.k (.c (.b false))))]) (.seq (.rg [V 5 (.mv (.t 0)),
V 6 (.mv (.t 1)),
V 7 (.call 207 [(.t 5),(.t 6)]),
V 8 (.bin .ge (.t 7) (.k (.c (.i 0)))),
V 4 (.mv (.t 8))]) (.ret))
def vf162 : VF := ⟨vf162c,vf162v,[(4,none)]⟩
theorem ok162 : chkF Tryz.prog Tryz.f162 vf162 = true := by kernel_rfl
theorem dr162 : drawsB vf162.body = true := by kernel_rfl
def vf163v : List Nat := [0,1,2,4,10,16]
def vf163c : VC := .seq (.rg [V 2 (.box (.t 0)),
V 4 (.mv (.k (.c (.i 0))))]) (.seq (.rg [V 5 (.fad 0 (.t 2)),
V 6 (.ld none (.t 5)),
V 7 (.mv (.t 1)),
V 8 (.call 208 [(.t 6),(.t 7)]),
V 1 (.mv (.t 8))]) (.seq (.seq (.rg [V 9 (.mv (.t 1)),
V 10 (.bin .lt (.t 9) (.k (.c (.i 0))))]) (.cond (.t 10) (.seq (.rg [V 4 (.mv (.k (.c (.i (-1)))))]) (.ret)) (.skip))) (.seq (.rg [V 11 (.fad 1 (.t 2)),
V 12 (.ld none (.t 11)),
V 13 (.mv (.t 1)),
V 14 (.call 209 [(.t 12),(.t 13)]),
V 1 (.mv (.t 14))]) (.seq (.seq (.rg [V 15 (.mv (.t 1)),
V 16 (.bin .lt (.t 15) (.k (.c (.i 0))))]) (.cond (.t 16) (.seq (.rg [V 4 (.mv (.k (.c (.i (-1)))))]) (.ret)) (.skip))) (.seq (.rg [V 17 (.mv (.t 1)),
V 4 (.mv (.t 17))]) (.ret))))))
def vf163 : VF := ⟨vf163c,vf163v,[(4,none)]⟩
theorem ok163 : chkF Tryz.prog Tryz.f163 vf163 = true := by kernel_rfl
theorem dr163 : drawsB vf163.body = true := by kernel_rfl
def vf164v : List Nat := [0,1,2,3]
def vf164c : VC := .seq (.rg [V 1 (.box (.t 0)),
V 2 (.alloc [.ns,.ns,.i 0,.i 0,.i 0,.i 0])]) (.seq (.rg [V 3 (.alloc [.ns,.ns,.i 0,.i 0,.i 0,.i 0])]) (.seq (.rg [V 4 (.fad 0 (.t 1)),
V 5 (.ld none (.t 4)),
V 6 (.call 210 [(.t 5)]),
V 7 (.fad 0 (.t 3)),
Vn (.st 1 (.t 7) (.t 6))]) (.seq (.rg [V 8 (.fad 1 (.t 1)),
V 9 (.ld none (.t 8)),
V 10 (.call 211 [(.t 9)]),
V 11 (.fad 1 (.t 3)),
Vn (.st 1 (.t 11) (.t 10))]) (.seq (.rg [V 12 (.fad 2 (.t 1)),
V 13 (.ld (some 4) (.t 12)),
V 14 (.call 212 [(.t 13)]),
V 15 (.fad 2 (.t 3)),
Vn (.st 4 (.t 15) (.t 14))]) (.seq (.rg [V 16 (.ld (some 6) (.t 3)),
Vn (.st 6 (.t 2) (.t 16))]) (.ret))))))
def vf164 : VF := ⟨vf164c,vf164v,[(2,(some (some 6)))]⟩
theorem ok164 : chkF Tryz.prog Tryz.f164 vf164 = true := by kernel_rfl
theorem dr164 : drawsB vf164.body = true := by kernel_rfl
def vf165v : List Nat := [0,1,2,3,4,10,16,22]
def vf165c : VC := .seq (.rg [V 2 (.box (.t 0)),
V 3 (.box (.t 1)),
V 4 (.mv (.k (.c (.b false))))]) (.seq (.seq (.rg [V 5 (.fad 0 (.t 2)),
V 6 (.ld none (.t 5)),
V 7 (.fad 0 (.t 3)),
V 8 (.ld none (.t 7)),
V 9 (.call 213 [(.t 6),(.t 8)]),
V 10 (.not (.t 9))]) (.cond (.t 10) (.seq (.rg [V 4 (.mv (.k (.c (.b false))))]) (.ret)) (.skip))) (.seq (.seq (.rg [V 11 (.fad 1 (.t 2)),
V 12 (.ld none (.t 11)),
V 13 (.fad 1 (.t 3)),
V 14 (.ld none (.t 13)),
V 15 (.call 214 [(.t 12),(.t 14)]),
V 16 (.not (.t 15))]) (.cond (.t 16) (.seq (.rg [V 4 (.mv (.k (.c (.b false))))]) (.ret)) (.skip))) (.seq (.seq (.rg [V 17 (.fad 2 (.t 2)),
V 18 (.ld (some 4) (.t 17)),
V 19 (.fad 2 (.t 3)),
V 20 (.ld (some 4) (.t 19)),
V 21 (.call 215 [(.t 18),(.t 20)]),
V 22 (.not (.t 21))]) (.cond (.t 22) (.seq (.rg [V 4 (.mv (.k (.c (.b false))))]) (.ret)) (.skip))) (.seq (.rg [V 4 (.mv (.k (.c (.b true))))]) (.ret)))))
def vf165 : VF := ⟨vf165c,vf165v,[(4,none)]⟩
theorem ok165 : chkF Tryz.prog Tryz.f165 vf165 = true := by kernel_rfl
theorem dr165 : drawsB vf165.body = true := by kernel_rfl
def vf169v : List Nat := [0,1,4,5,9]
def vf169b0 : VC := .seq (.seq (.rg [V 6 (.mv (.t 5)),
V 7 (.mv (.t 0)),
V 8 (.len (.t 7)),
V 9 (.bin .lt (.t 6) (.t 8))]) (.cond (.t 9) (.skip) (.exit 0))) (.seq (.block 1 (.seq (.rg [V 12 (.mv (.t 0)),
V 13 (.mv (.t 5)),
V 14 (.mv (.t 1)),
V 15 (.idx 2 (.t 12) (.t 13)),
V 16 (.fad 0 (.t 15)),
Vn (.st 1 (.t 16) (.t 14))]) (.seq (.rg [V 17 (.mv (.t 1)),
V 18 (.bin .add (.t 17) (.k (.c (.i 1)))),
V 1 (.mv (.t 18))]) (.rg [V 19 (.mv (.t 0)),
V 20 (.mv (.t 5)),
V 21 (.idx 2 (.t 19) (.t 20)),
V 22 (.fad 1 (.t 21)),
V 23 (.ld none (.t 22)),
V 24 (.mv (.t 1)),
V 25 (.call 217 [(.t 23),(.t 24)]),
V 1 (.mv (.t 25))])))) (.rg [V 10 (.mv (.t 5)),
V 11 (.bin .add (.t 10) (.k (.c (.i 1)))),
V 5 (.mv (.t 11))]))
def vf169c : VC := .seq (.rg [V 4 (.mv (.k (.c (.i 0))))]) (.seq (.seq (.rg [V 5 (.mv (.k (.c (.i 0))))]) (.block 0 (.loop vf169b0))) (.seq (.rg [V 26 (.mv (.t 1)),
V 4 (.mv (.t 26))]) (.ret)))
def vf169 : VF := ⟨vf169c,vf169v,[(4,none)]⟩
theorem ok169 : chkF Tryz.prog Tryz.f169 vf169 = true := by kernel_rfl
theorem dr169 : drawsB vf169.body = true := by kernel_rfl
def vf170v : List Nat := [0,1,4,5,9]
def vf170b0 : VC := .seq (.seq (.rg [V 6 (.mv (.t 5)),
V 7 (.mv (.t 0)),
V 8 (.len (.t 7)),
V 9 (.bin .lt (.t 6) (.t 8))]) (.cond (.t 9) (.skip) (.exit 0))) (.seq (.block 1 (.seq (.rg [V 12 (.mv (.t 0)),
V 13 (.mv (.t 5)),
V 14 (.mv (.t 1)),
V 15 (.idx 5 (.t 12) (.t 13)),
V 16 (.fad 0 (.t 15)),
Vn (.st 1 (.t 16) (.t 14))]) (.seq (.rg [V 17 (.mv (.t 1)),
V 18 (.bin .add (.t 17) (.k (.c (.i 1)))),
V 1 (.mv (.t 18))]) (.seq (.rg [V 19 (.mv (.t 0)),
V 20 (.mv (.t 5)),
V 21 (.mv (.t 1)),
V 22 (.idx 5 (.t 19) (.t 20)),
V 23 (.fad 1 (.t 22)),
Vn (.st 1 (.t 23) (.t 21))]) (.seq (.rg [V 24 (.mv (.t 1)),
V 25 (.bin .add (.t 24) (.k (.c (.i 1)))),
V 1 (.mv (.t 25))]) (.seq (.rg [V 26 (.mv (.t 0)),
V 27 (.mv (.t 5)),
V 28 (.mv (.t 1)),
V 29 (.idx 5 (.t 26) (.t 27)),
V 30 (.fad 2 (.t 29)),
Vn (.st 1 (.t 30) (.t 28))]) (.seq (.rg [V 31 (.mv (.t 1)),
V 32 (.bin .add (.t 31) (.k (.c (.i 1)))),
V 1 (.mv (.t 32))]) (.seq (.rg [V 33 (.mv (.t 0)),
V 34 (.mv (.t 5)),
V 35 (.mv (.t 1)),
V 36 (.idx 5 (.t 33) (.t 34)),
V 37 (.fad 3 (.t 36)),
Vn (.st 1 (.t 37) (.t 35))]) (.seq (.rg [V 38 (.mv (.t 1)),
V 39 (.bin .add (.t 38) (.k (.c (.i 1)))),
V 1 (.mv (.t 39))]) (.seq (.rg [V 40 (.mv (.t 0)),
V 41 (.mv (.t 5)),
V 42 (.mv (.t 1)),
V 43 (.idx 5 (.t 40) (.t 41)),
V 44 (.fad 4 (.t 43)),
Vn (.st 1 (.t 44) (.t 42))]) (.rg [V 45 (.mv (.t 1)),
V 46 (.bin .add (.t 45) (.k (.c (.i 1)))),
V 1 (.mv (.t 46))]))))))))))) (.rg [V 10 (.mv (.t 5)),
V 11 (.bin .add (.t 10) (.k (.c (.i 1)))),
V 5 (.mv (.t 11))]))
def vf170c : VC := .seq (.rg [V 4 (.mv (.k (.c (.i 0))))]) (.seq (.seq (.rg [V 5 (.mv (.k (.c (.i 0))))]) (.block 0 (.loop vf170b0))) (.seq (.rg [V 47 (.mv (.t 1)),
V 4 (.mv (.t 47))]) (.ret)))
def vf170 : VF := ⟨vf170c,vf170v,[(4,none)]⟩
theorem ok170 : chkF Tryz.prog Tryz.f170 vf170 = true := by kernel_rfl
theorem dr170 : drawsB vf170.body = true := by kernel_rfl
def vf171v : List Nat := [0,2,4]
def vf171c : VC := .seq (.rg [V 2 (.mv (.k (.c .ns)))]) (.seq (.seq (.rg [V 3 (.mv (.t 0)),
V 4 (.eqn false (.t 3))]) (.cond (.t 4) (.seq (.rg [V 2 (.mv (.k (.c .ns)))]) (.ret)) (.skip))) (.seq (.rg [V 5 (.bsl 5 [.i 0,.i 0,.i 0,.i 0,.i 0] 0 []),
V 6 (.mv (.t 0)),
V 7 (.app 5 (.t 5) (.t 6)),
V 2 (.mv (.t 7))]) (.ret)))
def vf171 : VF := ⟨vf171c,vf171v,[(2,none)]⟩
theorem ok171 : chkF Tryz.prog Tryz.f171 vf171 = true := by kernel_rfl
theorem dr171 : drawsB vf171.body = true := by kernel_rfl
def vf172v : List Nat := [0,2,4]
def vf172c : VC := .seq (.rg [V 2 (.mv (.k (.c .ns)))]) (.seq (.seq (.rg [V 3 (.mv (.t 0)),
V 4 (.eqn false (.t 3))]) (.cond (.t 4) (.seq (.rg [V 2 (.mv (.k (.c .ns)))]) (.ret)) (.skip))) (.seq (.rg [V 5 (.bsl 2 [.i 0,.i 0] 0 []),
V 6 (.mv (.t 0)),
V 7 (.app 2 (.t 5) (.t 6)),
V 2 (.mv (.t 7))]) (.ret)))
def vf172 : VF := ⟨vf172c,vf172v,[(2,none)]⟩
theorem ok172 : chkF Tryz.prog Tryz.f172 vf172 = true := by kernel_rfl
theorem dr172 : drawsB vf172.body = true := by kernel_rfl
def vf173v : List Nat := [0,1,4,5,9,18,29]
def vf173b0 : VC := .seq (.seq (.rg [V 6 (.mv (.t 5)),
V 7 (.mv (.t 0)),
V 8 (.len (.t 7)),
V 9 (.bin .lt (.t 6) (.t 8))]) (.cond (.t 9) (.skip) (.exit 0))) (.seq (.block 1 (.seq (.seq (.rg [V 12 (.mv (.t 0)),
V 13 (.mv (.t 5)),
V 14 (.idx 2 (.t 12) (.t 13)),
V 15 (.fad 0 (.t 14)),
V 16 (.ld none (.t 15)),
V 17 (.mv (.t 1)),
V 18 (.bin .ne (.t 16) (.t 17))]) (.cond (.t 18) (.seq (.rg [V 4 (.mv (.k (.c (.i (-1)))))]) (.ret)) (.skip))) (.seq (.rg [V 19 (.mv (.t 1)),
V 20 (.bin .add (.t 19) (.k (.c (.i 1)))),
V 1 (.mv (.t 20))]) (.seq (.rg [V 21 (.mv (.t 0)),
V 22 (.mv (.t 5)),
V 23 (.idx 2 (.t 21) (.t 22)),
V 24 (.fad 1 (.t 23)),
V 25 (.ld none (.t 24)),
V 26 (.mv (.t 1)),
V 27 (.call 218 [(.t 25),(.t 26)]),
V 1 (.mv (.t 27))]) (.seq (.rg [V 28 (.mv (.t 1)),
V 29 (.bin .lt (.t 28) (.k (.c (.i 0))))]) (.cond (.t 29) (.seq (.rg [V 4 (.mv (.k (.c (.i (-1)))))]) (.ret)) (.skip))))))) (.rg [V 10 (.mv (.t 5)),
V 11 (.bin .add (.t 10) (.k (.c (.i 1)))),
V 5 (.mv (.t 11))]))
def vf173c : VC := .seq (.rg [V 4 (.mv (.k (.c (.i 0))))]) (.seq (.seq (.rg [V 5 (.mv (.k (.c (.i 0))))]) (.block 0 (.loop vf173b0))) (.seq (.rg [V 30 (.mv (.t 1)),
V 4 (.mv (.t 30))]) (.ret)))
def vf173 : VF := ⟨vf173c,vf173v,[(4,none)]⟩
theorem ok173 : chkF Tryz.prog Tryz.f173 vf173 = true := by kernel_rfl
theorem dr173 : drawsB vf173.body = true := by kernel_rfl
def vf174v : List Nat := [0,1,4,5,9,18,27,36,45,54]
def vf174b0 : VC := .seq (.seq (.rg [V 6 (.mv (.t 5)),
V 7 (.mv (.t 0)),
V 8 (.len (.t 7)),
V 9 (.bin .lt (.t 6) (.t 8))]) (.cond (.t 9) (.skip) (.exit 0))) (.seq (.block 1 (.seq (.seq (.rg [V 12 (.mv (.t 0)),
V 13 (.mv (.t 5)),
V 14 (.idx 5 (.t 12) (.t 13)),
V 15 (.fad 0 (.t 14)),
V 16 (.ld none (.t 15)),
V 17 (.mv (.t 1)),
V 18 (.bin .ne (.t 16) (.t 17))]) (.cond (.t 18) (.seq (.rg [V 4 (.mv (.k (.c (.i (-1)))))]) (.ret)) (.skip))) (.seq (.rg [V 19 (.mv (.t 1)),
V 20 (.bin .add (.t 19) (.k (.c (.i 1)))),
V 1 (.mv (.t 20))]) (.seq (.seq (.rg [V 21 (.mv (.t 0)),
V 22 (.mv (.t 5)),
V 23 (.idx 5 (.t 21) (.t 22)),
V 24 (.fad 1 (.t 23)),
V 25 (.ld none (.t 24)),
V 26 (.mv (.t 1)),
V 27 (.bin .ne (.t 25) (.t 26))]) (.cond (.t 27) (.seq (.rg [V 4 (.mv (.k (.c (.i (-1)))))]) (.ret)) (.skip))) (.seq (.rg [V 28 (.mv (.t 1)),
V 29 (.bin .add (.t 28) (.k (.c (.i 1)))),
V 1 (.mv (.t 29))]) (.seq (.seq (.rg [V 30 (.mv (.t 0)),
V 31 (.mv (.t 5)),
V 32 (.idx 5 (.t 30) (.t 31)),
V 33 (.fad 2 (.t 32)),
V 34 (.ld none (.t 33)),
V 35 (.mv (.t 1)),
V 36 (.bin .ne (.t 34) (.t 35))]) (.cond (.t 36) (.seq (.rg [V 4 (.mv (.k (.c (.i (-1)))))]) (.ret)) (.skip))) (.seq (.rg [V 37 (.mv (.t 1)),
V 38 (.bin .add (.t 37) (.k (.c (.i 1)))),
V 1 (.mv (.t 38))]) (.seq (.seq (.rg [V 39 (.mv (.t 0)),
V 40 (.mv (.t 5)),
V 41 (.idx 5 (.t 39) (.t 40)),
V 42 (.fad 3 (.t 41)),
V 43 (.ld none (.t 42)),
V 44 (.mv (.t 1)),
V 45 (.bin .ne (.t 43) (.t 44))]) (.cond (.t 45) (.seq (.rg [V 4 (.mv (.k (.c (.i (-1)))))]) (.ret)) (.skip))) (.seq (.rg [V 46 (.mv (.t 1)),
V 47 (.bin .add (.t 46) (.k (.c (.i 1)))),
V 1 (.mv (.t 47))]) (.seq (.seq (.rg [V 48 (.mv (.t 0)),
V 49 (.mv (.t 5)),
V 50 (.idx 5 (.t 48) (.t 49)),
V 51 (.fad 4 (.t 50)),
V 52 (.ld none (.t 51)),
V 53 (.mv (.t 1)),
V 54 (.bin .ne (.t 52) (.t 53))]) (.cond (.t 54) (.seq (.rg [V 4 (.mv (.k (.c (.i (-1)))))]) (.ret)) (.skip))) (.rg [V 55 (.mv (.t 1)),
V 56 (.bin .add (.t 55) (.k (.c (.i 1)))),
V 1 (.mv (.t 56))]))))))))))) (.rg [V 10 (.mv (.t 5)),
V 11 (.bin .add (.t 10) (.k (.c (.i 1)))),
V 5 (.mv (.t 11))]))
def vf174c : VC := .seq (.rg [V 4 (.mv (.k (.c (.i 0))))]) (.seq (.seq (.rg [V 5 (.mv (.k (.c (.i 0))))]) (.block 0 (.loop vf174b0))) (.seq (.rg [V 57 (.mv (.t 1)),
V 4 (.mv (.t 57))]) (.ret)))
def vf174 : VF := ⟨vf174c,vf174v,[(4,none)]⟩
theorem ok174 : chkF Tryz.prog Tryz.f174 vf174 = true := by kernel_rfl
theorem dr174 : drawsB vf174.body = true := by kernel_rfl
def vf181v : List Nat := [0,2]
def vf181c : VC := .seq (.rg [V 2 (.mv (.k (.c (.b false))))]) (.seq (.rg [V 3 (.mv (.t 0)),
V 4 (.call 116 [(.t 3)]),
V 5 (.mv (.t 4)),
Vg 6 5 false (.mv (.t 0)),
Vg 7 5 false (.bin .eq (.t 6) (.k (.c (.i 20)))),
V 8 (.pick (.t 5) (.k (.c (.b true))) (.t 7)),
V 9 (.mv (.t 8)),
Vg 10 9 false (.mv (.t 0)),
Vg 11 9 false (.bin .eq (.t 10) (.k (.c (.i 21)))),
V 12 (.pick (.t 9) (.k (.c (.b true))) (.t 11)),
V 13 (.mv (.t 12)),
Vg 14 13 false (.mv (.t 0)),
Vg 15 13 false (.bin .eq (.t 14) (.k (.c (.i 24)))),
V 16 (.pick (.t 13) (.k (.c (.b true))) (.t 15)),
V 17 (.mv (.t 16)),
Vg 18 17 false (.mv (.t 0)),
Vg 19 17 false (.bin .eq (.t 18) (.k (.c (.i 25)))),
V 20 (.pick (.t 17) (.k (.c (.b true))) (.t 19)),
V 2 (.mv (.t 20))]) (.ret))
def vf181 : VF := ⟨vf181c,vf181v,[(2,none)]⟩
theorem ok181 : chkF Tryz.prog Tryz.f181 vf181 = true := by kernel_rfl
theorem dr181 : drawsB vf181.body = true := by kernel_rfl
def vf182v : List Nat := [0,2,3,4,5,9,15,38]
def vf182b0 : VC := .seq (.seq (.rg [V 12 (.mv (.t 5)),
V 13 (.mv (.t 0)),
V 14 (.len (.t 13)),
V 15 (.bin .lt (.t 12) (.t 14))]) (.cond (.t 15) (.skip) (.exit 2))) (.seq (.block 3 (.rd [V 18 (.mv (.t 4)),
Vd [0] (V 19 (.mv (.t 18))),
Vd [1] (Vg 20 19 false (.mv (.t 5))),
Vd [1] (Vg 21 19 false (.mv (.t 3))),
Vd [2,3] (Vg 22 19 false (.bin .ne (.t 20) (.t 21))),
Vd [4] (Vg 23 19 false (.mv (.t 22))),
Vd [5] (Vg 24 23 true (.mv (.t 0))),
Vd [5] (Vg 25 23 true (.mv (.t 5))),
Vd [6,7] (Vg 26 23 true (.idx 2 (.t 24) (.t 25))),
Vd [8] (Vg 27 23 true (.fad 1 (.t 26))),
Vd [9] (Vg 28 23 true (.ld none (.t 27))),
Vd [5] (Vg 29 23 true (.mv (.t 0))),
Vd [5] (Vg 30 23 true (.mv (.t 3))),
Vd [11,12] (Vg 31 23 true (.idx 2 (.t 29) (.t 30))),
Vd [13] (Vg 32 23 true (.fad 0 (.t 31))),
Vd [14] (Vg 33 23 true (.ld none (.t 32))),
Vd [10,15] (Vg 34 23 true (.bin .eq (.t 28) (.t 33))),
Vd [16] (Vg 35 19 false (.pick (.t 23) (.t 34) (.k (.c (.b false))))),
Vd [17] (V 36 (.pick (.t 19) (.k (.c (.b true))) (.t 35))),
Vd [18] (V 4 (.mv (.t 36)))])) (.rg [V 16 (.mv (.t 5)),
V 17 (.bin .add (.t 16) (.k (.c (.i 1)))),
V 5 (.mv (.t 17))]))
def vf182b1 : VC := .seq (.seq (.rg [V 6 (.mv (.t 3)),
V 7 (.mv (.t 0)),
V 8 (.len (.t 7)),
V 9 (.bin .lt (.t 6) (.t 8))]) (.cond (.t 9) (.skip) (.exit 0))) (.seq (.block 1 (.seq (.rg [V 4 (.mv (.k (.c (.b false))))]) (.seq (.seq (.rg [V 5 (.mv (.k (.c (.i 0))))]) (.block 2 (.loop vf182b0))) (.seq (.rg [V 37 (.mv (.t 4)),
V 38 (.not (.t 37))]) (.cond (.t 38) (.seq (.rg [V 39 (.mv (.t 3)),
V 2 (.mv (.t 39))]) (.ret)) (.skip)))))) (.rg [V 10 (.mv (.t 3)),
V 11 (.bin .add (.t 10) (.k (.c (.i 1)))),
V 3 (.mv (.t 11))]))
def vf182c : VC := .seq (.rg [V 2 (.mv (.k (.c (.i 0))))]) (.seq (.seq (.rg [V 3 (.mv (.k (.c (.i 0))))]) (.block 0 (.loop vf182b1))) (.seq (.rg [V 2 (.mv (.k (.c (.i (-1)))))]) (.ret)))
def vf182 : VF := ⟨vf182c,vf182v,[(2,none)]⟩
theorem ok182 : chkF Tryz.prog Tryz.f182 vf182 = true := by kernel_rfl
theorem dr182 : drawsB vf182.body = true := by kernel_rfl
def vf183v : List Nat := [0,1,4,5,6,7,8,9,10,40]
def vf183b0 : VC := .seq (.rg [V 10 (.bin .lt (.t 9) (.t 8))]) (.seq (.cond (.t 10) (.skip) (.exit 0)) (.seq (.block 1 (.seq (.rg [V 11 (.mv (.t 9)),
V 12 (.idx 2 (.t 7) (.t 9)),
V 13 (.ld (some 2) (.t 12)),
V 6 (.alloc [.i 0,.i 0]),
V 5 (.mv (.t 11)),
Vn (.st 2 (.t 6) (.t 13))]) (.seq (.rg [V 14 (.fad 0 (.t 6)),
V 15 (.ld none (.t 14)),
V 16 (.bin .lt (.t 15) (.k (.c (.i 0)))),
V 17 (.mv (.t 16)),
Vg 18 17 false (.fad 0 (.t 6)),
Vg 19 17 false (.ld none (.t 18)),
Vg 20 17 false (.mv (.t 1)),
Vg 21 17 false (.bin .ge (.t 19) (.t 20)),
V 22 (.pick (.t 17) (.k (.c (.b true))) (.t 21)),
V 23 (.mv (.t 22)),
Vg 24 23 false (.fad 1 (.t 6)),
Vg 25 23 false (.ld none (.t 24)),
Vg 26 23 false (.bin .lt (.t 25) (.k (.c (.i 0)))),
V 27 (.pick (.t 23) (.k (.c (.b true))) (.t 26)),
V 28 (.mv (.t 27)),
Vg 29 28 false (.fad 1 (.t 6)),
Vg 30 28 false (.ld none (.t 29)),
Vg 31 28 false (.mv (.t 1)),
Vg 32 28 false (.bin .ge (.t 30) (.t 31)),
V 33 (.pick (.t 28) (.k (.c (.b true))) (.t 32)),
V 34 (.mv (.t 33)),
Vg 35 34 false (.mv (.t 0)),
Vg 36 34 false (.mv (.t 5)),
Vg 37 34 false (.slc 2 (.t 35) none (some (.t 36))),
Vg 38 34 false (.mkf 221 [(.t 6)]),
Vg 39 34 false (.call 220 [(.t 37),(.t 38)]),
V 40 (.pick (.t 34) (.k (.c (.b true))) (.t 39))]) (.cond (.t 40) (.seq (.rg [V 4 (.mv (.k (.c (.b false))))]) (.ret)) (.skip))))) (.rg [V 41 (.bin .add (.t 9) (.k (.c (.i 1)))),
V 9 (.mv (.t 41))])))
def vf183c : VC := .seq (.rg [V 4 (.mv (.k (.c (.b false))))]) (.seq (.seq (.rg [V 7 (.mv (.t 0)),
V 8 (.len (.t 7)),
V 9 (.mv (.k (.c (.i 0))))]) (.block 0 (.loop vf183b0))) (.seq (.rg [V 42 (.mv (.t 0)),
V 43 (.len (.t 42)),
V 44 (.bin .le (.t 43) (.k (.c (.i 24)))),
V 4 (.mv (.t 44))]) (.ret)))
def vf183 : VF := ⟨vf183c,vf183v,[(4,none)]⟩
theorem ok183 : chkF Tryz.prog Tryz.f183 vf183 = true := by kernel_rfl
theorem dr183 : drawsB vf183.body = true := by kernel_rfl
def vf184v : List Nat := [0,1,4,5,6,7,12,19,29]
def vf184b0 : VC := .seq (.seq (.rg [V 16 (.mv (.t 6)),
V 17 (.mv (.t 0)),
V 18 (.len (.t 17)),
V 19 (.bin .lt (.t 16) (.t 18))]) (.cond (.t 19) (.skip) (.exit 0))) (.seq (.block 1 (.seq (.rg [V 22 (.mv (.t 0)),
V 23 (.mv (.t 6)),
V 24 (.idx 2 (.t 22) (.t 23)),
V 25 (.ld (some 2) (.t 24)),
V 7 (.alloc [.i 0,.i 0]),
Vn (.st 2 (.t 7) (.t 25))]) (.seq (.rg [V 26 (.mv (.t 1)),
V 27 (.ld (some 2) (.t 7)),
V 28 (.clv (.t 26) [(.t 27)]),
V 29 (.not (.t 28))]) (.cond (.t 29) (.seq (.rg [V 30 (.mv (.t 0)),
V 31 (.mv (.t 5)),
V 32 (.ld (some 2) (.t 7)),
V 33 (.idx 2 (.t 30) (.t 31)),
Vn (.st 2 (.t 33) (.t 32))]) (.rg [V 34 (.mv (.t 5)),
V 35 (.bin .add (.t 34) (.k (.c (.i 1)))),
V 5 (.mv (.t 35))])) (.skip))))) (.rg [V 20 (.mv (.t 6)),
V 21 (.bin .add (.t 20) (.k (.c (.i 1)))),
V 6 (.mv (.t 21))]))
def vf184c : VC := .seq (.rg [V 4 (.mv (.k (.c .ns)))]) (.seq (.rg [V 8 (.mv (.t 0)),
V 9 (.mv (.t 1)),
V 10 (.call 222 [(.t 8),(.t 9)]),
V 5 (.mv (.t 10))]) (.seq (.seq (.rg [V 11 (.mv (.t 5)),
V 12 (.bin .eq (.t 11) (.k (.c (.i (-1)))))]) (.cond (.t 12) (.seq (.rg [V 13 (.mv (.t 0)),
V 4 (.mv (.t 13))]) (.ret)) (.skip))) (.seq (.seq (.rg [V 14 (.mv (.t 5)),
V 15 (.bin .add (.t 14) (.k (.c (.i 1)))),
V 6 (.mv (.t 15))]) (.block 0 (.loop vf184b0))) (.seq (.rg [V 36 (.mv (.t 0)),
V 37 (.mv (.t 5)),
V 38 (.slc 2 (.t 36) (some (.t 37)) none),
Vn (.clr 2 [.i 0,.i 0] (.t 38))]) (.seq (.rg [V 39 (.mv (.t 0)),
V 40 (.mv (.t 5)),
V 41 (.slc 2 (.t 39) none (some (.t 40))),
V 4 (.mv (.t 41))]) (.ret))))))
def vf184 : VF := ⟨vf184c,vf184v,[(4,none)]⟩
theorem ok184 : chkF Tryz.prog Tryz.f184 vf184 = true := by kernel_rfl
theorem dr184 : drawsB vf184.body = true := by kernel_rfl
def vf185v : List Nat := [0,2,4]
def vf185c : VC := .seq (.rg [V 2 (.mv (.k (.c .ns)))]) (.seq (.seq (.rg [V 3 (.mv (.t 0)),
V 4 (.eqn false (.t 3))]) (.cond (.t 4) (.seq (.rg [V 2 (.mv (.k (.c .ns)))]) (.ret)) (.skip))) (.seq (.rg [V 5 (.bsl 2 [.i 0,.i 0] 0 []),
V 6 (.mv (.t 0)),
V 7 (.app 2 (.t 5) (.t 6)),
V 2 (.mv (.t 7))]) (.ret)))
def vf185 : VF := ⟨vf185c,vf185v,[(2,none)]⟩
theorem ok185 : chkF Tryz.prog Tryz.f185 vf185 = true := by kernel_rfl
theorem dr185 : drawsB vf185.body = true := by kernel_rfl
def vf186v : List Nat := [0,1,2]
def vf186c : VC := .seq (.rg [V 1 (.box (.t 0)),
V 2 (.mv (.k (.c (.b false))))]) (.seq (.rg [V 3 (.fad 0 (.t 1)),
V 4 (.ld none (.t 3)),
V 5 (.fad 1 (.t 1)),
V 6 (.ld none (.t 5)),
V 7 (.bin .eq (.t 4) (.t 6)),
V 2 (.mv (.t 7))]) (.ret))
def vf186 : VF := ⟨vf186c,vf186v,[(2,none)]⟩
theorem ok186 : chkF Tryz.prog Tryz.f186 vf186 = true := by kernel_rfl
theorem dr186 : drawsB vf186.body = true := by kernel_rfl
def vf187v : List Nat := [0,1,2]
def vf187c : VC := .seq (.rg [V 1 (.box (.t 0)),
V 2 (.mv (.k (.c (.i 0))))]) (.seq (.rg [V 3 (.ld none (.t 1)),
V 4 (.mkf 223 [(.t 1)]),
V 5 (.call 222 [(.t 3),(.t 4)]),
V 2 (.mv (.t 5))]) (.ret))
def vf187 : VF := ⟨vf187c,vf187v,[(2,none)]⟩
theorem ok187 : chkF Tryz.prog Tryz.f187 vf187 = true := by kernel_rfl
theorem dr187 : drawsB vf187.body = true := by kernel_rfl
def vf188v : List Nat := [0,1,2,6,7,16]
def vf188c : VC := .seq (.rg [V 6 (.mv (.k (.c .ns)))]) (.seq (.rg [V 8 (.mv (.t 0)),
V 9 (.mv (.t 1)),
V 10 (.mv (.t 2)),
V 11 (.mv (.t 0)),
V 12 (.len (.t 11)),
V 13 (.bck (.t 8) (.t 9) (.t 10) (.t 12))]) (.seq (.seq (.rg [V 14 (.mv (.t 1)),
V 15 (.mv (.t 2)),
V 16 (.bin .eq (.t 14) (.t 15))]) (.cond (.t 16) (.seq (.rg [V 17 (.mv (.t 0)),
V 6 (.mv (.t 17))]) (.ret)) (.skip))) (.seq (.rg [V 18 (.mv (.t 0)),
V 19 (.len (.t 18)),
V 7 (.mv (.t 19))]) (.seq (.rd [V 20 (.mv (.t 0)),
V 21 (.mv (.t 1)),
Vd [0,1] (V 22 (.slc 2 (.t 20) none (some (.t 21)))),
V 23 (.mv (.t 0)),
V 24 (.mv (.t 2)),
Vd [3,4] (V 25 (.slc 2 (.t 23) (some (.t 24)) none)),
Vd [2,5] (V 26 (.app 2 (.t 22) (.t 25))),
Vd [6] (V 0 (.mv (.t 26)))]) (.seq (.rg [V 27 (.mv (.t 0)),
V 28 (.mv (.t 0)),
V 29 (.len (.t 28)),
V 30 (.mv (.t 7)),
V 31 (.slc 2 (.t 27) (some (.t 29)) (some (.t 30))),
Vn (.clr 2 [.i 0,.i 0] (.t 31))]) (.seq (.rg [V 32 (.mv (.t 0)),
V 6 (.mv (.t 32))]) (.ret)))))))
def vf188 : VF := ⟨vf188c,vf188v,[(6,none)]⟩
theorem ok188 : chkF Tryz.prog Tryz.f188 vf188 = true := by kernel_rfl
theorem dr188 : drawsB vf188.body = true := by kernel_rfl
end Go.Proofs.YtgdfgnppeekfjaaGreat.Vm
