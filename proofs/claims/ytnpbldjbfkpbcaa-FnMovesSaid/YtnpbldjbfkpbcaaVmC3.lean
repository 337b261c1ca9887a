/- The ideal machine's code for some of the program's functions, each checked against the translated one. No conditions. -/
import Derived.Test.YtnpbldjbfkpbcaaChecked
import Derived.Test.YtnpbldjbfkpbcaaVmQ
import Derived.Test.YtnpbldjbfkpbcaaVmC
namespace Go.Proofs.Ytnpbldjbfkpbcaa.Vm
set_option linter.unusedVariables false
set_option maxRecDepth 100000
/-- loop.example/g00192/impl.formOf -/
def vf142v : List Nat := [0,2,3,4,5,7,10,12,14]
def vf142c : VC := .seq (.rg [V 2 (.mv (.k (.c (.s ⟨#[]⟩)))),
V 3 (.mv (.k (.c (.b false))))]) (.seq (.seq (.rg [V 4 (.mv (.t 0))]) (.block 0 (.seq (.rg [V 6 (.bin .eq (.t 4) (.k (.c (.i 20)))),
V 5 (.mv (.t 6))]) (.cond (.t 5) (.seq (.rg [V 2 (.mv (.k (.c (.s ⟨#[68,78]⟩)))),
V 3 (.mv (.k (.c (.b true))))]) (.ret)) (.seq (.seq (.rg [V 8 (.bin .eq (.t 4) (.k (.c (.i 21)))),
V 7 (.mv (.t 8))]) (.cond (.t 7) (.skip) (.rg [V 9 (.bin .eq (.t 4) (.k (.c (.i 25)))),
V 7 (.mv (.t 9))]))) (.cond (.t 7) (.seq (.rg [V 2 (.mv (.k (.c (.s ⟨#[68,65]⟩)))),
V 3 (.mv (.k (.c (.b true))))]) (.ret)) (.seq (.rg [V 11 (.bin .eq (.t 4) (.k (.c (.i 22)))),
V 10 (.mv (.t 11))]) (.cond (.t 10) (.seq (.rg [V 2 (.mv (.k (.c (.s ⟨#[65,66]⟩)))),
V 3 (.mv (.k (.c (.b true))))]) (.ret)) (.seq (.rg [V 13 (.bin .eq (.t 4) (.k (.c (.i 23)))),
V 12 (.mv (.t 13))]) (.cond (.t 12) (.seq (.rg [V 2 (.mv (.k (.c (.s ⟨#[65]⟩)))),
V 3 (.mv (.k (.c (.b true))))]) (.ret)) (.seq (.rg [V 15 (.bin .eq (.t 4) (.k (.c (.i 24)))),
V 14 (.mv (.t 15))]) (.cond (.t 14) (.seq (.rg [V 2 (.mv (.k (.c (.s ⟨#[68]⟩)))),
V 3 (.mv (.k (.c (.b true))))]) (.ret)) (.skip))))))))))))) (.seq (.rg [V 16 (.mv (.t 0)),
V 17 (.call 31 [(.t 16)]),
V 2 (.mv (.k (.c (.s ⟨#[68,65,66]⟩)))),
V 3 (.mv (.t 17))]) (.ret)))
def vf142 : VF := ⟨vf142c,vf142v,[(2,none),(3,none)]⟩
theorem ok142 : chkF Try.prog Try.f142 vf142 = true := by kernel_rfl
theorem dr142 : drawsB vf142.body = true := by kernel_rfl
/-- slices.Containsbytebyte -/
def vf143v : List Nat := [0,1,4]
def vf143c : VC := .seq (.rg [V 4 (.mv (.k (.c (.b false))))]) (.seq (.rg [V 5 (.mv (.t 0)),
V 6 (.mv (.t 1)),
V 7 (.call 162 [(.t 5),(.t 6)]),
V 8 (.bin .ge (.t 7) (.k (.c (.i 0)))),
V 4 (.mv (.t 8))]) (.ret))
def vf143 : VF := ⟨vf143c,vf143v,[(4,none)]⟩
theorem ok143 : chkF Try.prog Try.f143 vf143 = true := by kernel_rfl
theorem dr143 : drawsB vf143.body = true := by kernel_rfl
/-- slices.IndexFuncloop.example/g00192/impl.Philoop.example/g00192/impl.Phi -/
def vf144v : List Nat := [0,1,4,5,7,8,9,16]
def vf144b0 : VC := .seq (.rg [V 9 (.bin .lt (.t 8) (.t 7))]) (.seq (.cond (.t 9) (.skip) (.exit 0)) (.seq (.block 1 (.seq (.rg [V 10 (.mv (.t 8)),
V 5 (.mv (.t 10))]) (.seq (.rg [V 11 (.mv (.t 1)),
V 12 (.mv (.t 0)),
V 13 (.mv (.t 5)),
V 14 (.idx 2 (.t 12) (.t 13)),
V 15 (.ld (some 2) (.t 14)),
V 16 (.clv (.t 11) [(.t 15)])]) (.cond (.t 16) (.seq (.rg [V 17 (.mv (.t 5)),
V 4 (.mv (.t 17))]) (.ret)) (.skip))))) (.rg [V 18 (.bin .add (.t 8) (.k (.c (.i 1)))),
V 8 (.mv (.t 18))])))
def vf144c : VC := .seq (.rg [V 4 (.mv (.k (.c (.i 0))))]) (.seq (.seq (.rg [V 6 (.mv (.t 0)),
V 7 (.len (.t 6)),
V 8 (.mv (.k (.c (.i 0))))]) (.block 0 (.loop vf144b0))) (.seq (.rg [V 4 (.mv (.k (.c (.i (-1)))))]) (.ret)))
def vf144 : VF := ⟨vf144c,vf144v,[(4,none)]⟩
theorem ok144 : chkF Try.prog Try.f144 vf144 = true := by kernel_rfl
theorem dr144 : drawsB vf144.body = true := by kernel_rfl
/-- loop.example/g00192/laws.szBlock -/
def vf145v : List Nat := [0,1,2,4,10,16]
def vf145c : VC := .seq (.rg [V 2 (.box (.t 0)),
V 4 (.mv (.k (.c (.i 0))))]) (.seq (.rg [V 5 (.fad 0 (.t 2)),
V 6 (.ld none (.t 5)),
V 7 (.mv (.t 1)),
V 8 (.call 163 [(.t 6),(.t 7)]),
V 1 (.mv (.t 8))]) (.seq (.seq (.rg [V 9 (.mv (.t 1)),
V 10 (.bin .lt (.t 9) (.k (.c (.i 0))))]) (.cond (.t 10) (.seq (.rg [V 4 (.mv (.k (.c (.i (-1)))))]) (.ret)) (.skip))) (.seq (.rg [V 11 (.fad 1 (.t 2)),
V 12 (.ld none (.t 11)),
V 13 (.mv (.t 1)),
V 14 (.call 164 [(.t 12),(.t 13)]),
V 1 (.mv (.t 14))]) (.seq (.seq (.rg [V 15 (.mv (.t 1)),
V 16 (.bin .lt (.t 15) (.k (.c (.i 0))))]) (.cond (.t 16) (.seq (.rg [V 4 (.mv (.k (.c (.i (-1)))))]) (.ret)) (.skip))) (.seq (.rg [V 17 (.mv (.t 1)),
V 4 (.mv (.t 17))]) (.ret))))))
def vf145 : VF := ⟨vf145c,vf145v,[(4,none)]⟩
theorem ok145 : chkF Try.prog Try.f145 vf145 = true := by kernel_rfl
theorem dr145 : drawsB vf145.body = true := by kernel_rfl
/-- loop.example/g00192/laws.toBlock -/
def vf146v : List Nat := [0,1,2,3]
def vf146c : VC := .seq (.rg [V 1 (.box (.t 0)),
V 2 (.alloc [.ns,.ns,.i 0,.i 0,.i 0,.i 0])]) (.seq (.rg [V 3 (.alloc [.ns,.ns,.i 0,.i 0,.i 0,.i 0])]) (.seq (.rg [V 4 (.fad 0 (.t 1)),
V 5 (.ld none (.t 4)),
V 6 (.call 165 [(.t 5)]),
V 7 (.fad 0 (.t 3)),
Vn (.st 1 (.t 7) (.t 6))]) (.seq (.rg [V 8 (.fad 1 (.t 1)),
V 9 (.ld none (.t 8)),
V 10 (.call 166 [(.t 9)]),
V 11 (.fad 1 (.t 3)),
Vn (.st 1 (.t 11) (.t 10))]) (.seq (.rg [V 12 (.fad 2 (.t 1)),
V 13 (.ld (some 4) (.t 12)),
V 14 (.call 167 [(.t 13)]),
V 15 (.fad 2 (.t 3)),
Vn (.st 4 (.t 15) (.t 14))]) (.seq (.rg [V 16 (.ld (some 6) (.t 3)),
Vn (.st 6 (.t 2) (.t 16))]) (.ret))))))
def vf146 : VF := ⟨vf146c,vf146v,[(2,(some (some 6)))]⟩
theorem ok146 : chkF Try.prog Try.f146 vf146 = true := by kernel_rfl
theorem dr146 : drawsB vf146.body = true := by kernel_rfl
/-- loop.example/g00192/laws.eqBlock -/
def vf147v : List Nat := [0,1,2,3,4,10,16,22]
def vf147c : VC := .seq (.rg [V 2 (.box (.t 0)),
V 3 (.box (.t 1)),
V 4 (.mv (.k (.c (.b false))))]) (.seq (.seq (.rg [V 5 (.fad 0 (.t 2)),
V 6 (.ld none (.t 5)),
V 7 (.fad 0 (.t 3)),
V 8 (.ld none (.t 7)),
V 9 (.call 168 [(.t 6),(.t 8)]),
V 10 (.not (.t 9))]) (.cond (.t 10) (.seq (.rg [V 4 (.mv (.k (.c (.b false))))]) (.ret)) (.skip))) (.seq (.seq (.rg [V 11 (.fad 1 (.t 2)),
V 12 (.ld none (.t 11)),
V 13 (.fad 1 (.t 3)),
V 14 (.ld none (.t 13)),
V 15 (.call 169 [(.t 12),(.t 14)]),
V 16 (.not (.t 15))]) (.cond (.t 16) (.seq (.rg [V 4 (.mv (.k (.c (.b false))))]) (.ret)) (.skip))) (.seq (.seq (.rg [V 17 (.fad 2 (.t 2)),
V 18 (.ld (some 4) (.t 17)),
V 19 (.fad 2 (.t 3)),
V 20 (.ld (some 4) (.t 19)),
V 21 (.call 170 [(.t 18),(.t 20)]),
V 22 (.not (.t 21))]) (.cond (.t 22) (.seq (.rg [V 4 (.mv (.k (.c (.b false))))]) (.ret)) (.skip))) (.seq (.rg [V 4 (.mv (.k (.c (.b true))))]) (.ret)))))
def vf147 : VF := ⟨vf147c,vf147v,[(4,none)]⟩
theorem ok147 : chkF Try.prog Try.f147 vf147 = true := by kernel_rfl
theorem dr147 : drawsB vf147.body = true := by kernel_rfl
/-- loop.example/g00192/laws.markPhiS -/
def vf148v : List Nat := [0,1,4,5,9]
def vf148b0 : VC := .seq (.seq (.rg [V 6 (.mv (.t 5)),
V 7 (.mv (.t 0)),
V 8 (.len (.t 7)),
V 9 (.bin .lt (.t 6) (.t 8))]) (.cond (.t 9) (.skip) (.exit 0))) (.seq (.block 1 (.seq (.rg [V 12 (.mv (.t 0)),
V 13 (.mv (.t 5)),
V 14 (.mv (.t 1)),
V 15 (.idx 2 (.t 12) (.t 13)),
V 16 (.fad 0 (.t 15)),
Vn (.st 1 (.t 16) (.t 14))]) (.seq (.rg [V 17 (.mv (.t 1)),
V 18 (.bin .add (.t 17) (.k (.c (.i 1)))),
V 1 (.mv (.t 18))]) (.rg [V 19 (.mv (.t 0)),
V 20 (.mv (.t 5)),
V 21 (.idx 2 (.t 19) (.t 20)),
V 22 (.fad 1 (.t 21)),
V 23 (.ld none (.t 22)),
V 24 (.mv (.t 1)),
V 25 (.call 171 [(.t 23),(.t 24)]),
V 1 (.mv (.t 25))])))) (.rg [V 10 (.mv (.t 5)),
V 11 (.bin .add (.t 10) (.k (.c (.i 1)))),
V 5 (.mv (.t 11))]))
def vf148c : VC := .seq (.rg [V 4 (.mv (.k (.c (.i 0))))]) (.seq (.seq (.rg [V 5 (.mv (.k (.c (.i 0))))]) (.block 0 (.loop vf148b0))) (.seq (.rg [V 26 (.mv (.t 1)),
V 4 (.mv (.t 26))]) (.ret)))
def vf148 : VF := ⟨vf148c,vf148v,[(4,none)]⟩
theorem ok148 : chkF Try.prog Try.f148 vf148 = true := by kernel_rfl
theorem dr148 : drawsB vf148.body = true := by kernel_rfl
/-- loop.example/g00192/laws.markInsS -/
def vf149v : List Nat := [0,1,4,5,9]
def vf149b0 : VC := .seq (.seq (.rg [V 6 (.mv (.t 5)),
V 7 (.mv (.t 0)),
V 8 (.len (.t 7)),
V 9 (.bin .lt (.t 6) (.t 8))]) (.cond (.t 9) (.skip) (.exit 0))) (.seq (.block 1 (.seq (.rg [V 12 (.mv (.t 0)),
V 13 (.mv (.t 5)),
V 14 (.mv (.t 1)),
V 15 (.idx 5 (.t 12) (.t 13)),
V 16 (.fad 0 (.t 15)),
Vn (.st 1 (.t 16) (.t 14))]) (.seq (.rg [V 17 (.mv (.t 1)),
V 18 (.bin .add (.t 17) (.k (.c (.i 1)))),
V 1 (.mv (.t 18))]) (.seq (.rg [V 19 (.mv (.t 0)),
V 20 (.mv (.t 5)),
V 21 (.mv (.t 1)),
V 22 (.idx 5 (.t 19) (.t 20)),
V 23 (.fad 1 (.t 22)),
Vn (.st 1 (.t 23) (.t 21))]) (.seq (.rg [V 24 (.mv (.t 1)),
V 25 (.bin .add (.t 24) (.k (.c (.i 1)))),
V 1 (.mv (.t 25))]) (.seq (.rg [V 26 (.mv (.t 0)),
V 27 (.mv (.t 5)),
V 28 (.mv (.t 1)),
V 29 (.idx 5 (.t 26) (.t 27)),
V 30 (.fad 2 (.t 29)),
Vn (.st 1 (.t 30) (.t 28))]) (.seq (.rg [V 31 (.mv (.t 1)),
V 32 (.bin .add (.t 31) (.k (.c (.i 1)))),
V 1 (.mv (.t 32))]) (.seq (.rg [V 33 (.mv (.t 0)),
V 34 (.mv (.t 5)),
V 35 (.mv (.t 1)),
V 36 (.idx 5 (.t 33) (.t 34)),
V 37 (.fad 3 (.t 36)),
Vn (.st 1 (.t 37) (.t 35))]) (.seq (.rg [V 38 (.mv (.t 1)),
V 39 (.bin .add (.t 38) (.k (.c (.i 1)))),
V 1 (.mv (.t 39))]) (.seq (.rg [V 40 (.mv (.t 0)),
V 41 (.mv (.t 5)),
V 42 (.mv (.t 1)),
V 43 (.idx 5 (.t 40) (.t 41)),
V 44 (.fad 4 (.t 43)),
Vn (.st 1 (.t 44) (.t 42))]) (.rg [V 45 (.mv (.t 1)),
V 46 (.bin .add (.t 45) (.k (.c (.i 1)))),
V 1 (.mv (.t 46))]))))))))))) (.rg [V 10 (.mv (.t 5)),
V 11 (.bin .add (.t 10) (.k (.c (.i 1)))),
V 5 (.mv (.t 11))]))
def vf149c : VC := .seq (.rg [V 4 (.mv (.k (.c (.i 0))))]) (.seq (.seq (.rg [V 5 (.mv (.k (.c (.i 0))))]) (.block 0 (.loop vf149b0))) (.seq (.rg [V 47 (.mv (.t 1)),
V 4 (.mv (.t 47))]) (.ret)))
def vf149 : VF := ⟨vf149c,vf149v,[(4,none)]⟩
theorem ok149 : chkF Try.prog Try.f149 vf149 = true := by kernel_rfl
theorem dr149 : drawsB vf149.body = true := by kernel_rfl
/-- loop.example/g00192/spec.l2Block -/
def vf150v : List Nat := [0,2]
def vf150c : VC := .seq (.rg [V 2 (.mv (.k (.c (.i 0))))]) (.seq (.rg [V 3 (.mv (.t 0)),
V 4 (.mv (.t 0)),
V 5 (.nilc (.t 4)),
V 6 (.fad 1 (.t 5)),
V 7 (.fad 0 (.t 6)),
V 8 (.ld none (.t 7)),
V 9 (.build [.ns,.ns,.i 0,.i 0,.i 0,.i 0] []),
V 10 (.bsl 6 [.ns,.ns,.i 0,.i 0,.i 0,.i 0] 1 [(0,6,(.t 9))]),
V 11 (.app 6 (.t 8) (.t 10)),
V 12 (.nilc (.t 3)),
V 13 (.fad 1 (.t 12)),
V 14 (.fad 0 (.t 13)),
Vn (.st 1 (.t 14) (.t 11))]) (.seq (.rg [V 15 (.mv (.t 0)),
V 16 (.nilc (.t 15)),
V 17 (.fad 1 (.t 16)),
V 18 (.fad 0 (.t 17)),
V 19 (.ld none (.t 18)),
V 20 (.len (.t 19)),
V 21 (.bin .sub (.t 20) (.k (.c (.i 1)))),
V 2 (.mv (.t 21))]) (.ret)))
def vf150 : VF := ⟨vf150c,vf150v,[(2,none)]⟩
theorem ok150 : chkF Try.prog Try.f150 vf150 = true := by kernel_rfl
theorem dr150 : drawsB vf150.body = true := by kernel_rfl
/-- loop.example/g00192/spec.l2New -/
def vf151v : List Nat := [0,2]
def vf151c : VC := .seq (.rg [V 2 (.mv (.k (.c (.i 0))))]) (.seq (.rg [V 3 (.mv (.t 0)),
V 4 (.mv (.t 0)),
V 5 (.nilc (.t 4)),
V 6 (.fad 1 (.t 5)),
V 7 (.fad 1 (.t 6)),
V 8 (.ld none (.t 7)),
V 9 (.bin .add (.t 8) (.k (.c (.i 1)))),
V 10 (.nilc (.t 3)),
V 11 (.fad 1 (.t 10)),
V 12 (.fad 1 (.t 11)),
Vn (.st 1 (.t 12) (.t 9))]) (.seq (.rg [V 13 (.mv (.t 0)),
V 14 (.nilc (.t 13)),
V 15 (.fad 1 (.t 14)),
V 16 (.fad 1 (.t 15)),
V 17 (.ld none (.t 16)),
V 18 (.bin .sub (.t 17) (.k (.c (.i 1)))),
V 2 (.mv (.t 18))]) (.ret)))
def vf151 : VF := ⟨vf151c,vf151v,[(2,none)]⟩
theorem ok151 : chkF Try.prog Try.f151 vf151 = true := by kernel_rfl
theorem dr151 : drawsB vf151.body = true := by kernel_rfl
/-- loop.example/g00192/spec.l2Put -/
def vf152v : List Nat := [0,1,2,5,16]
def vf152c : VC := .seq (.rg [V 5 (.box (.t 2))]) (.seq (.rg [V 6 (.mv (.t 0)),
V 7 (.nilc (.t 6)),
V 8 (.fad 1 (.t 7)),
V 9 (.fad 0 (.t 8)),
V 10 (.ld none (.t 9)),
V 11 (.mv (.t 1)),
V 12 (.idx 6 (.t 10) (.t 11)),
V 13 (.fad 1 (.t 12)),
V 14 (.ld none (.t 13)),
V 15 (.len (.t 14)),
V 16 (.bin .lt (.t 15) (.k (.c (.i 24))))]) (.cond (.t 16) (.rd [V 17 (.mv (.t 0)),
Vd [0] (V 18 (.nilc (.t 17))),
Vd [1] (V 19 (.fad 1 (.t 18))),
Vd [2] (V 20 (.fad 0 (.t 19))),
Vc [3] [] true (V 21 (.ld none (.t 20))),
V 22 (.mv (.t 1)),
V 23 (.mv (.t 0)),
Vd [6] (V 24 (.nilc (.t 23))),
Vd [7] (V 25 (.fad 1 (.t 24))),
Vd [8] (V 26 (.fad 0 (.t 25))),
Vc [9] [] true (V 27 (.ld none (.t 26))),
V 28 (.mv (.t 1)),
Vd [10,11] (V 29 (.idx 6 (.t 27) (.t 28))),
Vd [12] (V 30 (.fad 1 (.t 29))),
Vc [13] [] true (V 31 (.ld none (.t 30))),
V 32 (.ld (some 5) (.t 5)),
Vc [15] [4,10,14] false (V 33 (.bsl 5 [.i 0,.i 0,.i 0,.i 0,.i 0] 1 [(0,5,(.t 32))])),
Vc [14,16] [4] false (V 34 (.app 5 (.t 31) (.t 33))),
Vd [4,5,17] (V 35 (.idx 6 (.t 21) (.t 22))),
Vd [18] (V 36 (.fad 1 (.t 35))),
Vd [19] (Vn (.st 1 (.t 36) (.t 34)))]) (.skip)))
def vf152 : VF := ⟨vf152c,vf152v,[]⟩
theorem ok152 : chkF Try.prog Try.f152 vf152 = true := by kernel_rfl
theorem dr152 : drawsB vf152.body = true := by kernel_rfl
/-- loop.example/g00192/spec.l2Code -/
def vf153v : List Nat := [0,1,2,3,8,9,10,11,20,36,45,55,66]
def vf153b0 : VC := .seq (.seq (.rg [V 18 (.mv (.t 11)),
V 19 (.mv (.t 10)),
V 20 (.bin .lt (.t 18) (.t 19))]) (.cond (.t 20) (.skip) (.exit 0))) (.seq (.block 1 (.seq (.seq (.rg [V 23 (.mv (.t 3)),
V 24 (.bin .le (.t 23) (.k (.c (.i 0)))),
V 25 (.mv (.t 24)),
Vg 26 25 false (.mv (.t 0)),
Vg 27 25 false (.call 172 [(.t 26)]),
V 28 (.pick (.t 25) (.k (.c (.b true))) (.t 27)),
V 29 (.mv (.t 28)),
Vg 30 29 false (.mv (.t 0)),
Vg 31 29 false (.nilc (.t 30)),
Vg 32 29 false (.fad 0 (.t 31)),
Vg 33 29 false (.ld none (.t 32)),
Vg 34 29 false (.call 85 [(.t 33),(.k (.c (.i 3)))]),
Vg 35 29 false (.not (.t 34)),
V 36 (.pick (.t 29) (.k (.c (.b true))) (.t 35))]) (.cond (.t 36) (.seq (.rg [V 37 (.mv (.t 0)),
V 38 (.mv (.t 1)),
V 39 (.mv (.t 2)),
V 40 (.call 173 [(.t 37),(.t 38),(.t 39)]),
V 2 (.mv (.t 40))]) (.exit 1)) (.skip))) (.seq (.rg [V 41 (.mv (.t 0)),
V 42 (.nilc (.t 41)),
V 43 (.fad 0 (.t 42)),
V 44 (.ld none (.t 43)),
V 45 (.call 83 [(.t 44),(.k (.c (.i 4)))])]) (.block 2 (.seq (.rg [V 56 (.bin .eq (.t 45) (.k (.c (.i 0)))),
V 55 (.mv (.t 56))]) (.cond (.t 55) (.rg [V 58 (.mv (.t 0)),
V 59 (.mv (.t 1)),
V 60 (.mv (.t 2)),
V 61 (.mv (.t 3)),
V 62 (.bin .sub (.t 61) (.k (.c (.i 1)))),
V 63 (.call 174 [(.t 58),(.t 59),(.t 60),(.t 62)]),
V 57 (.mv (.t 63)),
V 64 (.ext 0 (.t 57)),
V 65 (.ext 1 (.t 57)),
V 1 (.mv (.t 64)),
V 2 (.mv (.t 65))]) (.seq (.rg [V 67 (.bin .eq (.t 45) (.k (.c (.i 1)))),
V 66 (.mv (.t 67))]) (.cond (.t 66) (.rg [V 69 (.mv (.t 0)),
V 70 (.mv (.t 1)),
V 71 (.mv (.t 2)),
V 72 (.mv (.t 3)),
V 73 (.bin .sub (.t 72) (.k (.c (.i 1)))),
V 74 (.call 175 [(.t 69),(.t 70),(.t 71),(.t 73)]),
V 68 (.mv (.t 74)),
V 75 (.ext 0 (.t 68)),
V 76 (.ext 1 (.t 68)),
V 1 (.mv (.t 75)),
V 2 (.mv (.t 76))]) (.rg [V 47 (.mv (.t 0)),
V 48 (.mv (.t 1)),
V 49 (.mv (.t 2)),
V 50 (.mv (.t 3)),
V 51 (.bin .sub (.t 50) (.k (.c (.i 1)))),
V 52 (.call 176 [(.t 47),(.t 48),(.t 49),(.t 51)]),
V 46 (.mv (.t 52)),
V 53 (.ext 0 (.t 46)),
V 54 (.ext 1 (.t 46)),
V 1 (.mv (.t 53)),
V 2 (.mv (.t 54))]))))))))) (.rg [V 21 (.mv (.t 11)),
V 22 (.bin .add (.t 21) (.k (.c (.i 1)))),
V 11 (.mv (.t 22))]))
def vf153c : VC := .seq (.rg [V 8 (.mv (.k (.c (.i 0)))),
V 9 (.mv (.k (.c .ns)))]) (.seq (.rg [V 12 (.mv (.t 0)),
V 13 (.nilc (.t 12)),
V 14 (.fad 0 (.t 13)),
V 15 (.ld none (.t 14)),
V 16 (.call 83 [(.t 15),(.k (.c (.i 5)))]),
V 17 (.bin .add (.k (.c (.i 1))) (.t 16)),
V 10 (.mv (.t 17))]) (.seq (.seq (.rg [V 11 (.mv (.k (.c (.i 0))))]) (.block 0 (.loop vf153b0))) (.seq (.rg [V 77 (.mv (.t 1)),
V 78 (.mv (.t 2)),
V 8 (.mv (.t 77)),
V 9 (.mv (.t 78))]) (.ret))))
def vf153 : VF := ⟨vf153c,vf153v,[(8,none),(9,none)]⟩
theorem ok153 : chkF Try.prog Try.f153 vf153 = true := by kernel_rfl
theorem dr153 : drawsB vf153.body = true := by kernel_rfl
/-- loop.example/g00192/spec.l2Some -/
def vf154v : List Nat := [0,1,4]
def vf154c : VC := .seq (.rg [V 4 (.mv (.k (.c (.i 0))))]) (.seq (.rg [V 5 (.mv (.t 1)),
V 6 (.mv (.t 0)),
V 7 (.nilc (.t 6)),
V 8 (.fad 0 (.t 7)),
V 9 (.ld none (.t 8)),
V 10 (.mv (.t 1)),
V 11 (.len (.t 10)),
V 12 (.call 83 [(.t 9),(.t 11)]),
V 13 (.idx 1 (.t 5) (.t 12)),
V 14 (.ld none (.t 13)),
V 4 (.mv (.t 14))]) (.ret))
def vf154 : VF := ⟨vf154c,vf154v,[(4,none)]⟩
theorem ok154 : chkF Try.prog Try.f154 vf154 = true := by kernel_rfl
theorem dr154 : drawsB vf154.body = true := by kernel_rfl
/-- slices.IndexFuncloop.example/g00192/impl.Blockloop.example/g00192/impl.Block -/
def vf155v : List Nat := [0,1,4,5,7,8,9,16]
def vf155b0 : VC := .seq (.rg [V 9 (.bin .lt (.t 8) (.t 7))]) (.seq (.cond (.t 9) (.skip) (.exit 0)) (.seq (.block 1 (.seq (.rg [V 10 (.mv (.t 8)),
V 5 (.mv (.t 10))]) (.seq (.rg [V 11 (.mv (.t 1)),
V 12 (.mv (.t 0)),
V 13 (.mv (.t 5)),
V 14 (.idx 6 (.t 12) (.t 13)),
V 15 (.ld (some 6) (.t 14)),
V 16 (.clv (.t 11) [(.t 15)])]) (.cond (.t 16) (.seq (.rg [V 17 (.mv (.t 5)),
V 4 (.mv (.t 17))]) (.ret)) (.skip))))) (.rg [V 18 (.bin .add (.t 8) (.k (.c (.i 1)))),
V 8 (.mv (.t 18))])))
def vf155c : VC := .seq (.rg [V 4 (.mv (.k (.c (.i 0))))]) (.seq (.seq (.rg [V 6 (.mv (.t 0)),
V 7 (.len (.t 6)),
V 8 (.mv (.k (.c (.i 0))))]) (.block 0 (.loop vf155b0))) (.seq (.rg [V 4 (.mv (.k (.c (.i (-1)))))]) (.ret)))
def vf155 : VF := ⟨vf155c,vf155v,[(4,none)]⟩
theorem ok155 : chkF Try.prog Try.f155 vf155 = true := by kernel_rfl
theorem dr155 : drawsB vf155.body = true := by kernel_rfl
/-- loop.example/g00192/impl.partOk -/
def vf156v : List Nat := [0,1,2,6,7]
def vf156c : VC := .seq (.rg [V 6 (.mv (.k (.c (.b false))))]) (.seq (.seq (.rg [V 7 (.mv (.t 1))]) (.cond (.t 7) (.seq (.rg [V 8 (.mv (.t 0)),
V 9 (.bin .ge (.t 8) (.k (.c (.i 0)))),
V 10 (.mv (.t 9)),
Vg 11 10 true (.mv (.t 0)),
Vg 12 10 true (.mv (.t 2)),
Vg 13 10 true (.bin .lt (.t 11) (.t 12)),
V 14 (.pick (.t 10) (.t 13) (.k (.c (.b false)))),
V 6 (.mv (.t 14))]) (.ret)) (.skip))) (.seq (.rg [V 15 (.mv (.t 0)),
V 16 (.bin .eq (.t 15) (.k (.c (.i 0)))),
V 6 (.mv (.t 16))]) (.ret)))
def vf156 : VF := ⟨vf156c,vf156v,[(6,none)]⟩
theorem ok156 : chkF Try.prog Try.f156 vf156 = true := by kernel_rfl
theorem dr156 : drawsB vf156.body = true := by kernel_rfl
/-- slices.ContainsFuncloop.example/g00192/impl.Armloop.example/g00192/impl.Arm -/
def vf157v : List Nat := [0,1,4]
def vf157c : VC := .seq (.rg [V 4 (.mv (.k (.c (.b false))))]) (.seq (.rg [V 5 (.mv (.t 0)),
V 6 (.mv (.t 1)),
V 7 (.call 177 [(.t 5),(.t 6)]),
V 8 (.bin .ge (.t 7) (.k (.c (.i 0)))),
V 4 (.mv (.t 8))]) (.ret))
def vf157 : VF := ⟨vf157c,vf157v,[(4,none)]⟩
theorem ok157 : chkF Try.prog Try.f157 vf157 = true := by kernel_rfl
theorem dr157 : drawsB vf157.body = true := by kernel_rfl
/-- loop.example/g00192/impl.phiOk$1 -/
def vf158v : List Nat := [0,1,2,3]
def vf158c : VC := .seq (.rg [V 2 (.box (.t 0)),
V 3 (.mv (.k (.c (.b false))))]) (.seq (.rg [V 4 (.fad 0 (.t 2)),
V 5 (.ld none (.t 4)),
V 6 (.fad 0 (.t 1)),
V 7 (.ld none (.t 6)),
V 8 (.bin .eq (.t 5) (.t 7)),
V 3 (.mv (.t 8))]) (.ret))
def vf158 : VF := ⟨vf158c,vf158v,[(3,none)]⟩
theorem ok158 : chkF Try.prog Try.f158 vf158 = true := by kernel_rfl
theorem dr158 : drawsB vf158.body = true := by kernel_rfl
/-- loop.example/g00192/spec.l2Value -/
def vf159v : List Nat := [0,1,4]
def vf159c : VC := .seq (.rg [V 4 (.mv (.k (.c (.b false))))]) (.seq (.rg [V 5 (.mv (.t 0)),
V 6 (.bin .ge (.t 5) (.k (.c (.i 0)))),
V 7 (.mv (.t 6)),
Vg 8 7 true (.mv (.t 0)),
Vg 9 7 true (.mv (.t 1)),
Vg 10 7 true (.bin .lt (.t 8) (.t 9)),
V 11 (.pick (.t 7) (.t 10) (.k (.c (.b false)))),
V 4 (.mv (.t 11))]) (.ret))
def vf159 : VF := ⟨vf159c,vf159v,[(4,none)]⟩
theorem ok159 : chkF Try.prog Try.f159 vf159 = true := by kernel_rfl
theorem dr159 : drawsB vf159.body = true := by kernel_rfl
/-- loop.example/g00192/spec.l3Succs -/
def vf160v : List Nat := [0,1,2,4,5,13,14,19,25]
def vf160c : VC := .seq (.rg [V 2 (.box (.t 0)),
V 4 (.mv (.k (.c .ns)))]) (.seq (.rg [V 6 (.fad 0 (.t 2)),
V 7 (.ld none (.t 6)),
V 8 (.mv (.t 1)),
V 9 (.idx 6 (.t 7) (.t 8)),
V 10 (.fad 2 (.t 9)),
V 11 (.ld (some 4) (.t 10)),
V 5 (.alloc [.i 0,.i 0,.i 0,.i 0]),
Vn (.st 4 (.t 5) (.t 11))]) (.seq (.seq (.rg [V 12 (.fad 0 (.t 5)),
V 13 (.ld none (.t 12))]) (.block 0 (.seq (.rg [V 15 (.bin .eq (.t 13) (.k (.c (.i 1)))),
V 14 (.mv (.t 15))]) (.cond (.t 14) (.seq (.rg [V 16 (.fad 2 (.t 5)),
V 17 (.ld none (.t 16)),
V 18 (.bsl 1 [.i 0] 1 [(0,1,(.t 17))]),
V 4 (.mv (.t 18))]) (.ret)) (.seq (.rg [V 20 (.bin .eq (.t 13) (.k (.c (.i 2)))),
V 19 (.mv (.t 20))]) (.cond (.t 19) (.seq (.seq (.rg [V 21 (.fad 2 (.t 5)),
V 22 (.ld none (.t 21)),
V 23 (.fad 3 (.t 5)),
V 24 (.ld none (.t 23)),
V 25 (.bin .eq (.t 22) (.t 24))]) (.cond (.t 25) (.seq (.rg [V 26 (.fad 2 (.t 5)),
V 27 (.ld none (.t 26)),
V 28 (.bsl 1 [.i 0] 1 [(0,1,(.t 27))]),
V 4 (.mv (.t 28))]) (.ret)) (.skip))) (.seq (.rg [V 29 (.fad 2 (.t 5)),
V 30 (.ld none (.t 29)),
V 31 (.fad 3 (.t 5)),
V 32 (.ld none (.t 31)),
V 33 (.bsl 1 [.i 0] 2 [(0,1,(.t 30)),(1,1,(.t 32))]),
V 4 (.mv (.t 33))]) (.ret))) (.skip))))))) (.seq (.rg [V 34 (.bsl 1 [.i 0] 0 []),
V 4 (.mv (.t 34))]) (.ret))))
def vf160 : VF := ⟨vf160c,vf160v,[(4,none)]⟩
theorem ok160 : chkF Try.prog Try.f160 vf160 = true := by kernel_rfl
theorem dr160 : drawsB vf160.body = true := by kernel_rfl
/-- slices.Indexintint -/
def vf161v : List Nat := [0,1,4,5,7,8,9,16]
def vf161b0 : VC := .seq (.rg [V 9 (.bin .lt (.t 8) (.t 7))]) (.seq (.cond (.t 9) (.skip) (.exit 0)) (.seq (.block 1 (.seq (.rg [V 10 (.mv (.t 8)),
V 5 (.mv (.t 10))]) (.seq (.rg [V 11 (.mv (.t 1)),
V 12 (.mv (.t 0)),
V 13 (.mv (.t 5)),
V 14 (.idx 1 (.t 12) (.t 13)),
V 15 (.ld none (.t 14)),
V 16 (.bin .eq (.t 11) (.t 15))]) (.cond (.t 16) (.seq (.rg [V 17 (.mv (.t 5)),
V 4 (.mv (.t 17))]) (.ret)) (.skip))))) (.rg [V 18 (.bin .add (.t 8) (.k (.c (.i 1)))),
V 8 (.mv (.t 18))])))
def vf161c : VC := .seq (.rg [V 4 (.mv (.k (.c (.i 0))))]) (.seq (.seq (.rg [V 6 (.mv (.t 0)),
V 7 (.len (.t 6)),
V 8 (.mv (.k (.c (.i 0))))]) (.block 0 (.loop vf161b0))) (.seq (.rg [V 4 (.mv (.k (.c (.i (-1)))))]) (.ret)))
def vf161 : VF := ⟨vf161c,vf161v,[(4,none)]⟩
theorem ok161 : chkF Try.prog Try.f161 vf161 = true := by kernel_rfl
theorem dr161 : drawsB vf161.body = true := by kernel_rfl
/-- slices.Indexbytebyte -/
def vf162v : List Nat := [0,1,4,5,7,8,9,16]
def vf162b0 : VC := .seq (.rg [V 9 (.bin .lt (.t 8) (.t 7))]) (.seq (.cond (.t 9) (.skip) (.exit 0)) (.seq (.block 1 (.seq (.rg [V 10 (.mv (.t 8)),
V 5 (.mv (.t 10))]) (.seq (.rg [V 11 (.mv (.t 1)),
V 12 (.mv (.t 0)),
V 13 (.mv (.t 5)),
V 14 (.idx 1 (.t 12) (.t 13)),
V 15 (.ld none (.t 14)),
V 16 (.bin .eq (.t 11) (.t 15))]) (.cond (.t 16) (.seq (.rg [V 17 (.mv (.t 5)),
V 4 (.mv (.t 17))]) (.ret)) (.skip))))) (.rg [V 18 (.bin .add (.t 8) (.k (.c (.i 1)))),
V 8 (.mv (.t 18))])))
def vf162c : VC := .seq (.rg [V 4 (.mv (.k (.c (.i 0))))]) (.seq (.seq (.rg [V 6 (.mv (.t 0)),
V 7 (.len (.t 6)),
V 8 (.mv (.k (.c (.i 0))))]) (.block 0 (.loop vf162b0))) (.seq (.rg [V 4 (.mv (.k (.c (.i (-1)))))]) (.ret)))
def vf162 : VF := ⟨vf162c,vf162v,[(4,none)]⟩
theorem ok162 : chkF Try.prog Try.f162 vf162 = true := by kernel_rfl
theorem dr162 : drawsB vf162.body = true := by kernel_rfl
/-- loop.example/g00192/laws.szPhiS -/
def vf163v : List Nat := [0,1,4,5,11,15,25]
def vf163b0 : VC := .seq (.seq (.rg [V 12 (.mv (.t 5)),
V 13 (.mv (.t 0)),
V 14 (.len (.t 13)),
V 15 (.bin .lt (.t 12) (.t 14))]) (.cond (.t 15) (.skip) (.exit 0))) (.seq (.block 1 (.seq (.rg [V 18 (.mv (.t 0)),
V 19 (.mv (.t 5)),
V 20 (.idx 2 (.t 18) (.t 19)),
V 21 (.ld (some 2) (.t 20)),
V 22 (.mv (.t 1)),
V 23 (.call 178 [(.t 21),(.t 22)]),
V 1 (.mv (.t 23))]) (.seq (.rg [V 24 (.mv (.t 1)),
V 25 (.bin .lt (.t 24) (.k (.c (.i 0))))]) (.cond (.t 25) (.seq (.rg [V 4 (.mv (.k (.c (.i (-1)))))]) (.ret)) (.skip))))) (.rg [V 16 (.mv (.t 5)),
V 17 (.bin .add (.t 16) (.k (.c (.i 1)))),
V 5 (.mv (.t 17))]))
def vf163c : VC := .seq (.rg [V 4 (.mv (.k (.c (.i 0))))]) (.seq (.rg [V 6 (.mv (.t 1)),
V 7 (.mv (.t 0)),
V 8 (.len (.t 7)),
V 9 (.bin .sub (.t 6) (.t 8)),
V 1 (.mv (.t 9))]) (.seq (.seq (.rg [V 10 (.mv (.t 1)),
V 11 (.bin .lt (.t 10) (.k (.c (.i 0))))]) (.cond (.t 11) (.seq (.rg [V 4 (.mv (.k (.c (.i (-1)))))]) (.ret)) (.skip))) (.seq (.seq (.rg [V 5 (.mv (.k (.c (.i 0))))]) (.block 0 (.loop vf163b0))) (.seq (.rg [V 26 (.mv (.t 1)),
V 4 (.mv (.t 26))]) (.ret)))))
def vf163 : VF := ⟨vf163c,vf163v,[(4,none)]⟩
theorem ok163 : chkF Try.prog Try.f163 vf163 = true := by kernel_rfl
theorem dr163 : drawsB vf163.body = true := by kernel_rfl
/-- loop.example/g00192/laws.szInsS -/
def vf164v : List Nat := [0,1,4,10]
def vf164c : VC := .seq (.rg [V 4 (.mv (.k (.c (.i 0))))]) (.seq (.rg [V 5 (.mv (.t 1)),
V 6 (.mv (.t 0)),
V 7 (.len (.t 6)),
V 8 (.bin .sub (.t 5) (.t 7)),
V 1 (.mv (.t 8))]) (.seq (.seq (.rg [V 9 (.mv (.t 1)),
V 10 (.bin .lt (.t 9) (.k (.c (.i 0))))]) (.cond (.t 10) (.seq (.rg [V 4 (.mv (.k (.c (.i (-1)))))]) (.ret)) (.skip))) (.seq (.rg [V 11 (.mv (.t 1)),
V 4 (.mv (.t 11))]) (.ret))))
def vf164 : VF := ⟨vf164c,vf164v,[(4,none)]⟩
theorem ok164 : chkF Try.prog Try.f164 vf164 = true := by kernel_rfl
theorem dr164 : drawsB vf164.body = true := by kernel_rfl
/-- loop.example/g00192/laws.toPhiS -/
def vf165v : List Nat := [0,2,3,4,11]
def vf165b0 : VC := .seq (.seq (.rg [V 8 (.mv (.t 4)),
V 9 (.mv (.t 0)),
V 10 (.len (.t 9)),
V 11 (.bin .lt (.t 8) (.t 10))]) (.cond (.t 11) (.skip) (.exit 0))) (.seq (.block 1 (.rg [V 14 (.mv (.t 3)),
V 15 (.mv (.t 4)),
V 16 (.mv (.t 0)),
V 17 (.mv (.t 4)),
V 18 (.idx 2 (.t 16) (.t 17)),
V 19 (.ld (some 2) (.t 18)),
V 20 (.call 179 [(.t 19)]),
V 21 (.idx 2 (.t 14) (.t 15)),
Vn (.st 2 (.t 21) (.t 20))])) (.rg [V 12 (.mv (.t 4)),
V 13 (.bin .add (.t 12) (.k (.c (.i 1)))),
V 4 (.mv (.t 13))]))
def vf165c : VC := .seq (.rg [V 2 (.mv (.k (.c .ns)))]) (.seq (.rg [V 5 (.mv (.t 0)),
V 6 (.len (.t 5)),
V 7 (.mks 2 [.i 0,.ns] (.t 6)),
V 3 (.mv (.t 7))]) (.seq (.seq (.rg [V 4 (.mv (.k (.c (.i 0))))]) (.block 0 (.loop vf165b0))) (.seq (.rg [V 22 (.mv (.t 3)),
V 2 (.mv (.t 22))]) (.ret))))
def vf165 : VF := ⟨vf165c,vf165v,[(2,none)]⟩
theorem ok165 : chkF Try.prog Try.f165 vf165 = true := by kernel_rfl
theorem dr165 : drawsB vf165.body = true := by kernel_rfl
/-- loop.example/g00192/laws.toInsS -/
def vf166v : List Nat := [0,2,3,4,11]
def vf166b0 : VC := .seq (.seq (.rg [V 8 (.mv (.t 4)),
V 9 (.mv (.t 0)),
V 10 (.len (.t 9)),
V 11 (.bin .lt (.t 8) (.t 10))]) (.cond (.t 11) (.skip) (.exit 0))) (.seq (.block 1 (.rg [V 14 (.mv (.t 3)),
V 15 (.mv (.t 4)),
V 16 (.mv (.t 0)),
V 17 (.mv (.t 4)),
V 18 (.idx 5 (.t 16) (.t 17)),
V 19 (.ld (some 5) (.t 18)),
V 20 (.call 180 [(.t 19)]),
V 21 (.idx 5 (.t 14) (.t 15)),
Vn (.st 5 (.t 21) (.t 20))])) (.rg [V 12 (.mv (.t 4)),
V 13 (.bin .add (.t 12) (.k (.c (.i 1)))),
V 4 (.mv (.t 13))]))
def vf166c : VC := .seq (.rg [V 2 (.mv (.k (.c .ns)))]) (.seq (.rg [V 5 (.mv (.t 0)),
V 6 (.len (.t 5)),
V 7 (.mks 5 [.i 0,.i 0,.i 0,.i 0,.i 0] (.t 6)),
V 3 (.mv (.t 7))]) (.seq (.seq (.rg [V 4 (.mv (.k (.c (.i 0))))]) (.block 0 (.loop vf166b0))) (.seq (.rg [V 22 (.mv (.t 3)),
V 2 (.mv (.t 22))]) (.ret))))
def vf166 : VF := ⟨vf166c,vf166v,[(2,none)]⟩
theorem ok166 : chkF Try.prog Try.f166 vf166 = true := by kernel_rfl
theorem dr166 : drawsB vf166.body = true := by kernel_rfl
/-- loop.example/g00192/laws.toTerm -/
def vf167v : List Nat := [0,1,2,3]
def vf167c : VC := .seq (.rg [V 1 (.box (.t 0)),
V 2 (.alloc [.i 0,.i 0,.i 0,.i 0])]) (.seq (.rg [V 3 (.alloc [.i 0,.i 0,.i 0,.i 0])]) (.seq (.rg [V 4 (.fad 0 (.t 1)),
V 5 (.ld none (.t 4)),
V 6 (.fad 0 (.t 3)),
Vn (.st 1 (.t 6) (.t 5))]) (.seq (.rg [V 7 (.fad 1 (.t 1)),
V 8 (.ld none (.t 7)),
V 9 (.fad 1 (.t 3)),
Vn (.st 1 (.t 9) (.t 8))]) (.seq (.rg [V 10 (.fad 2 (.t 1)),
V 11 (.ld none (.t 10)),
V 12 (.fad 2 (.t 3)),
Vn (.st 1 (.t 12) (.t 11))]) (.seq (.rg [V 13 (.fad 3 (.t 1)),
V 14 (.ld none (.t 13)),
V 15 (.fad 3 (.t 3)),
Vn (.st 1 (.t 15) (.t 14))]) (.seq (.rg [V 16 (.ld (some 4) (.t 3)),
Vn (.st 4 (.t 2) (.t 16))]) (.ret)))))))
def vf167 : VF := ⟨vf167c,vf167v,[(2,(some (some 4)))]⟩
theorem ok167 : chkF Try.prog Try.f167 vf167 = true := by kernel_rfl
theorem dr167 : drawsB vf167.body = true := by kernel_rfl
/-- loop.example/g00192/laws.eqPhiS -/
def vf168v : List Nat := [0,1,4,5,10,14,26]
def vf168b0 : VC := .seq (.seq (.rg [V 11 (.mv (.t 5)),
V 12 (.mv (.t 0)),
V 13 (.len (.t 12)),
V 14 (.bin .lt (.t 11) (.t 13))]) (.cond (.t 14) (.skip) (.exit 0))) (.seq (.block 1 (.seq (.rd [V 17 (.mv (.t 0)),
V 18 (.mv (.t 5)),
Vd [0,1] (V 19 (.idx 2 (.t 17) (.t 18))),
Vd [2] (V 20 (.ld (some 2) (.t 19))),
V 21 (.mv (.t 1)),
V 22 (.mv (.t 5)),
Vd [4,5] (V 23 (.idx 2 (.t 21) (.t 22))),
Vd [6] (V 24 (.ld (some 2) (.t 23))),
Vd [3,7] (V 25 (.call 181 [(.t 20),(.t 24)])),
Vd [8] (V 26 (.not (.t 25)))]) (.cond (.t 26) (.seq (.rg [V 4 (.mv (.k (.c (.b false))))]) (.ret)) (.skip)))) (.rg [V 15 (.mv (.t 5)),
V 16 (.bin .add (.t 15) (.k (.c (.i 1)))),
V 5 (.mv (.t 16))]))
def vf168c : VC := .seq (.rg [V 4 (.mv (.k (.c (.b false))))]) (.seq (.seq (.rg [V 6 (.mv (.t 0)),
V 7 (.len (.t 6)),
V 8 (.mv (.t 1)),
V 9 (.len (.t 8)),
V 10 (.bin .ne (.t 7) (.t 9))]) (.cond (.t 10) (.seq (.rg [V 4 (.mv (.k (.c (.b false))))]) (.ret)) (.skip))) (.seq (.seq (.rg [V 5 (.mv (.k (.c (.i 0))))]) (.block 0 (.loop vf168b0))) (.seq (.rg [V 4 (.mv (.k (.c (.b true))))]) (.ret))))
def vf168 : VF := ⟨vf168c,vf168v,[(4,none)]⟩
theorem ok168 : chkF Try.prog Try.f168 vf168 = true := by kernel_rfl
theorem dr168 : drawsB vf168.body = true := by kernel_rfl
/-- loop.example/g00192/laws.eqInsS -/
def vf169v : List Nat := [0,1,4,5,10,14,26]
def vf169b0 : VC := .seq (.seq (.rg [V 11 (.mv (.t 5)),
V 12 (.mv (.t 0)),
V 13 (.len (.t 12)),
V 14 (.bin .lt (.t 11) (.t 13))]) (.cond (.t 14) (.skip) (.exit 0))) (.seq (.block 1 (.seq (.rd [V 17 (.mv (.t 0)),
V 18 (.mv (.t 5)),
Vd [0,1] (V 19 (.idx 5 (.t 17) (.t 18))),
Vd [2] (V 20 (.ld (some 5) (.t 19))),
V 21 (.mv (.t 1)),
V 22 (.mv (.t 5)),
Vd [4,5] (V 23 (.idx 5 (.t 21) (.t 22))),
Vd [6] (V 24 (.ld (some 5) (.t 23))),
Vd [3,7] (V 25 (.call 182 [(.t 20),(.t 24)])),
Vd [8] (V 26 (.not (.t 25)))]) (.cond (.t 26) (.seq (.rg [V 4 (.mv (.k (.c (.b false))))]) (.ret)) (.skip)))) (.rg [V 15 (.mv (.t 5)),
V 16 (.bin .add (.t 15) (.k (.c (.i 1)))),
V 5 (.mv (.t 16))]))
def vf169c : VC := .seq (.rg [V 4 (.mv (.k (.c (.b false))))]) (.seq (.seq (.rg [V 6 (.mv (.t 0)),
V 7 (.len (.t 6)),
V 8 (.mv (.t 1)),
V 9 (.len (.t 8)),
V 10 (.bin .ne (.t 7) (.t 9))]) (.cond (.t 10) (.seq (.rg [V 4 (.mv (.k (.c (.b false))))]) (.ret)) (.skip))) (.seq (.seq (.rg [V 5 (.mv (.k (.c (.i 0))))]) (.block 0 (.loop vf169b0))) (.seq (.rg [V 4 (.mv (.k (.c (.b true))))]) (.ret))))
def vf169 : VF := ⟨vf169c,vf169v,[(4,none)]⟩
theorem ok169 : chkF Try.prog Try.f169 vf169 = true := by kernel_rfl
theorem dr169 : drawsB vf169.body = true := by kernel_rfl
/-- loop.example/g00192/laws.eqTerm -/
def vf170v : List Nat := [0,1,2,3,4,9,14,19,24]
def vf170c : VC := .seq (.rg [V 2 (.box (.t 0)),
V 3 (.box (.t 1)),
V 4 (.mv (.k (.c (.b false))))]) (.seq (.seq (.rg [V 5 (.fad 0 (.t 2)),
V 6 (.ld none (.t 5)),
V 7 (.fad 0 (.t 3)),
V 8 (.ld none (.t 7)),
V 9 (.bin .ne (.t 6) (.t 8))]) (.cond (.t 9) (.seq (.rg [V 4 (.mv (.k (.c (.b false))))]) (.ret)) (.skip))) (.seq (.seq (.rg [V 10 (.fad 1 (.t 2)),
V 11 (.ld none (.t 10)),
V 12 (.fad 1 (.t 3)),
V 13 (.ld none (.t 12)),
V 14 (.bin .ne (.t 11) (.t 13))]) (.cond (.t 14) (.seq (.rg [V 4 (.mv (.k (.c (.b false))))]) (.ret)) (.skip))) (.seq (.seq (.rg [V 15 (.fad 2 (.t 2)),
V 16 (.ld none (.t 15)),
V 17 (.fad 2 (.t 3)),
V 18 (.ld none (.t 17)),
V 19 (.bin .ne (.t 16) (.t 18))]) (.cond (.t 19) (.seq (.rg [V 4 (.mv (.k (.c (.b false))))]) (.ret)) (.skip))) (.seq (.seq (.rg [V 20 (.fad 3 (.t 2)),
V 21 (.ld none (.t 20)),
V 22 (.fad 3 (.t 3)),
V 23 (.ld none (.t 22)),
V 24 (.bin .ne (.t 21) (.t 23))]) (.cond (.t 24) (.seq (.rg [V 4 (.mv (.k (.c (.b false))))]) (.ret)) (.skip))) (.seq (.rg [V 4 (.mv (.k (.c (.b true))))]) (.ret))))))
def vf170 : VF := ⟨vf170c,vf170v,[(4,none)]⟩
theorem ok170 : chkF Try.prog Try.f170 vf170 = true := by kernel_rfl
theorem dr170 : drawsB vf170.body = true := by kernel_rfl
/-- loop.example/g00192/laws.markArmS -/
def vf171v : List Nat := [0,1,4,5,9]
def vf171b0 : VC := .seq (.seq (.rg [V 6 (.mv (.t 5)),
V 7 (.mv (.t 0)),
V 8 (.len (.t 7)),
V 9 (.bin .lt (.t 6) (.t 8))]) (.cond (.t 9) (.skip) (.exit 0))) (.seq (.block 1 (.seq (.rg [V 12 (.mv (.t 0)),
V 13 (.mv (.t 5)),
V 14 (.mv (.t 1)),
V 15 (.idx 2 (.t 12) (.t 13)),
V 16 (.fad 0 (.t 15)),
Vn (.st 1 (.t 16) (.t 14))]) (.seq (.rg [V 17 (.mv (.t 1)),
V 18 (.bin .add (.t 17) (.k (.c (.i 1)))),
V 1 (.mv (.t 18))]) (.seq (.rg [V 19 (.mv (.t 0)),
V 20 (.mv (.t 5)),
V 21 (.mv (.t 1)),
V 22 (.idx 2 (.t 19) (.t 20)),
V 23 (.fad 1 (.t 22)),
Vn (.st 1 (.t 23) (.t 21))]) (.rg [V 24 (.mv (.t 1)),
V 25 (.bin .add (.t 24) (.k (.c (.i 1)))),
V 1 (.mv (.t 25))]))))) (.rg [V 10 (.mv (.t 5)),
V 11 (.bin .add (.t 10) (.k (.c (.i 1)))),
V 5 (.mv (.t 11))]))
def vf171c : VC := .seq (.rg [V 4 (.mv (.k (.c (.i 0))))]) (.seq (.seq (.rg [V 5 (.mv (.k (.c (.i 0))))]) (.block 0 (.loop vf171b0))) (.seq (.rg [V 26 (.mv (.t 1)),
V 4 (.mv (.t 26))]) (.ret)))
def vf171 : VF := ⟨vf171c,vf171v,[(4,none)]⟩
theorem ok171 : chkF Try.prog Try.f171 vf171 = true := by kernel_rfl
theorem dr171 : drawsB vf171.body = true := by kernel_rfl
/-- loop.example/g00192/spec.l2Full -/
def vf172v : List Nat := [0,2]
def vf172c : VC := .seq (.rg [V 2 (.mv (.k (.c (.b false))))]) (.seq (.rg [V 3 (.mv (.t 0)),
V 4 (.nilc (.t 3)),
V 5 (.fad 1 (.t 4)),
V 6 (.fad 1 (.t 5)),
V 7 (.ld none (.t 6)),
V 8 (.bin .gt (.t 7) (.k (.c (.i 56)))),
V 9 (.mv (.t 8)),
Vg 10 9 false (.mv (.t 0)),
Vg 11 9 false (.nilc (.t 10)),
Vg 12 9 false (.fad 1 (.t 11)),
Vg 13 9 false (.fad 0 (.t 12)),
Vg 14 9 false (.ld none (.t 13)),
Vg 15 9 false (.len (.t 14)),
Vg 16 9 false (.bin .gt (.t 15) (.k (.c (.i 11)))),
V 17 (.pick (.t 9) (.k (.c (.b true))) (.t 16)),
V 2 (.mv (.t 17))]) (.ret))
def vf172 : VF := ⟨vf172c,vf172v,[(2,none)]⟩
theorem ok172 : chkF Try.prog Try.f172 vf172 = true := by kernel_rfl
theorem dr172 : drawsB vf172.body = true := by kernel_rfl
/-- loop.example/g00192/spec.l2Step -/
def vf173v : List Nat := [0,1,2,6,7,8,9,10,11,12,27,33,34,54,64,79,111]
def vf173c : VC := .seq (.rg [V 6 (.mv (.k (.c .ns)))]) (.seq (.seq (.rg [V 13 (.mv (.t 0)),
V 14 (.call 172 [(.t 13)]),
V 15 (.mv (.t 14)),
Vg 16 15 false (.mv (.t 0)),
Vg 17 15 false (.nilc (.t 16)),
Vg 18 15 false (.fad 1 (.t 17)),
Vg 19 15 false (.fad 0 (.t 18)),
Vg 20 15 false (.ld none (.t 19)),
Vg 21 15 false (.mv (.t 1)),
Vg 22 15 false (.idx 6 (.t 20) (.t 21)),
Vg 23 15 false (.fad 1 (.t 22)),
Vg 24 15 false (.ld none (.t 23)),
Vg 25 15 false (.len (.t 24)),
Vg 26 15 false (.bin .gt (.t 25) (.k (.c (.i 16)))),
V 27 (.pick (.t 15) (.k (.c (.b true))) (.t 26))]) (.cond (.t 27) (.seq (.rg [V 28 (.mv (.t 2)),
V 6 (.mv (.t 28))]) (.ret)) (.skip))) (.seq (.seq (.rg [V 29 (.mv (.t 0)),
V 30 (.nilc (.t 29)),
V 31 (.fad 0 (.t 30)),
V 32 (.ld none (.t 31)),
V 33 (.call 83 [(.t 32),(.k (.c (.i 9)))])]) (.block 0 (.seq (.rg [V 35 (.bin .eq (.t 33) (.k (.c (.i 0)))),
V 34 (.mv (.t 35))]) (.cond (.t 34) (.seq (.rg [V 36 (.mv (.t 0)),
V 37 (.call 151 [(.t 36)]),
V 7 (.mv (.t 37))]) (.seq (.rg [V 38 (.mv (.t 0)),
V 39 (.mv (.t 1)),
V 40 (.mv (.t 7)),
V 41 (.mv (.t 0)),
V 42 (.nilc (.t 41)),
V 43 (.fad 0 (.t 42)),
V 44 (.ld none (.t 43)),
V 45 (.call 90 [(.t 44)]),
V 46 (.build [.i 0,.i 0,.i 0,.i 0,.i 0] [(0,1,(.k (.c (.i 20)))),(1,1,(.t 40)),(4,1,(.t 45))]),
V 47 (.call 152 [(.t 38),(.t 39),(.t 46)])]) (.seq (.rg [V 48 (.bsl 1 [.i 0] 0 []),
V 49 (.mv (.t 2)),
V 50 (.app 1 (.t 48) (.t 49)),
V 51 (.mv (.t 7)),
V 52 (.bsl 1 [.i 0] 1 [(0,1,(.t 51))]),
V 53 (.app 1 (.t 50) (.t 52)),
V 6 (.mv (.t 53))]) (.ret)))) (.seq (.rg [V 55 (.bin .eq (.t 33) (.k (.c (.i 1)))),
V 54 (.mv (.t 55))]) (.cond (.t 54) (.seq (.rg [V 56 (.mv (.t 0)),
V 57 (.mv (.t 1)),
V 58 (.mv (.t 0)),
V 59 (.mv (.t 2)),
V 60 (.call 154 [(.t 58),(.t 59)]),
V 61 (.build [.i 0,.i 0,.i 0,.i 0,.i 0] [(0,1,(.k (.c (.i 23)))),(2,1,(.t 60))]),
V 62 (.call 152 [(.t 56),(.t 57),(.t 61)])]) (.seq (.rg [V 63 (.mv (.t 2)),
V 6 (.mv (.t 63))]) (.ret))) (.seq (.rg [V 65 (.bin .eq (.t 33) (.k (.c (.i 2)))),
V 64 (.mv (.t 65))]) (.cond (.t 64) (.seq (.rg [V 66 (.mv (.t 0)),
V 67 (.call 151 [(.t 66)]),
V 8 (.mv (.t 67))]) (.seq (.rg [V 68 (.mv (.t 0)),
V 69 (.mv (.t 1)),
V 70 (.mv (.t 8)),
V 71 (.build [.i 0,.i 0,.i 0,.i 0,.i 0] [(0,1,(.k (.c (.i 24)))),(1,1,(.t 70))]),
V 72 (.call 152 [(.t 68),(.t 69),(.t 71)])]) (.seq (.rg [V 73 (.bsl 1 [.i 0] 0 []),
V 74 (.mv (.t 2)),
V 75 (.app 1 (.t 73) (.t 74)),
V 76 (.mv (.t 8)),
V 77 (.bsl 1 [.i 0] 1 [(0,1,(.t 76))]),
V 78 (.app 1 (.t 75) (.t 77)),
V 6 (.mv (.t 78))]) (.ret)))) (.seq (.rg [V 80 (.bin .eq (.t 33) (.k (.c (.i 3)))),
V 79 (.mv (.t 80))]) (.cond (.t 79) (.seq (.rg [V 81 (.mv (.t 0)),
V 82 (.call 151 [(.t 81)]),
V 9 (.mv (.t 82))]) (.seq (.rg [V 83 (.mv (.t 0)),
V 84 (.call 151 [(.t 83)]),
V 10 (.mv (.t 84))]) (.seq (.rg [V 85 (.mv (.t 0)),
V 86 (.call 151 [(.t 85)]),
V 11 (.mv (.t 86))]) (.seq (.rg [V 87 (.mv (.t 0)),
V 88 (.mv (.t 1)),
V 89 (.mv (.t 9)),
V 90 (.mv (.t 0)),
V 91 (.nilc (.t 90)),
V 92 (.fad 0 (.t 91)),
V 93 (.ld none (.t 92)),
V 94 (.bsl 1 [.i 0] 4 [(0,1,(.k (.c (.i 7)))),(1,1,(.k (.c (.i 7)))),(2,1,(.k (.c (.i 7)))),(3,1,(.k (.c (.i 15))))]),
V 95 (.call 123 [(.t 93),(.t 94)]),
V 96 (.build [.i 0,.i 0,.i 0,.i 0,.i 0] [(0,1,(.k (.c (.i 20)))),(1,1,(.t 89)),(4,1,(.t 95))]),
V 97 (.call 152 [(.t 87),(.t 88),(.t 96)])]) (.seq (.rg [V 98 (.mv (.t 0)),
V 99 (.mv (.t 1)),
V 100 (.mv (.t 10)),
V 101 (.mv (.t 0)),
V 102 (.mv (.t 2)),
V 103 (.call 154 [(.t 101),(.t 102)]),
V 104 (.mv (.t 9)),
V 105 (.build [.i 0,.i 0,.i 0,.i 0,.i 0] [(0,1,(.k (.c (.i 4)))),(1,1,(.t 100)),(2,1,(.t 103)),(3,1,(.t 104))]),
V 106 (.call 152 [(.t 98),(.t 99),(.t 105)])]) (.seq (.seq (.rg [V 107 (.mv (.t 0)),
V 108 (.nilc (.t 107)),
V 109 (.fad 0 (.t 108)),
V 110 (.ld none (.t 109)),
V 111 (.call 85 [(.t 110),(.k (.c (.i 2)))])]) (.cond (.t 111) (.seq (.rg [V 112 (.mv (.t 0)),
V 113 (.mv (.t 1)),
V 114 (.mv (.t 10)),
V 115 (.mv (.t 0)),
V 116 (.mv (.t 2)),
V 117 (.call 154 [(.t 115),(.t 116)]),
V 118 (.build [.i 0,.i 0,.i 0,.i 0,.i 0] [(0,1,(.k (.c (.i 22)))),(2,1,(.t 114)),(3,1,(.t 117))]),
V 119 (.call 152 [(.t 112),(.t 113),(.t 118)])]) (.rg [V 120 (.mv (.t 0)),
V 121 (.mv (.t 1)),
V 122 (.mv (.t 11)),
V 123 (.build [.i 0,.i 0,.i 0,.i 0,.i 0] [(0,1,(.k (.c (.i 20)))),(1,1,(.t 122)),(4,1,(.k (.c (.i 1))))]),
V 124 (.call 152 [(.t 120),(.t 121),(.t 123)])])) (.rg [V 125 (.mv (.t 0)),
V 126 (.mv (.t 1)),
V 127 (.mv (.t 11)),
V 128 (.mv (.t 10)),
V 129 (.build [.i 0,.i 0,.i 0,.i 0,.i 0] [(0,1,(.k (.c (.i 21)))),(1,1,(.t 127)),(2,1,(.t 128))]),
V 130 (.call 152 [(.t 125),(.t 126),(.t 129)])]))) (.seq (.rg [V 131 (.bsl 1 [.i 0] 0 []),
V 132 (.mv (.t 2)),
V 133 (.app 1 (.t 131) (.t 132)),
V 134 (.mv (.t 9)),
V 135 (.mv (.t 10)),
V 136 (.mv (.t 11)),
V 137 (.bsl 1 [.i 0] 3 [(0,1,(.t 134)),(1,1,(.t 135)),(2,1,(.t 136))]),
V 138 (.app 1 (.t 133) (.t 137)),
V 6 (.mv (.t 138))]) (.ret)))))))) (.skip))))))))))) (.seq (.rg [V 139 (.mv (.t 0)),
V 140 (.call 151 [(.t 139)]),
V 12 (.mv (.t 140))]) (.seq (.rg [V 141 (.mv (.t 0)),
V 142 (.mv (.t 1)),
V 143 (.mv (.t 0)),
V 144 (.nilc (.t 143)),
V 145 (.fad 0 (.t 144)),
V 146 (.ld none (.t 145)),
V 147 (.call 83 [(.t 146),(.k (.c (.i 10)))]),
V 148 (.bin .add (.k (.c (.i 1))) (.t 147)),
V 149 (.mv (.t 12)),
V 150 (.mv (.t 0)),
V 151 (.mv (.t 2)),
V 152 (.call 154 [(.t 150),(.t 151)]),
V 153 (.mv (.t 0)),
V 154 (.mv (.t 2)),
V 155 (.call 154 [(.t 153),(.t 154)]),
V 156 (.build [.i 0,.i 0,.i 0,.i 0,.i 0] [(0,1,(.t 148)),(1,1,(.t 149)),(2,1,(.t 152)),(3,1,(.t 155))]),
V 157 (.call 152 [(.t 141),(.t 142),(.t 156)])]) (.seq (.rg [V 158 (.bsl 1 [.i 0] 0 []),
V 159 (.mv (.t 2)),
V 160 (.app 1 (.t 158) (.t 159)),
V 161 (.mv (.t 12)),
V 162 (.bsl 1 [.i 0] 1 [(0,1,(.t 161))]),
V 163 (.app 1 (.t 160) (.t 162)),
V 6 (.mv (.t 163))]) (.ret))))))
def vf173 : VF := ⟨vf173c,vf173v,[(6,none)]⟩
theorem ok173 : chkF Try.prog Try.f173 vf173 = true := by kernel_rfl
theorem dr173 : drawsB vf173.body = true := by kernel_rfl
/-- loop.example/g00192/spec.l2If -/
def vf174v : List Nat := [0,1,2,3,8,9,10,11,12,13,14,15,16,17,18,19,84]
def vf174b0 : VC := .seq (.seq (.rg [V 77 (.mv (.t 18)),
V 78 (.mv (.t 0)),
V 79 (.nilc (.t 78)),
V 80 (.fad 0 (.t 79)),
V 81 (.ld none (.t 80)),
V 82 (.call 83 [(.t 81),(.k (.c (.i 2)))]),
V 83 (.bin .add (.k (.c (.i 1))) (.t 82)),
V 84 (.bin .lt (.t 77) (.t 83))]) (.cond (.t 84) (.skip) (.exit 0))) (.seq (.block 1 (.seq (.rg [V 87 (.mv (.t 0)),
V 88 (.call 151 [(.t 87)]),
V 19 (.mv (.t 88))]) (.seq (.rd [V 89 (.mv (.t 0)),
Vd [0] (V 90 (.nilc (.t 89))),
Vd [1] (V 91 (.fad 1 (.t 90))),
Vd [2] (V 92 (.fad 0 (.t 91))),
Vc [3] [] true (V 93 (.ld none (.t 92))),
V 94 (.mv (.t 17)),
V 95 (.mv (.t 0)),
Vd [6] (V 96 (.nilc (.t 95))),
Vd [7] (V 97 (.fad 1 (.t 96))),
Vd [8] (V 98 (.fad 0 (.t 97))),
Vc [9] [] true (V 99 (.ld none (.t 98))),
V 100 (.mv (.t 17)),
Vd [10,11] (V 101 (.idx 6 (.t 99) (.t 100))),
Vd [12] (V 102 (.fad 0 (.t 101))),
Vc [13] [] true (V 103 (.ld none (.t 102))),
V 104 (.mv (.t 19)),
V 105 (.mv (.t 13)),
V 106 (.mv (.t 0)),
V 107 (.mv (.t 14)),
Vc [17,18] [4,10,14] false (V 108 (.call 154 [(.t 106),(.t 107)])),
Vd [16,19] (V 109 (.build [.i 0,.i 0] [(0,1,(.t 105)),(1,1,(.t 108))])),
V 110 (.mv (.t 15)),
V 111 (.mv (.t 0)),
V 112 (.mv (.t 16)),
Vc [19,22,23] [4,10,14] false (V 113 (.call 154 [(.t 111),(.t 112)])),
Vd [21,24] (V 114 (.build [.i 0,.i 0] [(0,1,(.t 110)),(1,1,(.t 113))])),
Vc [20,25] [4,10,14] false (V 115 (.bsl 2 [.i 0,.i 0] 2 [(0,2,(.t 109)),(2,2,(.t 114))])),
Vd [15,26] (V 116 (.build [.i 0,.ns] [(0,1,(.t 104)),(1,1,(.t 115))])),
Vc [27] [4,10,14] false (V 117 (.bsl 2 [.i 0,.ns] 1 [(0,2,(.t 116))])),
Vc [14,28] [4] false (V 118 (.app 2 (.t 103) (.t 117))),
Vd [4,5,29] (V 119 (.idx 6 (.t 93) (.t 94))),
Vd [30] (V 120 (.fad 0 (.t 119))),
Vd [31] (Vn (.st 1 (.t 120) (.t 118)))]) (.rg [V 121 (.bsl 1 [.i 0] 0 []),
V 122 (.mv (.t 2)),
V 123 (.app 1 (.t 121) (.t 122)),
V 124 (.mv (.t 19)),
V 125 (.bsl 1 [.i 0] 1 [(0,1,(.t 124))]),
V 126 (.app 1 (.t 123) (.t 125)),
V 2 (.mv (.t 126))])))) (.rg [V 85 (.mv (.t 18)),
V 86 (.bin .add (.t 85) (.k (.c (.i 1)))),
V 18 (.mv (.t 86))]))
def vf174c : VC := .seq (.rg [V 8 (.mv (.k (.c (.i 0)))),
V 9 (.mv (.k (.c .ns)))]) (.seq (.rg [V 20 (.mv (.t 0)),
V 21 (.mv (.t 2)),
V 22 (.call 154 [(.t 20),(.t 21)]),
V 10 (.mv (.t 22))]) (.seq (.rg [V 23 (.mv (.t 0)),
V 24 (.call 150 [(.t 23)]),
V 11 (.mv (.t 24))]) (.seq (.rg [V 25 (.mv (.t 0)),
V 26 (.call 150 [(.t 25)]),
V 12 (.mv (.t 26))]) (.seq (.rg [V 27 (.mv (.t 0)),
V 28 (.nilc (.t 27)),
V 29 (.fad 1 (.t 28)),
V 30 (.fad 0 (.t 29)),
V 31 (.ld none (.t 30)),
V 32 (.mv (.t 1)),
V 33 (.mv (.t 10)),
V 34 (.mv (.t 11)),
V 35 (.mv (.t 12)),
V 36 (.build [.i 0,.i 0,.i 0,.i 0] [(0,1,(.k (.c (.i 2)))),(1,1,(.t 33)),(2,1,(.t 34)),(3,1,(.t 35))]),
V 37 (.idx 6 (.t 31) (.t 32)),
V 38 (.fad 2 (.t 37)),
Vn (.st 4 (.t 38) (.t 36))]) (.seq (.rg [V 40 (.mv (.t 0)),
V 41 (.mv (.t 11)),
V 42 (.mv (.t 2)),
V 43 (.mv (.t 3)),
V 44 (.call 153 [(.t 40),(.t 41),(.t 42),(.t 43)]),
V 39 (.mv (.t 44)),
V 45 (.ext 0 (.t 39)),
V 46 (.ext 1 (.t 39)),
V 13 (.mv (.t 45)),
V 14 (.mv (.t 46))]) (.seq (.rg [V 48 (.mv (.t 0)),
V 49 (.mv (.t 12)),
V 50 (.mv (.t 2)),
V 51 (.mv (.t 3)),
V 52 (.call 153 [(.t 48),(.t 49),(.t 50),(.t 51)]),
V 47 (.mv (.t 52)),
V 53 (.ext 0 (.t 47)),
V 54 (.ext 1 (.t 47)),
V 15 (.mv (.t 53)),
V 16 (.mv (.t 54))]) (.seq (.rg [V 55 (.mv (.t 0)),
V 56 (.call 150 [(.t 55)]),
V 17 (.mv (.t 56))]) (.seq (.rg [V 57 (.mv (.t 0)),
V 58 (.nilc (.t 57)),
V 59 (.fad 1 (.t 58)),
V 60 (.fad 0 (.t 59)),
V 61 (.ld none (.t 60)),
V 62 (.mv (.t 13)),
V 63 (.mv (.t 17)),
V 64 (.build [.i 0,.i 0,.i 0,.i 0] [(0,1,(.k (.c (.i 1)))),(2,1,(.t 63))]),
V 65 (.idx 6 (.t 61) (.t 62)),
V 66 (.fad 2 (.t 65)),
Vn (.st 4 (.t 66) (.t 64))]) (.seq (.rg [V 67 (.mv (.t 0)),
V 68 (.nilc (.t 67)),
V 69 (.fad 1 (.t 68)),
V 70 (.fad 0 (.t 69)),
V 71 (.ld none (.t 70)),
V 72 (.mv (.t 15)),
V 73 (.mv (.t 17)),
V 74 (.build [.i 0,.i 0,.i 0,.i 0] [(0,1,(.k (.c (.i 1)))),(2,1,(.t 73))]),
V 75 (.idx 6 (.t 71) (.t 72)),
V 76 (.fad 2 (.t 75)),
Vn (.st 4 (.t 76) (.t 74))]) (.seq (.seq (.rg [V 18 (.mv (.k (.c (.i 0))))]) (.block 0 (.loop vf174b0))) (.seq (.rg [V 127 (.mv (.t 17)),
V 128 (.mv (.t 2)),
V 8 (.mv (.t 127)),
V 9 (.mv (.t 128))]) (.ret))))))))))))
def vf174 : VF := ⟨vf174c,vf174v,[(8,none),(9,none)]⟩
theorem ok174 : chkF Try.prog Try.f174 vf174 = true := by kernel_rfl
theorem dr174 : drawsB vf174.body = true := by kernel_rfl
/-- loop.example/g00192/spec.l2When -/
def vf175v : List Nat := [0,1,2,3,8,9,10,11,12,13,14,15]
def vf175c : VC := .seq (.rg [V 8 (.mv (.k (.c (.i 0)))),
V 9 (.mv (.k (.c .ns)))]) (.seq (.rg [V 16 (.mv (.t 0)),
V 17 (.mv (.t 2)),
V 18 (.call 154 [(.t 16),(.t 17)]),
V 10 (.mv (.t 18))]) (.seq (.rg [V 19 (.mv (.t 0)),
V 20 (.call 150 [(.t 19)]),
V 11 (.mv (.t 20))]) (.seq (.rg [V 22 (.mv (.t 0)),
V 23 (.mv (.t 11)),
V 24 (.mv (.t 2)),
V 25 (.mv (.t 3)),
V 26 (.call 153 [(.t 22),(.t 23),(.t 24),(.t 25)]),
V 21 (.mv (.t 26)),
V 27 (.ext 0 (.t 21)),
V 28 (.ext 1 (.t 21)),
V 12 (.mv (.t 27)),
V 13 (.mv (.t 28))]) (.seq (.rg [V 29 (.mv (.t 0)),
V 30 (.call 150 [(.t 29)]),
V 14 (.mv (.t 30))]) (.seq (.rg [V 31 (.mv (.t 0)),
V 32 (.nilc (.t 31)),
V 33 (.fad 1 (.t 32)),
V 34 (.fad 0 (.t 33)),
V 35 (.ld none (.t 34)),
V 36 (.mv (.t 1)),
V 37 (.mv (.t 10)),
V 38 (.mv (.t 11)),
V 39 (.mv (.t 14)),
V 40 (.build [.i 0,.i 0,.i 0,.i 0] [(0,1,(.k (.c (.i 2)))),(1,1,(.t 37)),(2,1,(.t 38)),(3,1,(.t 39))]),
V 41 (.idx 6 (.t 35) (.t 36)),
V 42 (.fad 2 (.t 41)),
Vn (.st 4 (.t 42) (.t 40))]) (.seq (.rg [V 43 (.mv (.t 0)),
V 44 (.nilc (.t 43)),
V 45 (.fad 1 (.t 44)),
V 46 (.fad 0 (.t 45)),
V 47 (.ld none (.t 46)),
V 48 (.mv (.t 12)),
V 49 (.mv (.t 14)),
V 50 (.build [.i 0,.i 0,.i 0,.i 0] [(0,1,(.k (.c (.i 1)))),(2,1,(.t 49))]),
V 51 (.idx 6 (.t 47) (.t 48)),
V 52 (.fad 2 (.t 51)),
Vn (.st 4 (.t 52) (.t 50))]) (.seq (.rg [V 53 (.mv (.t 0)),
V 54 (.call 151 [(.t 53)]),
V 15 (.mv (.t 54))]) (.seq (.rd [V 55 (.mv (.t 0)),
Vd [0] (V 56 (.nilc (.t 55))),
Vd [1] (V 57 (.fad 1 (.t 56))),
Vd [2] (V 58 (.fad 0 (.t 57))),
Vc [3] [] true (V 59 (.ld none (.t 58))),
V 60 (.mv (.t 14)),
V 61 (.mv (.t 15)),
V 62 (.mv (.t 1)),
V 63 (.mv (.t 0)),
V 64 (.mv (.t 2)),
Vc [8,9] [4] false (V 65 (.call 154 [(.t 63),(.t 64)])),
Vd [7,10] (V 66 (.build [.i 0,.i 0] [(0,1,(.t 62)),(1,1,(.t 65))])),
V 67 (.mv (.t 12)),
V 68 (.mv (.t 0)),
V 69 (.mv (.t 13)),
Vc [10,13,14] [4] false (V 70 (.call 154 [(.t 68),(.t 69)])),
Vd [12,15] (V 71 (.build [.i 0,.i 0] [(0,1,(.t 67)),(1,1,(.t 70))])),
Vc [11,16] [4] false (V 72 (.bsl 2 [.i 0,.i 0] 2 [(0,2,(.t 66)),(2,2,(.t 71))])),
Vd [6,17] (V 73 (.build [.i 0,.ns] [(0,1,(.t 61)),(1,1,(.t 72))])),
Vc [18] [4] false (V 74 (.bsl 2 [.i 0,.ns] 1 [(0,2,(.t 73))])),
Vd [4,5,19] (V 75 (.idx 6 (.t 59) (.t 60))),
Vd [20] (V 76 (.fad 0 (.t 75))),
Vd [21] (Vn (.st 1 (.t 76) (.t 74)))]) (.seq (.rg [V 77 (.mv (.t 14)),
V 78 (.bsl 1 [.i 0] 0 []),
V 79 (.mv (.t 2)),
V 80 (.app 1 (.t 78) (.t 79)),
V 81 (.mv (.t 15)),
V 82 (.bsl 1 [.i 0] 1 [(0,1,(.t 81))]),
V 83 (.app 1 (.t 80) (.t 82)),
V 8 (.mv (.t 77)),
V 9 (.mv (.t 83))]) (.ret))))))))))
def vf175 : VF := ⟨vf175c,vf175v,[(8,none),(9,none)]⟩
theorem ok175 : chkF Try.prog Try.f175 vf175 = true := by kernel_rfl
theorem dr175 : drawsB vf175.body = true := by kernel_rfl
/-- loop.example/g00192/spec.l2Loop -/
def vf176v : List Nat := [0,1,2,3,8,9,10,11,12,13,14,15,16,17,18,19,20,21,22,23]
def vf176r0 : List VO := [V 126 (.mv (.t 0)),Vd [0] (V 127 (.nilc (.t 126))),Vd [1] (V 128 (.fad 1 (.t 127))),Vd [2] (V 129 (.fad 0 (.t 128))),Vd [3] (V 130 (.ld none (.t 129))),V 131 (.mv (.t 12)),V 132 (.mv (.t 14)),V 133 (.mv (.t 1)),V 134 (.mv (.t 10)),Vd [7,8] (V 135 (.build [.i 0,.i 0] [(0,1,(.t 133)),(1,1,(.t 134))])),V 136 (.mv (.t 18)),V 137 (.mv (.t 20)),Vd [10,11] (V 138 (.build [.i 0,.i 0] [(0,1,(.t 136)),(1,1,(.t 137))])),Vd [9,12] (V 139 (.bsl 2 [.i 0,.i 0] 2 [(0,2,(.t 135)),(2,2,(.t 138))])),Vd [6,13] (V 140 (.build [.i 0,.ns] [(0,1,(.t 132)),(1,1,(.t 139))])),V 141 (.mv (.t 15)),V 142 (.mv (.t 1)),V 143 (.mv (.t 0)),V 144 (.mv (.t 2)),Vd [17,18] (V 145 (.call 154 [(.t 143),(.t 144)])),Vd [16,19] (V 146 (.build [.i 0,.i 0] [(0,1,(.t 142)),(1,1,(.t 145))])),V 147 (.mv (.t 18)),V 148 (.mv (.t 0)),Vd [22] (V 149 (.nilc (.t 148))),Vd [23] (V 150 (.fad 0 (.t 149))),Vd [24] (V 151 (.ld none (.t 150))),V 152 (.mv (.t 16)),V 153 (.mv (.t 22)),Vd [26,27] (V 154 (.bsl 1 [.i 0] 2 [(0,1,(.t 152)),(1,1,(.t 153))])),Vd [19,25,28] (V 155 (.call 123 [(.t 151),(.t 154)])),Vd [21,29] (V 156 (.build [.i 0,.i 0] [(0,1,(.t 147)),(1,1,(.t 155))])),Vd [20,30] (V 157 (.bsl 2 [.i 0,.i 0] 2 [(0,2,(.t 146)),(2,2,(.t 156))])),Vd [15,31] (V 158 (.build [.i 0,.ns] [(0,1,(.t 141)),(1,1,(.t 157))])),V 159 (.mv (.t 16)),V 160 (.mv (.t 1)),V 161 (.mv (.t 11)),Vd [34,35] (V 162 (.build [.i 0,.i 0] [(0,1,(.t 160)),(1,1,(.t 161))])),V 163 (.mv (.t 18)),V 164 (.mv (.t 23)),Vd [37,38] (V 165 (.build [.i 0,.i 0] [(0,1,(.t 163)),(1,1,(.t 164))])),Vd [36,39] (V 166 (.bsl 2 [.i 0,.i 0] 2 [(0,2,(.t 162)),(2,2,(.t 165))])),Vd [33,40] (V 167 (.build [.i 0,.ns] [(0,1,(.t 159)),(1,1,(.t 166))])),Vd [14,32,41] (V 168 (.bsl 2 [.i 0,.ns] 3 [(0,2,(.t 140)),(2,2,(.t 158)),(4,2,(.t 167))])),Vd [4,5,42] (V 169 (.idx 6 (.t 130) (.t 131))),Vd [43] (V 170 (.fad 0 (.t 169))),Vd [44] (Vn (.st 1 (.t 170) (.t 168)))]
def vf176t0 : VT := .all vf176r0
def vf176c : VC := .seq (.rg [V 8 (.mv (.k (.c (.i 0)))),
V 9 (.mv (.k (.c .ns)))]) (.seq (.rg [V 24 (.mv (.t 0)),
V 25 (.call 151 [(.t 24)]),
V 10 (.mv (.t 25))]) (.seq (.rg [V 26 (.mv (.t 0)),
V 27 (.call 151 [(.t 26)]),
V 11 (.mv (.t 27))]) (.seq (.rg [V 28 (.mv (.t 0)),
V 29 (.mv (.t 1)),
V 30 (.mv (.t 10)),
V 31 (.mv (.t 0)),
V 32 (.nilc (.t 31)),
V 33 (.fad 0 (.t 32)),
V 34 (.ld none (.t 33)),
V 35 (.call 83 [(.t 34),(.k (.c (.i 5)))]),
V 36 (.build [.i 0,.i 0,.i 0,.i 0,.i 0] [(0,1,(.k (.c (.i 20)))),(1,1,(.t 30)),(4,1,(.t 35))]),
V 37 (.call 152 [(.t 28),(.t 29),(.t 36)])]) (.seq (.rg [V 38 (.mv (.t 0)),
V 39 (.mv (.t 1)),
V 40 (.mv (.t 11)),
V 41 (.build [.i 0,.i 0,.i 0,.i 0,.i 0] [(0,1,(.k (.c (.i 20)))),(1,1,(.t 40)),(4,1,(.k (.c (.i 1))))]),
V 42 (.call 152 [(.t 38),(.t 39),(.t 41)])]) (.seq (.rg [V 43 (.mv (.t 0)),
V 44 (.call 150 [(.t 43)]),
V 12 (.mv (.t 44))]) (.seq (.rg [V 45 (.mv (.t 0)),
V 46 (.call 150 [(.t 45)]),
V 13 (.mv (.t 46))]) (.seq (.rg [V 47 (.mv (.t 0)),
V 48 (.nilc (.t 47)),
V 49 (.fad 1 (.t 48)),
V 50 (.fad 0 (.t 49)),
V 51 (.ld none (.t 50)),
V 52 (.mv (.t 1)),
V 53 (.mv (.t 12)),
V 54 (.build [.i 0,.i 0,.i 0,.i 0] [(0,1,(.k (.c (.i 1)))),(2,1,(.t 53))]),
V 55 (.idx 6 (.t 51) (.t 52)),
V 56 (.fad 2 (.t 55)),
Vn (.st 4 (.t 56) (.t 54))]) (.seq (.rg [V 57 (.mv (.t 0)),
V 58 (.call 151 [(.t 57)]),
V 14 (.mv (.t 58))]) (.seq (.rg [V 59 (.mv (.t 0)),
V 60 (.call 151 [(.t 59)]),
V 15 (.mv (.t 60))]) (.seq (.rg [V 61 (.mv (.t 0)),
V 62 (.call 151 [(.t 61)]),
V 16 (.mv (.t 62))]) (.seq (.rg [V 63 (.bsl 1 [.i 0] 0 []),
V 64 (.mv (.t 2)),
V 65 (.app 1 (.t 63) (.t 64)),
V 66 (.mv (.t 14)),
V 67 (.mv (.t 15)),
V 68 (.mv (.t 16)),
V 69 (.bsl 1 [.i 0] 3 [(0,1,(.t 66)),(1,1,(.t 67)),(2,1,(.t 68))]),
V 70 (.app 1 (.t 65) (.t 69)),
V 17 (.mv (.t 70))]) (.seq (.rg [V 72 (.mv (.t 0)),
V 73 (.mv (.t 13)),
V 74 (.mv (.t 17)),
V 75 (.mv (.t 3)),
V 76 (.call 153 [(.t 72),(.t 73),(.t 74),(.t 75)]),
V 71 (.mv (.t 76)),
V 77 (.ext 0 (.t 71)),
V 78 (.ext 1 (.t 71)),
V 18 (.mv (.t 77)),
V 19 (.mv (.t 78))]) (.seq (.rg [V 79 (.mv (.t 0)),
V 80 (.call 151 [(.t 79)]),
V 20 (.mv (.t 80))]) (.seq (.rg [V 81 (.mv (.t 0)),
V 82 (.mv (.t 18)),
V 83 (.mv (.t 20)),
V 84 (.mv (.t 14)),
V 85 (.mv (.t 11)),
V 86 (.build [.i 0,.i 0,.i 0,.i 0,.i 0] [(0,1,(.k (.c (.i 2)))),(1,1,(.t 83)),(2,1,(.t 84)),(3,1,(.t 85))]),
V 87 (.call 152 [(.t 81),(.t 82),(.t 86)])]) (.seq (.rg [V 88 (.mv (.t 0)),
V 89 (.nilc (.t 88)),
V 90 (.fad 1 (.t 89)),
V 91 (.fad 0 (.t 90)),
V 92 (.ld none (.t 91)),
V 93 (.mv (.t 18)),
V 94 (.mv (.t 12)),
V 95 (.build [.i 0,.i 0,.i 0,.i 0] [(0,1,(.k (.c (.i 1)))),(2,1,(.t 94))]),
V 96 (.idx 6 (.t 92) (.t 93)),
V 97 (.fad 2 (.t 96)),
Vn (.st 4 (.t 97) (.t 95))]) (.seq (.rg [V 98 (.mv (.t 0)),
V 99 (.call 150 [(.t 98)]),
V 21 (.mv (.t 99))]) (.seq (.rg [V 100 (.mv (.t 0)),
V 101 (.nilc (.t 100)),
V 102 (.fad 1 (.t 101)),
V 103 (.fad 0 (.t 102)),
V 104 (.ld none (.t 103)),
V 105 (.mv (.t 12)),
V 106 (.mv (.t 14)),
V 107 (.mv (.t 13)),
V 108 (.mv (.t 21)),
V 109 (.build [.i 0,.i 0,.i 0,.i 0] [(0,1,(.k (.c (.i 2)))),(1,1,(.t 106)),(2,1,(.t 107)),(3,1,(.t 108))]),
V 110 (.idx 6 (.t 104) (.t 105)),
V 111 (.fad 2 (.t 110)),
Vn (.st 4 (.t 111) (.t 109))]) (.seq (.rg [V 112 (.mv (.t 0)),
V 113 (.mv (.t 19)),
V 114 (.call 154 [(.t 112),(.t 113)]),
V 22 (.mv (.t 114))]) (.seq (.rd [V 115 (.mv (.t 0)),
Vd [0] (V 116 (.nilc (.t 115))),
Vd [1] (V 117 (.fad 0 (.t 116))),
Vc [2] [] true (V 118 (.ld none (.t 117))),
V 119 (.mv (.t 15)),
V 120 (.mv (.t 0)),
V 121 (.mv (.t 19)),
Vc [5,6] [3] false (V 122 (.call 154 [(.t 120),(.t 121)])),
V 123 (.mv (.t 15)),
Vc [4,7,8] [3] false (V 124 (.bsl 1 [.i 0] 3 [(0,1,(.t 119)),(1,1,(.t 122)),(2,1,(.t 123))])),
Vd [3,9] (V 125 (.call 123 [(.t 118),(.t 124)])),
Vd [10] (V 23 (.mv (.t 125)))]) (.seq (.rx vf176r0 vf176t0) (.seq (.rg [V 171 (.mv (.t 21)),
V 172 (.mv (.t 17)),
V 8 (.mv (.t 171)),
V 9 (.mv (.t 172))]) (.ret))))))))))))))))))))))
def vf176 : VF := ⟨vf176c,vf176v,[(8,none),(9,none)]⟩
theorem ok176 : chkF Try.prog Try.f176 vf176 = true := by kernel_rfl
theorem dr176 : drawsB vf176.body = true := by kernel_rfl
/-- slices.IndexFuncloop.example/g00192/impl.Armloop.example/g00192/impl.Arm -/
def vf177v : List Nat := [0,1,4,5,7,8,9,16]
def vf177b0 : VC := .seq (.rg [V 9 (.bin .lt (.t 8) (.t 7))]) (.seq (.cond (.t 9) (.skip) (.exit 0)) (.seq (.block 1 (.seq (.rg [V 10 (.mv (.t 8)),
V 5 (.mv (.t 10))]) (.seq (.rg [V 11 (.mv (.t 1)),
V 12 (.mv (.t 0)),
V 13 (.mv (.t 5)),
V 14 (.idx 2 (.t 12) (.t 13)),
V 15 (.ld (some 2) (.t 14)),
V 16 (.clv (.t 11) [(.t 15)])]) (.cond (.t 16) (.seq (.rg [V 17 (.mv (.t 5)),
V 4 (.mv (.t 17))]) (.ret)) (.skip))))) (.rg [V 18 (.bin .add (.t 8) (.k (.c (.i 1)))),
V 8 (.mv (.t 18))])))
def vf177c : VC := .seq (.rg [V 4 (.mv (.k (.c (.i 0))))]) (.seq (.seq (.rg [V 6 (.mv (.t 0)),
V 7 (.len (.t 6)),
V 8 (.mv (.k (.c (.i 0))))]) (.block 0 (.loop vf177b0))) (.seq (.rg [V 4 (.mv (.k (.c (.i (-1)))))]) (.ret)))
def vf177 : VF := ⟨vf177c,vf177v,[(4,none)]⟩
theorem ok177 : chkF Try.prog Try.f177 vf177 = true := by kernel_rfl
theorem dr177 : drawsB vf177.body = true := by kernel_rfl
/-- loop.example/g00192/laws.szPhi -/
def vf178v : List Nat := [0,1,2,4,10]
def vf178c : VC := .seq (.rg [V 2 (.box (.t 0)),
V 4 (.mv (.k (.c (.i 0))))]) (.seq (.rg [V 5 (.fad 1 (.t 2)),
V 6 (.ld none (.t 5)),
V 7 (.mv (.t 1)),
V 8 (.call 183 [(.t 6),(.t 7)]),
V 1 (.mv (.t 8))]) (.seq (.seq (.rg [V 9 (.mv (.t 1)),
V 10 (.bin .lt (.t 9) (.k (.c (.i 0))))]) (.cond (.t 10) (.seq (.rg [V 4 (.mv (.k (.c (.i (-1)))))]) (.ret)) (.skip))) (.seq (.rg [V 11 (.mv (.t 1)),
V 4 (.mv (.t 11))]) (.ret))))
def vf178 : VF := ⟨vf178c,vf178v,[(4,none)]⟩
theorem ok178 : chkF Try.prog Try.f178 vf178 = true := by kernel_rfl
theorem dr178 : drawsB vf178.body = true := by kernel_rfl
/-- loop.example/g00192/laws.toPhi -/
def vf179v : List Nat := [0,1,2,3]
def vf179c : VC := .seq (.rg [V 1 (.box (.t 0)),
V 2 (.alloc [.i 0,.ns])]) (.seq (.rg [V 3 (.alloc [.i 0,.ns])]) (.seq (.rg [V 4 (.fad 0 (.t 1)),
V 5 (.ld none (.t 4)),
V 6 (.fad 0 (.t 3)),
Vn (.st 1 (.t 6) (.t 5))]) (.seq (.rg [V 7 (.fad 1 (.t 1)),
V 8 (.ld none (.t 7)),
V 9 (.call 184 [(.t 8)]),
V 10 (.fad 1 (.t 3)),
Vn (.st 1 (.t 10) (.t 9))]) (.seq (.rg [V 11 (.ld (some 2) (.t 3)),
Vn (.st 2 (.t 2) (.t 11))]) (.ret)))))
def vf179 : VF := ⟨vf179c,vf179v,[(2,(some (some 2)))]⟩
theorem ok179 : chkF Try.prog Try.f179 vf179 = true := by kernel_rfl
theorem dr179 : drawsB vf179.body = true := by kernel_rfl
/-- loop.example/g00192/laws.toIns -/
def vf180v : List Nat := [0,1,2,3]
def vf180c : VC := .seq (.rg [V 1 (.box (.t 0)),
V 2 (.alloc [.i 0,.i 0,.i 0,.i 0,.i 0])]) (.seq (.rg [V 3 (.alloc [.i 0,.i 0,.i 0,.i 0,.i 0])]) (.seq (.rg [V 4 (.fad 0 (.t 1)),
V 5 (.ld none (.t 4)),
V 6 (.fad 0 (.t 3)),
Vn (.st 1 (.t 6) (.t 5))]) (.seq (.rg [V 7 (.fad 1 (.t 1)),
V 8 (.ld none (.t 7)),
V 9 (.fad 1 (.t 3)),
Vn (.st 1 (.t 9) (.t 8))]) (.seq (.rg [V 10 (.fad 2 (.t 1)),
V 11 (.ld none (.t 10)),
V 12 (.fad 2 (.t 3)),
Vn (.st 1 (.t 12) (.t 11))]) (.seq (.rg [V 13 (.fad 3 (.t 1)),
V 14 (.ld none (.t 13)),
V 15 (.fad 3 (.t 3)),
Vn (.st 1 (.t 15) (.t 14))]) (.seq (.rg [V 16 (.fad 4 (.t 1)),
V 17 (.ld none (.t 16)),
V 18 (.fad 4 (.t 3)),
Vn (.st 1 (.t 18) (.t 17))]) (.seq (.rg [V 19 (.ld (some 5) (.t 3)),
Vn (.st 5 (.t 2) (.t 19))]) (.ret))))))))
def vf180 : VF := ⟨vf180c,vf180v,[(2,(some (some 5)))]⟩
theorem ok180 : chkF Try.prog Try.f180 vf180 = true := by kernel_rfl
theorem dr180 : drawsB vf180.body = true := by kernel_rfl
/-- loop.example/g00192/laws.eqPhi -/
def vf181v : List Nat := [0,1,2,3,4,9,15]
def vf181c : VC := .seq (.rg [V 2 (.box (.t 0)),
V 3 (.box (.t 1)),
V 4 (.mv (.k (.c (.b false))))]) (.seq (.seq (.rg [V 5 (.fad 0 (.t 2)),
V 6 (.ld none (.t 5)),
V 7 (.fad 0 (.t 3)),
V 8 (.ld none (.t 7)),
V 9 (.bin .ne (.t 6) (.t 8))]) (.cond (.t 9) (.seq (.rg [V 4 (.mv (.k (.c (.b false))))]) (.ret)) (.skip))) (.seq (.seq (.rg [V 10 (.fad 1 (.t 2)),
V 11 (.ld none (.t 10)),
V 12 (.fad 1 (.t 3)),
V 13 (.ld none (.t 12)),
V 14 (.call 185 [(.t 11),(.t 13)]),
V 15 (.not (.t 14))]) (.cond (.t 15) (.seq (.rg [V 4 (.mv (.k (.c (.b false))))]) (.ret)) (.skip))) (.seq (.rg [V 4 (.mv (.k (.c (.b true))))]) (.ret))))
def vf181 : VF := ⟨vf181c,vf181v,[(4,none)]⟩
theorem ok181 : chkF Try.prog Try.f181 vf181 = true := by kernel_rfl
theorem dr181 : drawsB vf181.body = true := by kernel_rfl
/-- loop.example/g00192/laws.eqIns -/
def vf182v : List Nat := [0,1,2,3,4,9,14,19,24,29]
def vf182c : VC := .seq (.rg [V 2 (.box (.t 0)),
V 3 (.box (.t 1)),
V 4 (.mv (.k (.c (.b false))))]) (.seq (.seq (.rg [V 5 (.fad 0 (.t 2)),
V 6 (.ld none (.t 5)),
V 7 (.fad 0 (.t 3)),
V 8 (.ld none (.t 7)),
V 9 (.bin .ne (.t 6) (.t 8))]) (.cond (.t 9) (.seq (.rg [V 4 (.mv (.k (.c (.b false))))]) (.ret)) (.skip))) (.seq (.seq (.rg [V 10 (.fad 1 (.t 2)),
V 11 (.ld none (.t 10)),
V 12 (.fad 1 (.t 3)),
V 13 (.ld none (.t 12)),
V 14 (.bin .ne (.t 11) (.t 13))]) (.cond (.t 14) (.seq (.rg [V 4 (.mv (.k (.c (.b false))))]) (.ret)) (.skip))) (.seq (.seq (.rg [V 15 (.fad 2 (.t 2)),
V 16 (.ld none (.t 15)),
V 17 (.fad 2 (.t 3)),
V 18 (.ld none (.t 17)),
V 19 (.bin .ne (.t 16) (.t 18))]) (.cond (.t 19) (.seq (.rg [V 4 (.mv (.k (.c (.b false))))]) (.ret)) (.skip))) (.seq (.seq (.rg [V 20 (.fad 3 (.t 2)),
V 21 (.ld none (.t 20)),
V 22 (.fad 3 (.t 3)),
V 23 (.ld none (.t 22)),
V 24 (.bin .ne (.t 21) (.t 23))]) (.cond (.t 24) (.seq (.rg [V 4 (.mv (.k (.c (.b false))))]) (.ret)) (.skip))) (.seq (.seq (.rg [V 25 (.fad 4 (.t 2)),
V 26 (.ld none (.t 25)),
V 27 (.fad 4 (.t 3)),
V 28 (.ld none (.t 27)),
V 29 (.bin .ne (.t 26) (.t 28))]) (.cond (.t 29) (.seq (.rg [V 4 (.mv (.k (.c (.b false))))]) (.ret)) (.skip))) (.seq (.rg [V 4 (.mv (.k (.c (.b true))))]) (.ret)))))))
def vf182 : VF := ⟨vf182c,vf182v,[(4,none)]⟩
theorem ok182 : chkF Try.prog Try.f182 vf182 = true := by kernel_rfl
theorem dr182 : drawsB vf182.body = true := by kernel_rfl
/-- loop.example/g00192/laws.szArmS -/
def vf183v : List Nat := [0,1,4,10]
def vf183c : VC := .seq (.rg [V 4 (.mv (.k (.c (.i 0))))]) (.seq (.rg [V 5 (.mv (.t 1)),
V 6 (.mv (.t 0)),
V 7 (.len (.t 6)),
V 8 (.bin .sub (.t 5) (.t 7)),
V 1 (.mv (.t 8))]) (.seq (.seq (.rg [V 9 (.mv (.t 1)),
V 10 (.bin .lt (.t 9) (.k (.c (.i 0))))]) (.cond (.t 10) (.seq (.rg [V 4 (.mv (.k (.c (.i (-1)))))]) (.ret)) (.skip))) (.seq (.rg [V 11 (.mv (.t 1)),
V 4 (.mv (.t 11))]) (.ret))))
def vf183 : VF := ⟨vf183c,vf183v,[(4,none)]⟩
theorem ok183 : chkF Try.prog Try.f183 vf183 = true := by kernel_rfl
theorem dr183 : drawsB vf183.body = true := by kernel_rfl
/-- loop.example/g00192/laws.toArmS -/
def vf184v : List Nat := [0,2,3,4,11]
def vf184b0 : VC := .seq (.seq (.rg [V 8 (.mv (.t 4)),
V 9 (.mv (.t 0)),
V 10 (.len (.t 9)),
V 11 (.bin .lt (.t 8) (.t 10))]) (.cond (.t 11) (.skip) (.exit 0))) (.seq (.block 1 (.rg [V 14 (.mv (.t 3)),
V 15 (.mv (.t 4)),
V 16 (.mv (.t 0)),
V 17 (.mv (.t 4)),
V 18 (.idx 2 (.t 16) (.t 17)),
V 19 (.ld (some 2) (.t 18)),
V 20 (.call 186 [(.t 19)]),
V 21 (.idx 2 (.t 14) (.t 15)),
Vn (.st 2 (.t 21) (.t 20))])) (.rg [V 12 (.mv (.t 4)),
V 13 (.bin .add (.t 12) (.k (.c (.i 1)))),
V 4 (.mv (.t 13))]))
def vf184c : VC := .seq (.rg [V 2 (.mv (.k (.c .ns)))]) (.seq (.rg [V 5 (.mv (.t 0)),
V 6 (.len (.t 5)),
V 7 (.mks 2 [.i 0,.i 0] (.t 6)),
V 3 (.mv (.t 7))]) (.seq (.seq (.rg [V 4 (.mv (.k (.c (.i 0))))]) (.block 0 (.loop vf184b0))) (.seq (.rg [V 22 (.mv (.t 3)),
V 2 (.mv (.t 22))]) (.ret))))
def vf184 : VF := ⟨vf184c,vf184v,[(2,none)]⟩
theorem ok184 : chkF Try.prog Try.f184 vf184 = true := by kernel_rfl
theorem dr184 : drawsB vf184.body = true := by kernel_rfl
/-- loop.example/g00192/laws.eqArmS -/
def vf185v : List Nat := [0,1,4,5,10,14,26]
def vf185b0 : VC := .seq (.seq (.rg [V 11 (.mv (.t 5)),
V 12 (.mv (.t 0)),
V 13 (.len (.t 12)),
V 14 (.bin .lt (.t 11) (.t 13))]) (.cond (.t 14) (.skip) (.exit 0))) (.seq (.block 1 (.seq (.rd [V 17 (.mv (.t 0)),
V 18 (.mv (.t 5)),
Vd [0,1] (V 19 (.idx 2 (.t 17) (.t 18))),
Vd [2] (V 20 (.ld (some 2) (.t 19))),
V 21 (.mv (.t 1)),
V 22 (.mv (.t 5)),
Vd [4,5] (V 23 (.idx 2 (.t 21) (.t 22))),
Vd [6] (V 24 (.ld (some 2) (.t 23))),
Vd [3,7] (V 25 (.call 187 [(.t 20),(.t 24)])),
Vd [8] (V 26 (.not (.t 25)))]) (.cond (.t 26) (.seq (.rg [V 4 (.mv (.k (.c (.b false))))]) (.ret)) (.skip)))) (.rg [V 15 (.mv (.t 5)),
V 16 (.bin .add (.t 15) (.k (.c (.i 1)))),
V 5 (.mv (.t 16))]))
def vf185c : VC := .seq (.rg [V 4 (.mv (.k (.c (.b false))))]) (.seq (.seq (.rg [V 6 (.mv (.t 0)),
V 7 (.len (.t 6)),
V 8 (.mv (.t 1)),
V 9 (.len (.t 8)),
V 10 (.bin .ne (.t 7) (.t 9))]) (.cond (.t 10) (.seq (.rg [V 4 (.mv (.k (.c (.b false))))]) (.ret)) (.skip))) (.seq (.seq (.rg [V 5 (.mv (.k (.c (.i 0))))]) (.block 0 (.loop vf185b0))) (.seq (.rg [V 4 (.mv (.k (.c (.b true))))]) (.ret))))
def vf185 : VF := ⟨vf185c,vf185v,[(4,none)]⟩
theorem ok185 : chkF Try.prog Try.f185 vf185 = true := by kernel_rfl
theorem dr185 : drawsB vf185.body = true := by kernel_rfl
/-- loop.example/g00192/laws.toArm -/
def vf186v : List Nat := [0,1,2,3]
def vf186c : VC := .seq (.rg [V 1 (.box (.t 0)),
V 2 (.alloc [.i 0,.i 0])]) (.seq (.rg [V 3 (.alloc [.i 0,.i 0])]) (.seq (.rg [V 4 (.fad 0 (.t 1)),
V 5 (.ld none (.t 4)),
V 6 (.fad 0 (.t 3)),
Vn (.st 1 (.t 6) (.t 5))]) (.seq (.rg [V 7 (.fad 1 (.t 1)),
V 8 (.ld none (.t 7)),
V 9 (.fad 1 (.t 3)),
Vn (.st 1 (.t 9) (.t 8))]) (.seq (.rg [V 10 (.ld (some 2) (.t 3)),
Vn (.st 2 (.t 2) (.t 10))]) (.ret)))))
def vf186 : VF := ⟨vf186c,vf186v,[(2,(some (some 2)))]⟩
theorem ok186 : chkF Try.prog Try.f186 vf186 = true := by kernel_rfl
theorem dr186 : drawsB vf186.body = true := by kernel_rfl
/-- loop.example/g00192/laws.eqArm -/
def vf187v : List Nat := [0,1,2,3,4,9,14]
def vf187c : VC := .seq (.rg [V 2 (.box (.t 0)),
V 3 (.box (.t 1)),
V 4 (.mv (.k (.c (.b false))))]) (.seq (.seq (.rg [V 5 (.fad 0 (.t 2)),
V 6 (.ld none (.t 5)),
V 7 (.fad 0 (.t 3)),
V 8 (.ld none (.t 7)),
V 9 (.bin .ne (.t 6) (.t 8))]) (.cond (.t 9) (.seq (.rg [V 4 (.mv (.k (.c (.b false))))]) (.ret)) (.skip))) (.seq (.seq (.rg [V 10 (.fad 1 (.t 2)),
V 11 (.ld none (.t 10)),
V 12 (.fad 1 (.t 3)),
V 13 (.ld none (.t 12)),
V 14 (.bin .ne (.t 11) (.t 13))]) (.cond (.t 14) (.seq (.rg [V 4 (.mv (.k (.c (.b false))))]) (.ret)) (.skip))) (.seq (.rg [V 4 (.mv (.k (.c (.b true))))]) (.ret))))
def vf187 : VF := ⟨vf187c,vf187v,[(4,none)]⟩
theorem ok187 : chkF Try.prog Try.f187 vf187 = true := by kernel_rfl
theorem dr187 : drawsB vf187.body = true := by kernel_rfl
end Go.Proofs.Ytnpbldjbfkpbcaa.Vm
