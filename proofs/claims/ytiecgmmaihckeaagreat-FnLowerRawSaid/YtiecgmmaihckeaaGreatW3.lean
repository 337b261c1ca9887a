/- A part of the proof: the machine and the walks. No conditions. -/
import Derived.Test.YtiecgmmaihckeaaGreatW2
import Derived.Test.YtiecgmmaihckeaaGreatChecked
import Derived.Sort.Row
import Derived.Sort.Grow
namespace Go.Proofs.YtiecgmmaihckeaaGreat.Vm
open Go.RowKit (wrap64)
set_option linter.unusedSimpArgs false
set_option linter.unusedVariables false
set_option maxRecDepth 100000
def vf155v:List Nat:=[0,1,4]

def vf155c:VC:=.seq (.rg [V 4 (.mv (.k (.c (.b false))))]) (.seq (.rg [V 5 (.mv (.t 0)),
V 6 (.bin .ge (.t 5) (.k (.c (.i 0)))),
V 7 (.mv (.t 6)),
Vg 8 7 true (.mv (.t 0)),
Vg 9 7 true (.mv (.t 1)),
Vg 10 7 true (.bin .lt (.t 8) (.t 9)),
V 11 (.pick (.t 7) (.t 10) (.k (.c (.b false)))),
V 4 (.mv (.t 11))]) (.ret))

def vf155:VF:=⟨vf155c,vf155v,[(4,none)]⟩

theorem ok155:chkF Tryz.prog Tryz.f155 vf155=true:=by kernel_rfl

theorem dr155:drawsB vf155.body=true:=by kernel_rfl

def vf156v:List Nat:=[0,2,4]

def vf156c:VC:=.seq (.rg [V 2 (.mv (.k (.c (.i 0))))]) (.seq (.seq (.rg [V 3 (.mv (.t 0)),
V 4 (.call 66 [(.t 3),(.k (.c (.i 8)))])]) (.cond (.t 4) (.seq (.rg [V 5 (.mv (.t 0)),
V 6 (.bsl 1 [.i 0] 7 [(0,1,(.k (.c (.i 9223372036854775807)))),(1,1,(.k (.c (.i (-9223372036854775808))))),(2,1,(.k (.c (.i 4294967296)))),(3,1,(.k (.c (.i (-1))))),(4,1,(.k (.c (.i 63)))),(5,1,(.k (.c (.i 64)))),(6,1,(.k (.c (.i 1000000007))))]),
V 7 (.call 78 [(.t 5),(.t 6)]),
V 2 (.mv (.t 7))]) (.ret)) (.skip))) (.seq (.rg [V 8 (.mv (.t 0)),
V 9 (.call 77 [(.t 8),(.k (.c (.i 20)))]),
V 10 (.bin .sub (.t 9) (.k (.c (.i 6)))),
V 2 (.mv (.t 10))]) (.ret)))

def vf156:VF:=⟨vf156c,vf156v,[(2,none)]⟩

theorem ok156:chkF Tryz.prog Tryz.f156 vf156=true:=by kernel_rfl

theorem dr156:drawsB vf156.body=true:=by kernel_rfl

def vf157v:List Nat:=[0,1,4,5,7,8,9,16]

def vf157b0:VC:=.seq (.rg [V 9 (.bin .lt (.t 8) (.t 7))]) (.seq (.cond (.t 9) (.skip) (.exit 0)) (.seq (.block 1 (.seq (.rg [V 10 (.mv (.t 8)),
V 5 (.mv (.t 10))]) (.seq (.rg [V 11 (.mv (.t 1)),
V 12 (.mv (.t 0)),
V 13 (.mv (.t 5)),
V 14 (.idx 1 (.t 12) (.t 13)),
V 15 (.ld none (.t 14)),
V 16 (.bin .eq (.t 11) (.t 15))]) (.cond (.t 16) (.seq (.rg [V 17 (.mv (.t 5)),
V 4 (.mv (.t 17))]) (.ret)) (.skip))))) (.rg [V 18 (.bin .add (.t 8) (.k (.c (.i 1)))),
V 8 (.mv (.t 18))])))

def vf157c:VC:=.seq (.rg [V 4 (.mv (.k (.c (.i 0))))]) (.seq (.seq (.rg [V 6 (.mv (.t 0)),
V 7 (.len (.t 6)),
V 8 (.mv (.k (.c (.i 0))))]) (.block 0 (.loop vf157b0))) (.seq (.rg [V 4 (.mv (.k (.c (.i (-1)))))]) (.ret)))

def vf157:VF:=⟨vf157c,vf157v,[(4,none)]⟩

theorem ok157:chkF Tryz.prog Tryz.f157 vf157=true:=by kernel_rfl

theorem dr157:drawsB vf157.body=true:=by kernel_rfl

def vf158v:List Nat:=[0,1,2,4,5,11]

def vf158c:VC:=.seq (.rg [V 2 (.box (.t 0)),
V 4 (.mv (.k (.c .ns)))]) (.seq (.rg [V 6 (.fad 0 (.t 2)),
V 7 (.ld none (.t 6)),
V 8 (.len (.t 7)),
V 9 (.mks 1 [.b false] (.t 8)),
V 5 (.mv (.t 9))]) (.seq (.seq (.rg [V 10 (.mv (.t 1)),
V 11 (.bin .eq (.t 10) (.k (.c (.i 0))))]) (.cond (.t 11) (.seq (.rg [V 12 (.mv (.t 5)),
V 4 (.mv (.t 12))]) (.ret)) (.skip))) (.seq (.rg [V 13 (.mv (.t 5)),
V 14 (.mv (.t 1)),
V 15 (.idx 1 (.t 13) (.t 14)),
Vn (.st 1 (.t 15) (.k (.c (.b true))))]) (.seq (.rg [V 16 (.ld (some 2) (.t 2)),
V 17 (.mv (.t 5)),
V 18 (.call 115 [(.t 16),(.k (.c (.i 0))),(.t 17),(.k (.c .ns))])]) (.seq (.rg [V 19 (.mv (.t 5)),
V 20 (.mv (.t 1)),
V 21 (.idx 1 (.t 19) (.t 20)),
Vn (.st 1 (.t 21) (.k (.c (.b false))))]) (.seq (.rg [V 22 (.mv (.t 5)),
V 4 (.mv (.t 22))]) (.ret)))))))

def vf158:VF:=⟨vf158c,vf158v,[(4,none)]⟩

theorem ok158:chkF Tryz.prog Tryz.f158 vf158=true:=by kernel_rfl

theorem dr158:drawsB vf158.body=true:=by kernel_rfl

def vf159v:List Nat:=[0,1,2,3,4,5,6,7,8,11,13,14,15,16,23,30]

def vf159b0:VC:=.seq (.rg [V 16 (.bin .lt (.t 15) (.t 14))]) (.seq (.cond (.t 16) (.skip) (.exit 0)) (.seq (.block 1 (.seq (.rg [V 17 (.mv (.t 15)),
V 18 (.idx 6 (.t 13) (.t 15)),
V 19 (.ld (some 6) (.t 18)),
V 7 (.alloc [.ns,.ns,.i 0,.i 0,.i 0,.i 0]),
V 6 (.mv (.t 17)),
Vn (.st 6 (.t 7) (.t 19))]) (.seq (.seq (.rg [V 20 (.fad 0 (.t 7)),
V 21 (.ld none (.t 20)),
V 22 (.mkf 192 [(.t 3)]),
V 23 (.call 102 [(.t 21),(.t 22)])]) (.cond (.t 23) (.seq (.rg [V 24 (.mv (.t 6)),
V 4 (.mv (.t 24)),
V 5 (.mv (.k (.c (.i (-1)))))]) (.ret)) (.skip))) (.seq (.rg [V 25 (.fad 1 (.t 7)),
V 26 (.ld none (.t 25)),
V 27 (.mkf 193 [(.t 3)]),
V 28 (.call 84 [(.t 26),(.t 27)]),
V 8 (.mv (.t 28))]) (.seq (.rg [V 29 (.mv (.t 8)),
V 30 (.bin .ge (.t 29) (.k (.c (.i 0))))]) (.cond (.t 30) (.seq (.rg [V 31 (.mv (.t 6)),
V 32 (.mv (.t 8)),
V 4 (.mv (.t 31)),
V 5 (.mv (.t 32))]) (.ret)) (.skip))))))) (.rg [V 33 (.bin .add (.t 15) (.k (.c (.i 1)))),
V 15 (.mv (.t 33))])))

def vf159c:VC:=.seq (.rg [V 2 (.box (.t 0)),
V 3 (.box (.t 1)),
V 4 (.mv (.k (.c (.i 0)))),
V 5 (.mv (.k (.c (.i 0))))]) (.seq (.seq (.rg [V 9 (.ld (some 2) (.t 2)),
V 10 (.call 51 [(.t 9)]),
V 11 (.not (.t 10))]) (.cond (.t 11) (.seq (.rg [V 4 (.mv (.k (.c (.i (-1))))),
V 5 (.mv (.k (.c (.i (-2)))))]) (.ret)) (.skip))) (.seq (.seq (.rg [V 12 (.fad 0 (.t 2)),
V 13 (.ld none (.t 12)),
V 14 (.len (.t 13)),
V 15 (.mv (.k (.c (.i 0))))]) (.block 0 (.loop vf159b0))) (.seq (.rg [V 4 (.mv (.k (.c (.i (-1))))),
V 5 (.mv (.k (.c (.i (-2)))))]) (.ret))))

def vf159:VF:=⟨vf159c,vf159v,[(4,none),(5,none)]⟩

theorem ok159:chkF Tryz.prog Tryz.f159 vf159=true:=by kernel_rfl

theorem dr159:drawsB vf159.body=true:=by kernel_rfl

def vf160v:List Nat:=[0,1,2,6]

def vf160c:VC:=.seq (.rg [V 6 (.mv (.k (.c (.b false))))]) (.seq (.rg [V 7 (.mv (.t 2)),
V 8 (.mv (.t 0)),
V 9 (.len (.t 8)),
V 10 (.bin .sub (.t 9) (.k (.c (.i 1)))),
V 11 (.call 86 [(.t 7),(.k (.c (.i 0))),(.t 10)]),
V 12 (.mv (.t 11)),
Vg 13 12 true (.mv (.t 0)),
Vg 14 12 true (.mv (.t 2)),
Vg 15 12 true (.idx 1 (.t 13) (.t 14)),
Vg 16 12 true (.ld none (.t 15)),
Vg 17 12 true (.mv (.t 1)),
Vg 18 12 true (.call 118 [(.t 16),(.t 17)]),
V 19 (.pick (.t 12) (.t 18) (.k (.c (.b false)))),
V 6 (.mv (.t 19))]) (.ret))

def vf160:VF:=⟨vf160c,vf160v,[(6,none)]⟩

theorem ok160:chkF Tryz.prog Tryz.f160 vf160=true:=by kernel_rfl

theorem dr160:drawsB vf160.body=true:=by kernel_rfl

def vf161v:List Nat:=[0,1,2,3,5]

def vf161c:VC:=.seq (.rg [V 5 (.mv (.k (.c (.b false))))]) (.seq (.rg [V 6 (.ld (some 3) (.t 1)),
V 7 (.mv (.t 0)),
V 8 (.ld none (.t 2)),
V 9 (.ld none (.t 3)),
V 10 (.call 162 [(.t 6),(.t 7),(.t 8),(.t 9)]),
V 11 (.not (.t 10)),
V 5 (.mv (.t 11))]) (.ret))

def vf161:VF:=⟨vf161c,vf161v,[(5,none)]⟩

theorem ok161:chkF Tryz.prog Tryz.f161 vf161=true:=by kernel_rfl

theorem dr161:drawsB vf161.body=true:=by kernel_rfl

def vf162v:List Nat:=[0,1,2,3,4,8,9,10,20]

def vf162c:VC:=.seq (.rg [V 4 (.box (.t 0)),
V 8 (.mv (.k (.c (.b false))))]) (.seq (.rg [V 12 (.fad 0 (.t 4)),
V 13 (.ld (some 2) (.t 12)),
V 14 (.mv (.t 1)),
V 15 (.call 159 [(.t 13),(.t 14)]),
V 11 (.mv (.t 15)),
V 16 (.ext 0 (.t 11)),
V 17 (.ext 1 (.t 11)),
V 9 (.mv (.t 16)),
V 10 (.mv (.t 17))]) (.seq (.seq (.rg [V 18 (.mv (.t 9)),
V 19 (.mv (.t 2)),
V 20 (.bin .eq (.t 18) (.t 19))]) (.cond (.t 20) (.seq (.rg [V 21 (.mv (.t 10)),
V 22 (.mv (.t 3)),
V 23 (.bin .lt (.t 21) (.t 22)),
V 8 (.mv (.t 23))]) (.ret)) (.skip))) (.seq (.rg [V 24 (.fad 2 (.t 4)),
V 25 (.ld none (.t 24)),
V 26 (.mv (.t 9)),
V 27 (.mv (.t 2)),
V 28 (.call 160 [(.t 25),(.t 26),(.t 27)]),
V 8 (.mv (.t 28))]) (.ret))))

def vf162:VF:=⟨vf162c,vf162v,[(8,none)]⟩

theorem ok162:chkF Tryz.prog Tryz.f162 vf162=true:=by kernel_rfl

theorem dr162:drawsB vf162.body=true:=by kernel_rfl

def vf163v:List Nat:=[0,1,2,3,5]

def vf163c:VC:=.seq (.rg [V 5 (.mv (.k (.c (.b false))))]) (.seq (.rg [V 6 (.ld (some 3) (.t 1)),
V 7 (.mv (.t 0)),
V 8 (.ld none (.t 2)),
V 9 (.fad 1 (.t 3)),
V 10 (.ld none (.t 9)),
V 11 (.len (.t 10)),
V 12 (.call 162 [(.t 6),(.t 7),(.t 8),(.t 11)]),
V 13 (.not (.t 12)),
V 5 (.mv (.t 13))]) (.ret))

def vf163:VF:=⟨vf163c,vf163v,[(5,none)]⟩

theorem ok163:chkF Tryz.prog Tryz.f163 vf163=true:=by kernel_rfl

theorem dr163:drawsB vf163.body=true:=by kernel_rfl

def vf167v:List Nat:=[0,1,4]

def vf167c:VC:=.seq (.rg [V 4 (.mv (.k (.c (.b false))))]) (.seq (.rg [V 5 (.mv (.t 0)),
V 6 (.mv (.t 1)),
V 7 (.call 169 [(.t 5),(.t 6)]),
V 8 (.bin .ge (.t 7) (.k (.c (.i 0)))),
V 4 (.mv (.t 8))]) (.ret))

def vf167:VF:=⟨vf167c,vf167v,[(4,none)]⟩

theorem ok167:chkF Tryz.prog Tryz.f167 vf167=true:=by kernel_rfl

theorem dr167:drawsB vf167.body=true:=by kernel_rfl

def vf168v:List Nat:=[0,1,2,3]

def vf168c:VC:=.seq (.rg [V 2 (.box (.t 0)),
V 3 (.mv (.k (.c (.b false))))]) (.seq (.rg [V 4 (.fad 0 (.t 2)),
V 5 (.ld none (.t 4)),
V 6 (.fad 0 (.t 1)),
V 7 (.ld none (.t 6)),
V 8 (.bin .eq (.t 5) (.t 7)),
V 3 (.mv (.t 8))]) (.ret))

def vf168:VF:=⟨vf168c,vf168v,[(3,none)]⟩

theorem ok168:chkF Tryz.prog Tryz.f168 vf168=true:=by kernel_rfl

theorem dr168:drawsB vf168.body=true:=by kernel_rfl

def vf169v:List Nat:=[0,1,4,5,7,8,9,16]

def vf169b0:VC:=.seq (.rg [V 9 (.bin .lt (.t 8) (.t 7))]) (.seq (.cond (.t 9) (.skip) (.exit 0)) (.seq (.block 1 (.seq (.rg [V 10 (.mv (.t 8)),
V 5 (.mv (.t 10))]) (.seq (.rg [V 11 (.mv (.t 1)),
V 12 (.mv (.t 0)),
V 13 (.mv (.t 5)),
V 14 (.idx 2 (.t 12) (.t 13)),
V 15 (.ld (some 2) (.t 14)),
V 16 (.clv (.t 11) [(.t 15)])]) (.cond (.t 16) (.seq (.rg [V 17 (.mv (.t 5)),
V 4 (.mv (.t 17))]) (.ret)) (.skip))))) (.rg [V 18 (.bin .add (.t 8) (.k (.c (.i 1)))),
V 8 (.mv (.t 18))])))

def vf169c:VC:=.seq (.rg [V 4 (.mv (.k (.c (.i 0))))]) (.seq (.seq (.rg [V 6 (.mv (.t 0)),
V 7 (.len (.t 6)),
V 8 (.mv (.k (.c (.i 0))))]) (.block 0 (.loop vf169b0))) (.seq (.rg [V 4 (.mv (.k (.c (.i (-1)))))]) (.ret)))

def vf169:VF:=⟨vf169c,vf169v,[(4,none)]⟩

theorem ok169:chkF Tryz.prog Tryz.f169 vf169=true:=by kernel_rfl

theorem dr169:drawsB vf169.body=true:=by kernel_rfl

def vf170v:List Nat:=[0,1,2,3]

def vf170c:VC:=.seq (.rg [V 2 (.box (.t 0)),
V 3 (.mv (.k (.c (.b false))))]) (.seq (.rg [V 4 (.ld none (.t 1)),
V 5 (.mkf 171 [(.t 2)]),
V 6 (.call 167 [(.t 4),(.t 5)]),
V 7 (.not (.t 6)),
V 3 (.mv (.t 7))]) (.ret))

def vf170:VF:=⟨vf170c,vf170v,[(3,none)]⟩

theorem ok170:chkF Tryz.prog Tryz.f170 vf170=true:=by kernel_rfl

theorem dr170:drawsB vf170.body=true:=by kernel_rfl

def vf171v:List Nat:=[0,1,2,3]

def vf171c:VC:=.seq (.rg [V 2 (.box (.t 0)),
V 3 (.mv (.k (.c (.b false))))]) (.seq (.rg [V 4 (.ld (some 2) (.t 2)),
V 5 (.ld (some 2) (.t 1)),
V 6 (.eqa 2 true (.t 4) (.t 5)),
V 7 (.mv (.t 6)),
Vg 8 7 true (.fad 1 (.t 2)),
Vg 9 7 true (.ld none (.t 8)),
Vg 10 7 true (.fad 0 (.t 1)),
Vg 11 7 true (.ld none (.t 10)),
Vg 12 7 true (.bin .eq (.t 9) (.t 11)),
V 13 (.pick (.t 7) (.t 12) (.k (.c (.b false)))),
V 3 (.mv (.t 13))]) (.ret))

def vf171:VF:=⟨vf171c,vf171v,[(3,none)]⟩

theorem ok171:chkF Tryz.prog Tryz.f171 vf171=true:=by kernel_rfl

theorem dr171:drawsB vf171.body=true:=by kernel_rfl

def vf183v:List Nat:=[0,2]

def vf183c:VC:=.seq (.rg [V 2 (.mv (.k (.c (.b false))))]) (.seq (.rg [V 3 (.mv (.t 0)),
V 4 (.nilc (.t 3)),
V 5 (.fad 1 (.t 4)),
V 6 (.fad 1 (.t 5)),
V 7 (.ld none (.t 6)),
V 8 (.bin .gt (.t 7) (.k (.c (.i 56)))),
V 9 (.mv (.t 8)),
Vg 10 9 false (.mv (.t 0)),
Vg 11 9 false (.nilc (.t 10)),
Vg 12 9 false (.fad 1 (.t 11)),
Vg 13 9 false (.fad 0 (.t 12)),
Vg 14 9 false (.ld none (.t 13)),
Vg 15 9 false (.len (.t 14)),
Vg 16 9 false (.bin .gt (.t 15) (.k (.c (.i 11)))),
V 17 (.pick (.t 9) (.k (.c (.b true))) (.t 16)),
V 2 (.mv (.t 17))]) (.ret))

def vf183:VF:=⟨vf183c,vf183v,[(2,none)]⟩

theorem ok183:chkF Tryz.prog Tryz.f183 vf183=true:=by kernel_rfl

theorem dr183:drawsB vf183.body=true:=by kernel_rfl

def vf184v:List Nat:=[0,1,2,6,7,8,9,10,11,12,27,33,34,54,64,79,111]

def vf184c:VC:=.seq (.rg [V 6 (.mv (.k (.c .ns)))]) (.seq (.seq (.rg [V 13 (.mv (.t 0)),
V 14 (.call 183 [(.t 13)]),
V 15 (.mv (.t 14)),
Vg 16 15 false (.mv (.t 0)),
Vg 17 15 false (.nilc (.t 16)),
Vg 18 15 false (.fad 1 (.t 17)),
Vg 19 15 false (.fad 0 (.t 18)),
Vg 20 15 false (.ld none (.t 19)),
Vg 21 15 false (.mv (.t 1)),
Vg 22 15 false (.idx 6 (.t 20) (.t 21)),
Vg 23 15 false (.fad 1 (.t 22)),
Vg 24 15 false (.ld none (.t 23)),
Vg 25 15 false (.len (.t 24)),
Vg 26 15 false (.bin .gt (.t 25) (.k (.c (.i 16)))),
V 27 (.pick (.t 15) (.k (.c (.b true))) (.t 26))]) (.cond (.t 27) (.seq (.rg [V 28 (.mv (.t 2)),
V 6 (.mv (.t 28))]) (.ret)) (.skip))) (.seq (.seq (.rg [V 29 (.mv (.t 0)),
V 30 (.nilc (.t 29)),
V 31 (.fad 0 (.t 30)),
V 32 (.ld none (.t 31)),
V 33 (.call 77 [(.t 32),(.k (.c (.i 9)))])]) (.block 0 (.seq (.rg [V 35 (.bin .eq (.t 33) (.k (.c (.i 0)))),
V 34 (.mv (.t 35))]) (.cond (.t 34) (.seq (.rg [V 36 (.mv (.t 0)),
V 37 (.call 135 [(.t 36)]),
V 7 (.mv (.t 37))]) (.seq (.rg [V 38 (.mv (.t 0)),
V 39 (.mv (.t 1)),
V 40 (.mv (.t 7)),
V 41 (.mv (.t 0)),
V 42 (.nilc (.t 41)),
V 43 (.fad 0 (.t 42)),
V 44 (.ld none (.t 43)),
V 45 (.call 156 [(.t 44)]),
V 46 (.build [.i 0,.i 0,.i 0,.i 0,.i 0] [(0,1,(.k (.c (.i 20)))),(1,1,(.t 40)),(4,1,(.t 45))]),
V 47 (.call 136 [(.t 38),(.t 39),(.t 46)])]) (.seq (.rg [V 48 (.bsl 1 [.i 0] 0 []),
V 49 (.mv (.t 2)),
V 50 (.app 1 (.t 48) (.t 49)),
V 51 (.mv (.t 7)),
V 52 (.bsl 1 [.i 0] 1 [(0,1,(.t 51))]),
V 53 (.app 1 (.t 50) (.t 52)),
V 6 (.mv (.t 53))]) (.ret)))) (.seq (.rg [V 55 (.bin .eq (.t 33) (.k (.c (.i 1)))),
V 54 (.mv (.t 55))]) (.cond (.t 54) (.seq (.rg [V 56 (.mv (.t 0)),
V 57 (.mv (.t 1)),
V 58 (.mv (.t 0)),
V 59 (.mv (.t 2)),
V 60 (.call 138 [(.t 58),(.t 59)]),
V 61 (.build [.i 0,.i 0,.i 0,.i 0,.i 0] [(0,1,(.k (.c (.i 23)))),(2,1,(.t 60))]),
V 62 (.call 136 [(.t 56),(.t 57),(.t 61)])]) (.seq (.rg [V 63 (.mv (.t 2)),
V 6 (.mv (.t 63))]) (.ret))) (.seq (.rg [V 65 (.bin .eq (.t 33) (.k (.c (.i 2)))),
V 64 (.mv (.t 65))]) (.cond (.t 64) (.seq (.rg [V 66 (.mv (.t 0)),
V 67 (.call 135 [(.t 66)]),
V 8 (.mv (.t 67))]) (.seq (.rg [V 68 (.mv (.t 0)),
V 69 (.mv (.t 1)),
V 70 (.mv (.t 8)),
V 71 (.build [.i 0,.i 0,.i 0,.i 0,.i 0] [(0,1,(.k (.c (.i 24)))),(1,1,(.t 70))]),
V 72 (.call 136 [(.t 68),(.t 69),(.t 71)])]) (.seq (.rg [V 73 (.bsl 1 [.i 0] 0 []),
V 74 (.mv (.t 2)),
V 75 (.app 1 (.t 73) (.t 74)),
V 76 (.mv (.t 8)),
V 77 (.bsl 1 [.i 0] 1 [(0,1,(.t 76))]),
V 78 (.app 1 (.t 75) (.t 77)),
V 6 (.mv (.t 78))]) (.ret)))) (.seq (.rg [V 80 (.bin .eq (.t 33) (.k (.c (.i 3)))),
V 79 (.mv (.t 80))]) (.cond (.t 79) (.seq (.rg [V 81 (.mv (.t 0)),
V 82 (.call 135 [(.t 81)]),
V 9 (.mv (.t 82))]) (.seq (.rg [V 83 (.mv (.t 0)),
V 84 (.call 135 [(.t 83)]),
V 10 (.mv (.t 84))]) (.seq (.rg [V 85 (.mv (.t 0)),
V 86 (.call 135 [(.t 85)]),
V 11 (.mv (.t 86))]) (.seq (.rg [V 87 (.mv (.t 0)),
V 88 (.mv (.t 1)),
V 89 (.mv (.t 9)),
V 90 (.mv (.t 0)),
V 91 (.nilc (.t 90)),
V 92 (.fad 0 (.t 91)),
V 93 (.ld none (.t 92)),
V 94 (.bsl 1 [.i 0] 4 [(0,1,(.k (.c (.i 7)))),(1,1,(.k (.c (.i 7)))),(2,1,(.k (.c (.i 7)))),(3,1,(.k (.c (.i 15))))]),
V 95 (.call 78 [(.t 93),(.t 94)]),
V 96 (.build [.i 0,.i 0,.i 0,.i 0,.i 0] [(0,1,(.k (.c (.i 20)))),(1,1,(.t 89)),(4,1,(.t 95))]),
V 97 (.call 136 [(.t 87),(.t 88),(.t 96)])]) (.seq (.rg [V 98 (.mv (.t 0)),
V 99 (.mv (.t 1)),
V 100 (.mv (.t 10)),
V 101 (.mv (.t 0)),
V 102 (.mv (.t 2)),
V 103 (.call 138 [(.t 101),(.t 102)]),
V 104 (.mv (.t 9)),
V 105 (.build [.i 0,.i 0,.i 0,.i 0,.i 0] [(0,1,(.k (.c (.i 4)))),(1,1,(.t 100)),(2,1,(.t 103)),(3,1,(.t 104))]),
V 106 (.call 136 [(.t 98),(.t 99),(.t 105)])]) (.seq (.seq (.rg [V 107 (.mv (.t 0)),
V 108 (.nilc (.t 107)),
V 109 (.fad 0 (.t 108)),
V 110 (.ld none (.t 109)),
V 111 (.call 66 [(.t 110),(.k (.c (.i 2)))])]) (.cond (.t 111) (.seq (.rg [V 112 (.mv (.t 0)),
V 113 (.mv (.t 1)),
V 114 (.mv (.t 10)),
V 115 (.mv (.t 0)),
V 116 (.mv (.t 2)),
V 117 (.call 138 [(.t 115),(.t 116)]),
V 118 (.build [.i 0,.i 0,.i 0,.i 0,.i 0] [(0,1,(.k (.c (.i 22)))),(2,1,(.t 114)),(3,1,(.t 117))]),
V 119 (.call 136 [(.t 112),(.t 113),(.t 118)])]) (.rg [V 120 (.mv (.t 0)),
V 121 (.mv (.t 1)),
V 122 (.mv (.t 11)),
V 123 (.build [.i 0,.i 0,.i 0,.i 0,.i 0] [(0,1,(.k (.c (.i 20)))),(1,1,(.t 122)),(4,1,(.k (.c (.i 1))))]),
V 124 (.call 136 [(.t 120),(.t 121),(.t 123)])])) (.rg [V 125 (.mv (.t 0)),
V 126 (.mv (.t 1)),
V 127 (.mv (.t 11)),
V 128 (.mv (.t 10)),
V 129 (.build [.i 0,.i 0,.i 0,.i 0,.i 0] [(0,1,(.k (.c (.i 21)))),(1,1,(.t 127)),(2,1,(.t 128))]),
V 130 (.call 136 [(.t 125),(.t 126),(.t 129)])]))) (.seq (.rg [V 131 (.bsl 1 [.i 0] 0 []),
V 132 (.mv (.t 2)),
V 133 (.app 1 (.t 131) (.t 132)),
V 134 (.mv (.t 9)),
V 135 (.mv (.t 10)),
V 136 (.mv (.t 11)),
V 137 (.bsl 1 [.i 0] 3 [(0,1,(.t 134)),(1,1,(.t 135)),(2,1,(.t 136))]),
V 138 (.app 1 (.t 133) (.t 137)),
V 6 (.mv (.t 138))]) (.ret)))))))) (.skip))))))))))) (.seq (.rg [V 139 (.mv (.t 0)),
V 140 (.call 135 [(.t 139)]),
V 12 (.mv (.t 140))]) (.seq (.rg [V 141 (.mv (.t 0)),
V 142 (.mv (.t 1)),
V 143 (.mv (.t 0)),
V 144 (.nilc (.t 143)),
V 145 (.fad 0 (.t 144)),
V 146 (.ld none (.t 145)),
V 147 (.call 77 [(.t 146),(.k (.c (.i 10)))]),
V 148 (.bin .add (.k (.c (.i 1))) (.t 147)),
V 149 (.mv (.t 12)),
V 150 (.mv (.t 0)),
V 151 (.mv (.t 2)),
V 152 (.call 138 [(.t 150),(.t 151)]),
V 153 (.mv (.t 0)),
V 154 (.mv (.t 2)),
V 155 (.call 138 [(.t 153),(.t 154)]),
V 156 (.build [.i 0,.i 0,.i 0,.i 0,.i 0] [(0,1,(.t 148)),(1,1,(.t 149)),(2,1,(.t 152)),(3,1,(.t 155))]),
V 157 (.call 136 [(.t 141),(.t 142),(.t 156)])]) (.seq (.rg [V 158 (.bsl 1 [.i 0] 0 []),
V 159 (.mv (.t 2)),
V 160 (.app 1 (.t 158) (.t 159)),
V 161 (.mv (.t 12)),
V 162 (.bsl 1 [.i 0] 1 [(0,1,(.t 161))]),
V 163 (.app 1 (.t 160) (.t 162)),
V 6 (.mv (.t 163))]) (.ret))))))

def vf184:VF:=⟨vf184c,vf184v,[(6,none)]⟩

theorem ok184:chkF Tryz.prog Tryz.f184 vf184=true:=by kernel_rfl

theorem dr184:drawsB vf184.body=true:=by kernel_rfl

def vf185v:List Nat:=[0,1,2,3,8,9,10,11,12,13,14,15,16,17,18,19,84]

def vf185b0:VC:=.seq (.seq (.rg [V 77 (.mv (.t 18)),
V 78 (.mv (.t 0)),
V 79 (.nilc (.t 78)),
V 80 (.fad 0 (.t 79)),
V 81 (.ld none (.t 80)),
V 82 (.call 77 [(.t 81),(.k (.c (.i 2)))]),
V 83 (.bin .add (.k (.c (.i 1))) (.t 82)),
V 84 (.bin .lt (.t 77) (.t 83))]) (.cond (.t 84) (.skip) (.exit 0))) (.seq (.block 1 (.seq (.rg [V 87 (.mv (.t 0)),
V 88 (.call 135 [(.t 87)]),
V 19 (.mv (.t 88))]) (.seq (.rd [V 89 (.mv (.t 0)),
Vd [0] (V 90 (.nilc (.t 89))),
Vd [1] (V 91 (.fad 1 (.t 90))),
Vd [2] (V 92 (.fad 0 (.t 91))),
Vc [3] [] true (V 93 (.ld none (.t 92))),
V 94 (.mv (.t 17)),
V 95 (.mv (.t 0)),
Vd [6] (V 96 (.nilc (.t 95))),
Vd [7] (V 97 (.fad 1 (.t 96))),
Vd [8] (V 98 (.fad 0 (.t 97))),
Vc [9] [] true (V 99 (.ld none (.t 98))),
V 100 (.mv (.t 17)),
Vd [10,11] (V 101 (.idx 6 (.t 99) (.t 100))),
Vd [12] (V 102 (.fad 0 (.t 101))),
Vc [13] [] true (V 103 (.ld none (.t 102))),
V 104 (.mv (.t 19)),
V 105 (.mv (.t 13)),
V 106 (.mv (.t 0)),
V 107 (.mv (.t 14)),
Vc [17,18] [4,10,14] false (V 108 (.call 138 [(.t 106),(.t 107)])),
Vd [16,19] (V 109 (.build [.i 0,.i 0] [(0,1,(.t 105)),(1,1,(.t 108))])),
V 110 (.mv (.t 15)),
V 111 (.mv (.t 0)),
V 112 (.mv (.t 16)),
Vc [19,22,23] [4,10,14] false (V 113 (.call 138 [(.t 111),(.t 112)])),
Vd [21,24] (V 114 (.build [.i 0,.i 0] [(0,1,(.t 110)),(1,1,(.t 113))])),
Vc [20,25] [4,10,14] false (V 115 (.bsl 2 [.i 0,.i 0] 2 [(0,2,(.t 109)),(2,2,(.t 114))])),
Vd [15,26] (V 116 (.build [.i 0,.ns] [(0,1,(.t 104)),(1,1,(.t 115))])),
Vc [27] [4,10,14] false (V 117 (.bsl 2 [.i 0,.ns] 1 [(0,2,(.t 116))])),
Vc [14,28] [4] false (V 118 (.app 2 (.t 103) (.t 117))),
Vd [4,5,29] (V 119 (.idx 6 (.t 93) (.t 94))),
Vd [30] (V 120 (.fad 0 (.t 119))),
Vd [31] (Vn (.st 1 (.t 120) (.t 118)))]) (.rg [V 121 (.bsl 1 [.i 0] 0 []),
V 122 (.mv (.t 2)),
V 123 (.app 1 (.t 121) (.t 122)),
V 124 (.mv (.t 19)),
V 125 (.bsl 1 [.i 0] 1 [(0,1,(.t 124))]),
V 126 (.app 1 (.t 123) (.t 125)),
V 2 (.mv (.t 126))])))) (.rg [V 85 (.mv (.t 18)),
V 86 (.bin .add (.t 85) (.k (.c (.i 1)))),
V 18 (.mv (.t 86))]))

def vf185c:VC:=.seq (.rg [V 8 (.mv (.k (.c (.i 0)))),
V 9 (.mv (.k (.c .ns)))]) (.seq (.rg [V 20 (.mv (.t 0)),
V 21 (.mv (.t 2)),
V 22 (.call 138 [(.t 20),(.t 21)]),
V 10 (.mv (.t 22))]) (.seq (.rg [V 23 (.mv (.t 0)),
V 24 (.call 134 [(.t 23)]),
V 11 (.mv (.t 24))]) (.seq (.rg [V 25 (.mv (.t 0)),
V 26 (.call 134 [(.t 25)]),
V 12 (.mv (.t 26))]) (.seq (.rg [V 27 (.mv (.t 0)),
V 28 (.nilc (.t 27)),
V 29 (.fad 1 (.t 28)),
V 30 (.fad 0 (.t 29)),
V 31 (.ld none (.t 30)),
V 32 (.mv (.t 1)),
V 33 (.mv (.t 10)),
V 34 (.mv (.t 11)),
V 35 (.mv (.t 12)),
V 36 (.build [.i 0,.i 0,.i 0,.i 0] [(0,1,(.k (.c (.i 2)))),(1,1,(.t 33)),(2,1,(.t 34)),(3,1,(.t 35))]),
V 37 (.idx 6 (.t 31) (.t 32)),
V 38 (.fad 2 (.t 37)),
Vn (.st 4 (.t 38) (.t 36))]) (.seq (.rg [V 40 (.mv (.t 0)),
V 41 (.mv (.t 11)),
V 42 (.mv (.t 2)),
V 43 (.mv (.t 3)),
V 44 (.call 137 [(.t 40),(.t 41),(.t 42),(.t 43)]),
V 39 (.mv (.t 44)),
V 45 (.ext 0 (.t 39)),
V 46 (.ext 1 (.t 39)),
V 13 (.mv (.t 45)),
V 14 (.mv (.t 46))]) (.seq (.rg [V 48 (.mv (.t 0)),
V 49 (.mv (.t 12)),
V 50 (.mv (.t 2)),
V 51 (.mv (.t 3)),
V 52 (.call 137 [(.t 48),(.t 49),(.t 50),(.t 51)]),
V 47 (.mv (.t 52)),
V 53 (.ext 0 (.t 47)),
V 54 (.ext 1 (.t 47)),
V 15 (.mv (.t 53)),
V 16 (.mv (.t 54))]) (.seq (.rg [V 55 (.mv (.t 0)),
V 56 (.call 134 [(.t 55)]),
V 17 (.mv (.t 56))]) (.seq (.rg [V 57 (.mv (.t 0)),
V 58 (.nilc (.t 57)),
V 59 (.fad 1 (.t 58)),
V 60 (.fad 0 (.t 59)),
V 61 (.ld none (.t 60)),
V 62 (.mv (.t 13)),
V 63 (.mv (.t 17)),
V 64 (.build [.i 0,.i 0,.i 0,.i 0] [(0,1,(.k (.c (.i 1)))),(2,1,(.t 63))]),
V 65 (.idx 6 (.t 61) (.t 62)),
V 66 (.fad 2 (.t 65)),
Vn (.st 4 (.t 66) (.t 64))]) (.seq (.rg [V 67 (.mv (.t 0)),
V 68 (.nilc (.t 67)),
V 69 (.fad 1 (.t 68)),
V 70 (.fad 0 (.t 69)),
V 71 (.ld none (.t 70)),
V 72 (.mv (.t 15)),
V 73 (.mv (.t 17)),
V 74 (.build [.i 0,.i 0,.i 0,.i 0] [(0,1,(.k (.c (.i 1)))),(2,1,(.t 73))]),
V 75 (.idx 6 (.t 71) (.t 72)),
V 76 (.fad 2 (.t 75)),
Vn (.st 4 (.t 76) (.t 74))]) (.seq (.seq (.rg [V 18 (.mv (.k (.c (.i 0))))]) (.block 0 (.loop vf185b0))) (.seq (.rg [V 127 (.mv (.t 17)),
V 128 (.mv (.t 2)),
V 8 (.mv (.t 127)),
V 9 (.mv (.t 128))]) (.ret))))))))))))

def vf185:VF:=⟨vf185c,vf185v,[(8,none),(9,none)]⟩

theorem ok185:chkF Tryz.prog Tryz.f185 vf185=true:=by kernel_rfl

theorem dr185:drawsB vf185.body=true:=by kernel_rfl

def vf186v:List Nat:=[0,1,2,3,8,9,10,11,12,13,14,15]

def vf186c:VC:=.seq (.rg [V 8 (.mv (.k (.c (.i 0)))),
V 9 (.mv (.k (.c .ns)))]) (.seq (.rg [V 16 (.mv (.t 0)),
V 17 (.mv (.t 2)),
V 18 (.call 138 [(.t 16),(.t 17)]),
V 10 (.mv (.t 18))]) (.seq (.rg [V 19 (.mv (.t 0)),
V 20 (.call 134 [(.t 19)]),
V 11 (.mv (.t 20))]) (.seq (.rg [V 22 (.mv (.t 0)),
V 23 (.mv (.t 11)),
V 24 (.mv (.t 2)),
V 25 (.mv (.t 3)),
V 26 (.call 137 [(.t 22),(.t 23),(.t 24),(.t 25)]),
V 21 (.mv (.t 26)),
V 27 (.ext 0 (.t 21)),
V 28 (.ext 1 (.t 21)),
V 12 (.mv (.t 27)),
V 13 (.mv (.t 28))]) (.seq (.rg [V 29 (.mv (.t 0)),
V 30 (.call 134 [(.t 29)]),
V 14 (.mv (.t 30))]) (.seq (.rg [V 31 (.mv (.t 0)),
V 32 (.nilc (.t 31)),
V 33 (.fad 1 (.t 32)),
V 34 (.fad 0 (.t 33)),
V 35 (.ld none (.t 34)),
V 36 (.mv (.t 1)),
V 37 (.mv (.t 10)),
V 38 (.mv (.t 11)),
V 39 (.mv (.t 14)),
V 40 (.build [.i 0,.i 0,.i 0,.i 0] [(0,1,(.k (.c (.i 2)))),(1,1,(.t 37)),(2,1,(.t 38)),(3,1,(.t 39))]),
V 41 (.idx 6 (.t 35) (.t 36)),
V 42 (.fad 2 (.t 41)),
Vn (.st 4 (.t 42) (.t 40))]) (.seq (.rg [V 43 (.mv (.t 0)),
V 44 (.nilc (.t 43)),
V 45 (.fad 1 (.t 44)),
V 46 (.fad 0 (.t 45)),
V 47 (.ld none (.t 46)),
V 48 (.mv (.t 12)),
V 49 (.mv (.t 14)),
V 50 (.build [.i 0,.i 0,.i 0,.i 0] [(0,1,(.k (.c (.i 1)))),(2,1,(.t 49))]),
V 51 (.idx 6 (.t 47) (.t 48)),
V 52 (.fad 2 (.t 51)),
Vn (.st 4 (.t 52) (.t 50))]) (.seq (.rg [V 53 (.mv (.t 0)),
V 54 (.call 135 [(.t 53)]),
V 15 (.mv (.t 54))]) (.seq (.rd [V 55 (.mv (.t 0)),
Vd [0] (V 56 (.nilc (.t 55))),
Vd [1] (V 57 (.fad 1 (.t 56))),
Vd [2] (V 58 (.fad 0 (.t 57))),
Vc [3] [] true (V 59 (.ld none (.t 58))),
V 60 (.mv (.t 14)),
V 61 (.mv (.t 15)),
V 62 (.mv (.t 1)),
V 63 (.mv (.t 0)),
V 64 (.mv (.t 2)),
Vc [8,9] [4] false (V 65 (.call 138 [(.t 63),(.t 64)])),
Vd [7,10] (V 66 (.build [.i 0,.i 0] [(0,1,(.t 62)),(1,1,(.t 65))])),
V 67 (.mv (.t 12)),
V 68 (.mv (.t 0)),
V 69 (.mv (.t 13)),
Vc [10,13,14] [4] false (V 70 (.call 138 [(.t 68),(.t 69)])),
Vd [12,15] (V 71 (.build [.i 0,.i 0] [(0,1,(.t 67)),(1,1,(.t 70))])),
Vc [11,16] [4] false (V 72 (.bsl 2 [.i 0,.i 0] 2 [(0,2,(.t 66)),(2,2,(.t 71))])),
Vd [6,17] (V 73 (.build [.i 0,.ns] [(0,1,(.t 61)),(1,1,(.t 72))])),
Vc [18] [4] false (V 74 (.bsl 2 [.i 0,.ns] 1 [(0,2,(.t 73))])),
Vd [4,5,19] (V 75 (.idx 6 (.t 59) (.t 60))),
Vd [20] (V 76 (.fad 0 (.t 75))),
Vd [21] (Vn (.st 1 (.t 76) (.t 74)))]) (.seq (.rg [V 77 (.mv (.t 14)),
V 78 (.bsl 1 [.i 0] 0 []),
V 79 (.mv (.t 2)),
V 80 (.app 1 (.t 78) (.t 79)),
V 81 (.mv (.t 15)),
V 82 (.bsl 1 [.i 0] 1 [(0,1,(.t 81))]),
V 83 (.app 1 (.t 80) (.t 82)),
V 8 (.mv (.t 77)),
V 9 (.mv (.t 83))]) (.ret))))))))))

def vf186:VF:=⟨vf186c,vf186v,[(8,none),(9,none)]⟩

theorem ok186:chkF Tryz.prog Tryz.f186 vf186=true:=by kernel_rfl

theorem dr186:drawsB vf186.body=true:=by kernel_rfl

def vf187v:List Nat:=[0,1,2,3,8,9,10,11,12,13,14,15,16,17,18,19,20,21,22,23]

def vf187r0:List VO:=[V 126 (.mv (.t 0)),Vd [0] (V 127 (.nilc (.t 126))),Vd [1] (V 128 (.fad 1 (.t 127))),Vd [2] (V 129 (.fad 0 (.t 128))),Vd [3] (V 130 (.ld none (.t 129))),V 131 (.mv (.t 12)),V 132 (.mv (.t 14)),V 133 (.mv (.t 1)),V 134 (.mv (.t 10)),Vd [7,8] (V 135 (.build [.i 0,.i 0] [(0,1,(.t 133)),(1,1,(.t 134))])),V 136 (.mv (.t 18)),V 137 (.mv (.t 20)),Vd [10,11] (V 138 (.build [.i 0,.i 0] [(0,1,(.t 136)),(1,1,(.t 137))])),Vd [9,12] (V 139 (.bsl 2 [.i 0,.i 0] 2 [(0,2,(.t 135)),(2,2,(.t 138))])),Vd [6,13] (V 140 (.build [.i 0,.ns] [(0,1,(.t 132)),(1,1,(.t 139))])),V 141 (.mv (.t 15)),V 142 (.mv (.t 1)),V 143 (.mv (.t 0)),V 144 (.mv (.t 2)),Vd [17,18] (V 145 (.call 138 [(.t 143),(.t 144)])),Vd [16,19] (V 146 (.build [.i 0,.i 0] [(0,1,(.t 142)),(1,1,(.t 145))])),V 147 (.mv (.t 18)),V 148 (.mv (.t 0)),Vd [22] (V 149 (.nilc (.t 148))),Vd [23] (V 150 (.fad 0 (.t 149))),Vd [24] (V 151 (.ld none (.t 150))),V 152 (.mv (.t 16)),V 153 (.mv (.t 22)),Vd [26,27] (V 154 (.bsl 1 [.i 0] 2 [(0,1,(.t 152)),(1,1,(.t 153))])),Vd [19,25,28] (V 155 (.call 78 [(.t 151),(.t 154)])),Vd [21,29] (V 156 (.build [.i 0,.i 0] [(0,1,(.t 147)),(1,1,(.t 155))])),Vd [20,30] (V 157 (.bsl 2 [.i 0,.i 0] 2 [(0,2,(.t 146)),(2,2,(.t 156))])),Vd [15,31] (V 158 (.build [.i 0,.ns] [(0,1,(.t 141)),(1,1,(.t 157))])),V 159 (.mv (.t 16)),V 160 (.mv (.t 1)),V 161 (.mv (.t 11)),Vd [34,35] (V 162 (.build [.i 0,.i 0] [(0,1,(.t 160)),(1,1,(.t 161))])),V 163 (.mv (.t 18)),V 164 (.mv (.t 23)),Vd [37,38] (V 165 (.build [.i 0,.i 0] [(0,1,(.t 163)),(1,1,(.t 164))])),Vd [36,39] (V 166 (.bsl 2 [.i 0,.i 0] 2 [(0,2,(.t 162)),(2,2,(.t 165))])),Vd [33,40] (V 167 (.build [.i 0,.ns] [(0,1,(.t 159)),(1,1,(.t 166))])),Vd [14,32,41] (V 168 (.bsl 2 [.i 0,.ns] 3 [(0,2,(.t 140)),(2,2,(.t 158)),(4,2,(.t 167))])),Vd [4,5,42] (V 169 (.idx 6 (.t 130) (.t 131))),Vd [43] (V 170 (.fad 0 (.t 169))),Vd [44] (Vn (.st 1 (.t 170) (.t 168)))]

def vf187t0:VT:=.all vf187r0

def vf187c:VC:=.seq (.rg [V 8 (.mv (.k (.c (.i 0)))),
V 9 (.mv (.k (.c .ns)))]) (.seq (.rg [V 24 (.mv (.t 0)),
V 25 (.call 135 [(.t 24)]),
V 10 (.mv (.t 25))]) (.seq (.rg [V 26 (.mv (.t 0)),
V 27 (.call 135 [(.t 26)]),
V 11 (.mv (.t 27))]) (.seq (.rg [V 28 (.mv (.t 0)),
V 29 (.mv (.t 1)),
V 30 (.mv (.t 10)),
V 31 (.mv (.t 0)),
V 32 (.nilc (.t 31)),
V 33 (.fad 0 (.t 32)),
V 34 (.ld none (.t 33)),
V 35 (.call 77 [(.t 34),(.k (.c (.i 5)))]),
V 36 (.build [.i 0,.i 0,.i 0,.i 0,.i 0] [(0,1,(.k (.c (.i 20)))),(1,1,(.t 30)),(4,1,(.t 35))]),
V 37 (.call 136 [(.t 28),(.t 29),(.t 36)])]) (.seq (.rg [V 38 (.mv (.t 0)),
V 39 (.mv (.t 1)),
V 40 (.mv (.t 11)),
V 41 (.build [.i 0,.i 0,.i 0,.i 0,.i 0] [(0,1,(.k (.c (.i 20)))),(1,1,(.t 40)),(4,1,(.k (.c (.i 1))))]),
V 42 (.call 136 [(.t 38),(.t 39),(.t 41)])]) (.seq (.rg [V 43 (.mv (.t 0)),
V 44 (.call 134 [(.t 43)]),
V 12 (.mv (.t 44))]) (.seq (.rg [V 45 (.mv (.t 0)),
V 46 (.call 134 [(.t 45)]),
V 13 (.mv (.t 46))]) (.seq (.rg [V 47 (.mv (.t 0)),
V 48 (.nilc (.t 47)),
V 49 (.fad 1 (.t 48)),
V 50 (.fad 0 (.t 49)),
V 51 (.ld none (.t 50)),
V 52 (.mv (.t 1)),
V 53 (.mv (.t 12)),
V 54 (.build [.i 0,.i 0,.i 0,.i 0] [(0,1,(.k (.c (.i 1)))),(2,1,(.t 53))]),
V 55 (.idx 6 (.t 51) (.t 52)),
V 56 (.fad 2 (.t 55)),
Vn (.st 4 (.t 56) (.t 54))]) (.seq (.rg [V 57 (.mv (.t 0)),
V 58 (.call 135 [(.t 57)]),
V 14 (.mv (.t 58))]) (.seq (.rg [V 59 (.mv (.t 0)),
V 60 (.call 135 [(.t 59)]),
V 15 (.mv (.t 60))]) (.seq (.rg [V 61 (.mv (.t 0)),
V 62 (.call 135 [(.t 61)]),
V 16 (.mv (.t 62))]) (.seq (.rg [V 63 (.bsl 1 [.i 0] 0 []),
V 64 (.mv (.t 2)),
V 65 (.app 1 (.t 63) (.t 64)),
V 66 (.mv (.t 14)),
V 67 (.mv (.t 15)),
V 68 (.mv (.t 16)),
V 69 (.bsl 1 [.i 0] 3 [(0,1,(.t 66)),(1,1,(.t 67)),(2,1,(.t 68))]),
V 70 (.app 1 (.t 65) (.t 69)),
V 17 (.mv (.t 70))]) (.seq (.rg [V 72 (.mv (.t 0)),
V 73 (.mv (.t 13)),
V 74 (.mv (.t 17)),
V 75 (.mv (.t 3)),
V 76 (.call 137 [(.t 72),(.t 73),(.t 74),(.t 75)]),
V 71 (.mv (.t 76)),
V 77 (.ext 0 (.t 71)),
V 78 (.ext 1 (.t 71)),
V 18 (.mv (.t 77)),
V 19 (.mv (.t 78))]) (.seq (.rg [V 79 (.mv (.t 0)),
V 80 (.call 135 [(.t 79)]),
V 20 (.mv (.t 80))]) (.seq (.rg [V 81 (.mv (.t 0)),
V 82 (.mv (.t 18)),
V 83 (.mv (.t 20)),
V 84 (.mv (.t 14)),
V 85 (.mv (.t 11)),
V 86 (.build [.i 0,.i 0,.i 0,.i 0,.i 0] [(0,1,(.k (.c (.i 2)))),(1,1,(.t 83)),(2,1,(.t 84)),(3,1,(.t 85))]),
V 87 (.call 136 [(.t 81),(.t 82),(.t 86)])]) (.seq (.rg [V 88 (.mv (.t 0)),
V 89 (.nilc (.t 88)),
V 90 (.fad 1 (.t 89)),
V 91 (.fad 0 (.t 90)),
V 92 (.ld none (.t 91)),
V 93 (.mv (.t 18)),
V 94 (.mv (.t 12)),
V 95 (.build [.i 0,.i 0,.i 0,.i 0] [(0,1,(.k (.c (.i 1)))),(2,1,(.t 94))]),
V 96 (.idx 6 (.t 92) (.t 93)),
V 97 (.fad 2 (.t 96)),
Vn (.st 4 (.t 97) (.t 95))]) (.seq (.rg [V 98 (.mv (.t 0)),
V 99 (.call 134 [(.t 98)]),
V 21 (.mv (.t 99))]) (.seq (.rg [V 100 (.mv (.t 0)),
V 101 (.nilc (.t 100)),
V 102 (.fad 1 (.t 101)),
V 103 (.fad 0 (.t 102)),
V 104 (.ld none (.t 103)),
V 105 (.mv (.t 12)),
V 106 (.mv (.t 14)),
V 107 (.mv (.t 13)),
V 108 (.mv (.t 21)),
V 109 (.build [.i 0,.i 0,.i 0,.i 0] [(0,1,(.k (.c (.i 2)))),(1,1,(.t 106)),(2,1,(.t 107)),(3,1,(.t 108))]),
V 110 (.idx 6 (.t 104) (.t 105)),
V 111 (.fad 2 (.t 110)),
Vn (.st 4 (.t 111) (.t 109))]) (.seq (.rg [V 112 (.mv (.t 0)),
V 113 (.mv (.t 19)),
V 114 (.call 138 [(.t 112),(.t 113)]),
V 22 (.mv (.t 114))]) (.seq (.rd [V 115 (.mv (.t 0)),
Vd [0] (V 116 (.nilc (.t 115))),
Vd [1] (V 117 (.fad 0 (.t 116))),
Vc [2] [] true (V 118 (.ld none (.t 117))),
V 119 (.mv (.t 15)),
V 120 (.mv (.t 0)),
V 121 (.mv (.t 19)),
Vc [5,6] [3] false (V 122 (.call 138 [(.t 120),(.t 121)])),
V 123 (.mv (.t 15)),
Vc [4,7,8] [3] false (V 124 (.bsl 1 [.i 0] 3 [(0,1,(.t 119)),(1,1,(.t 122)),(2,1,(.t 123))])),
Vd [3,9] (V 125 (.call 78 [(.t 118),(.t 124)])),
Vd [10] (V 23 (.mv (.t 125)))]) (.seq (.rx vf187r0 vf187t0) (.seq (.rg [V 171 (.mv (.t 21)),
V 172 (.mv (.t 17)),
V 8 (.mv (.t 171)),
V 9 (.mv (.t 172))]) (.ret))))))))))))))))))))))

def vf187:VF:=⟨vf187c,vf187v,[(8,none),(9,none)]⟩

theorem ok187:chkF Tryz.prog Tryz.f187 vf187=true:=by kernel_rfl

theorem dr187:drawsB vf187.body=true:=by kernel_rfl

def vf188v:List Nat:=[0,1,4,5,7,8,9,16]

def vf188b0:VC:=.seq (.rg [V 9 (.bin .lt (.t 8) (.t 7))]) (.seq (.cond (.t 9) (.skip) (.exit 0)) (.seq (.block 1 (.seq (.rg [V 10 (.mv (.t 8)),
V 5 (.mv (.t 10))]) (.seq (.rg [V 11 (.mv (.t 1)),
V 12 (.mv (.t 0)),
V 13 (.mv (.t 5)),
V 14 (.idx 1 (.t 12) (.t 13)),
V 15 (.ld none (.t 14)),
V 16 (.bin .eq (.t 11) (.t 15))]) (.cond (.t 16) (.seq (.rg [V 17 (.mv (.t 5)),
V 4 (.mv (.t 17))]) (.ret)) (.skip))))) (.rg [V 18 (.bin .add (.t 8) (.k (.c (.i 1)))),
V 8 (.mv (.t 18))])))

def vf188c:VC:=.seq (.rg [V 4 (.mv (.k (.c (.i 0))))]) (.seq (.seq (.rg [V 6 (.mv (.t 0)),
V 7 (.len (.t 6)),
V 8 (.mv (.k (.c (.i 0))))]) (.block 0 (.loop vf188b0))) (.seq (.rg [V 4 (.mv (.k (.c (.i (-1)))))]) (.ret)))

def vf188:VF:=⟨vf188c,vf188v,[(4,none)]⟩

theorem ok188:chkF Tryz.prog Tryz.f188 vf188=true:=by kernel_rfl

theorem dr188:drawsB vf188.body=true:=by kernel_rfl

def vf189v:List Nat:=[0,1,2,4,5,11]

def vf189c:VC:=.seq (.rg [V 2 (.box (.t 0)),
V 4 (.mv (.k (.c .ns)))]) (.seq (.rg [V 6 (.fad 0 (.t 2)),
V 7 (.ld none (.t 6)),
V 8 (.len (.t 7)),
V 9 (.mks 1 [.b false] (.t 8)),
V 5 (.mv (.t 9))]) (.seq (.seq (.rg [V 10 (.mv (.t 1)),
V 11 (.bin .eq (.t 10) (.k (.c (.i 0))))]) (.cond (.t 11) (.seq (.rg [V 12 (.mv (.t 5)),
V 4 (.mv (.t 12))]) (.ret)) (.skip))) (.seq (.rg [V 13 (.mv (.t 5)),
V 14 (.mv (.t 1)),
V 15 (.idx 1 (.t 13) (.t 14)),
Vn (.st 1 (.t 15) (.k (.c (.b true))))]) (.seq (.rg [V 16 (.ld (some 2) (.t 2)),
V 17 (.mv (.t 5)),
V 18 (.bsl 1 [.i 0] 0 []),
V 19 (.call 95 [(.t 16),(.k (.c (.i 0))),(.t 17),(.t 18)])]) (.seq (.rg [V 20 (.mv (.t 5)),
V 21 (.mv (.t 1)),
V 22 (.idx 1 (.t 20) (.t 21)),
Vn (.st 1 (.t 22) (.k (.c (.b false))))]) (.seq (.rg [V 23 (.mv (.t 5)),
V 4 (.mv (.t 23))]) (.ret)))))))

def vf189:VF:=⟨vf189c,vf189v,[(4,none)]⟩

theorem ok189:chkF Tryz.prog Tryz.f189 vf189=true:=by kernel_rfl

theorem dr189:drawsB vf189.body=true:=by kernel_rfl

def vf190v:List Nat:=[0,1,2,4,5,6,7,8,13,24,38,48,66]

def vf190b0:VC:=.seq (.seq (.rg [V 16 (.mv (.t 7)),
V 17 (.fad 0 (.t 2)),
V 18 (.ld none (.t 17)),
V 19 (.mv (.t 6)),
V 20 (.idx 6 (.t 18) (.t 19)),
V 21 (.fad 0 (.t 20)),
V 22 (.ld none (.t 21)),
V 23 (.len (.t 22)),
V 24 (.bin .lt (.t 16) (.t 23))]) (.cond (.t 24) (.skip) (.exit 2))) (.seq (.block 3 (.seq (.rg [V 27 (.fad 0 (.t 2)),
V 28 (.ld none (.t 27)),
V 29 (.mv (.t 6)),
V 30 (.idx 6 (.t 28) (.t 29)),
V 31 (.fad 0 (.t 30)),
V 32 (.ld none (.t 31)),
V 33 (.mv (.t 7)),
V 34 (.idx 2 (.t 32) (.t 33)),
V 35 (.fad 0 (.t 34)),
V 36 (.ld none (.t 35)),
V 37 (.mv (.t 1)),
V 38 (.bin .eq (.t 36) (.t 37))]) (.cond (.t 38) (.seq (.rg [V 39 (.mv (.t 6)),
V 4 (.mv (.t 39)),
V 5 (.mv (.k (.c (.i (-1)))))]) (.ret)) (.skip)))) (.rg [V 25 (.mv (.t 7)),
V 26 (.bin .add (.t 25) (.k (.c (.i 1)))),
V 7 (.mv (.t 26))]))

def vf190b1:VC:=.seq (.seq (.rg [V 40 (.mv (.t 8)),
V 41 (.fad 0 (.t 2)),
V 42 (.ld none (.t 41)),
V 43 (.mv (.t 6)),
V 44 (.idx 6 (.t 42) (.t 43)),
V 45 (.fad 1 (.t 44)),
V 46 (.ld none (.t 45)),
V 47 (.len (.t 46)),
V 48 (.bin .lt (.t 40) (.t 47))]) (.cond (.t 48) (.skip) (.exit 4))) (.seq (.block 5 (.seq (.rg [V 51 (.mv (.t 1)),
V 52 (.bin .ge (.t 51) (.k (.c (.i 0)))),
V 53 (.mv (.t 52)),
Vg 54 53 true (.fad 0 (.t 2)),
Vg 55 53 true (.ld none (.t 54)),
Vg 56 53 true (.mv (.t 6)),
Vg 57 53 true (.idx 6 (.t 55) (.t 56)),
Vg 58 53 true (.fad 1 (.t 57)),
Vg 59 53 true (.ld none (.t 58)),
Vg 60 53 true (.mv (.t 8)),
Vg 61 53 true (.idx 5 (.t 59) (.t 60)),
Vg 62 53 true (.ld (some 5) (.t 61)),
Vg 63 53 true (.call 46 [(.t 62)]),
Vg 64 53 true (.mv (.t 1)),
Vg 65 53 true (.bin .eq (.t 63) (.t 64)),
V 66 (.pick (.t 53) (.t 65) (.k (.c (.b false))))]) (.cond (.t 66) (.seq (.rg [V 67 (.mv (.t 6)),
V 68 (.mv (.t 8)),
V 4 (.mv (.t 67)),
V 5 (.mv (.t 68))]) (.ret)) (.skip)))) (.rg [V 49 (.mv (.t 8)),
V 50 (.bin .add (.t 49) (.k (.c (.i 1)))),
V 8 (.mv (.t 50))]))

def vf190b2:VC:=.seq (.seq (.rg [V 9 (.mv (.t 6)),
V 10 (.fad 0 (.t 2)),
V 11 (.ld none (.t 10)),
V 12 (.len (.t 11)),
V 13 (.bin .lt (.t 9) (.t 12))]) (.cond (.t 13) (.skip) (.exit 0))) (.seq (.block 1 (.seq (.seq (.rg [V 7 (.mv (.k (.c (.i 0))))]) (.block 2 (.loop vf190b0))) (.seq (.rg [V 8 (.mv (.k (.c (.i 0))))]) (.block 4 (.loop vf190b1))))) (.rg [V 14 (.mv (.t 6)),
V 15 (.bin .add (.t 14) (.k (.c (.i 1)))),
V 6 (.mv (.t 15))]))

def vf190c:VC:=.seq (.rg [V 2 (.box (.t 0)),
V 4 (.mv (.k (.c (.i 0)))),
V 5 (.mv (.k (.c (.i 0))))]) (.seq (.seq (.rg [V 6 (.mv (.k (.c (.i 0))))]) (.block 0 (.loop vf190b2))) (.seq (.rg [V 4 (.mv (.k (.c (.i (-1))))),
V 5 (.mv (.k (.c (.i (-2)))))]) (.ret)))

def vf190:VF:=⟨vf190c,vf190v,[(4,none),(5,none)]⟩

theorem ok190:chkF Tryz.prog Tryz.f190 vf190=true:=by kernel_rfl

theorem dr190:drawsB vf190.body=true:=by kernel_rfl

def vf191v:List Nat:=[0,1,4,5,7,8,9,16]

def vf191b0:VC:=.seq (.rg [V 9 (.bin .lt (.t 8) (.t 7))]) (.seq (.cond (.t 9) (.skip) (.exit 0)) (.seq (.block 1 (.seq (.rg [V 10 (.mv (.t 8)),
V 5 (.mv (.t 10))]) (.seq (.rg [V 11 (.mv (.t 1)),
V 12 (.mv (.t 0)),
V 13 (.mv (.t 5)),
V 14 (.idx 2 (.t 12) (.t 13)),
V 15 (.ld (some 2) (.t 14)),
V 16 (.clv (.t 11) [(.t 15)])]) (.cond (.t 16) (.seq (.rg [V 17 (.mv (.t 5)),
V 4 (.mv (.t 17))]) (.ret)) (.skip))))) (.rg [V 18 (.bin .add (.t 8) (.k (.c (.i 1)))),
V 8 (.mv (.t 18))])))

def vf191c:VC:=.seq (.rg [V 4 (.mv (.k (.c (.i 0))))]) (.seq (.seq (.rg [V 6 (.mv (.t 0)),
V 7 (.len (.t 6)),
V 8 (.mv (.k (.c (.i 0))))]) (.block 0 (.loop vf191b0))) (.seq (.rg [V 4 (.mv (.k (.c (.i (-1)))))]) (.ret)))

def vf191:VF:=⟨vf191c,vf191v,[(4,none)]⟩

theorem ok191:chkF Tryz.prog Tryz.f191 vf191=true:=by kernel_rfl

theorem dr191:drawsB vf191.body=true:=by kernel_rfl

def vf192v:List Nat:=[0,1,2,3]

def vf192c:VC:=.seq (.rg [V 2 (.box (.t 0)),
V 3 (.mv (.k (.c (.b false))))]) (.seq (.rg [V 4 (.fad 0 (.t 2)),
V 5 (.ld none (.t 4)),
V 6 (.ld none (.t 1)),
V 7 (.bin .eq (.t 5) (.t 6)),
V 3 (.mv (.t 7))]) (.ret))

def vf192:VF:=⟨vf192c,vf192v,[(3,none)]⟩

theorem ok192:chkF Tryz.prog Tryz.f192 vf192=true:=by kernel_rfl

theorem dr192:drawsB vf192.body=true:=by kernel_rfl

def vf193v:List Nat:=[0,1,2,3]

def vf193c:VC:=.seq (.rg [V 2 (.box (.t 0)),
V 3 (.mv (.k (.c (.b false))))]) (.seq (.rg [V 4 (.fad 0 (.t 2)),
V 5 (.ld none (.t 4)),
V 6 (.call 85 [(.t 5),(.k (.c (.y 68)))]),
V 7 (.mv (.t 6)),
Vg 8 7 true (.fad 1 (.t 2)),
Vg 9 7 true (.ld none (.t 8)),
Vg 10 7 true (.ld none (.t 1)),
Vg 11 7 true (.bin .eq (.t 9) (.t 10)),
V 12 (.pick (.t 7) (.t 11) (.k (.c (.b false)))),
V 3 (.mv (.t 12))]) (.ret))

def vf193:VF:=⟨vf193c,vf193v,[(3,none)]⟩

theorem ok193:chkF Tryz.prog Tryz.f193 vf193=true:=by kernel_rfl

theorem dr193:drawsB vf193.body=true:=by kernel_rfl
def tab:List (Nat×VF):=[(7,vf7),(8,vf8),(14,vf14),(18,vf18),(22,vf22),(23,vf23),(24,vf24),(25,vf25),(26,vf26),(27,vf27),(28,vf28),(29,vf29),(30,vf30),(31,vf31),(32,vf32),(38,vf38),(40,vf40),(42,vf42),(43,vf43),(46,vf46),(47,vf47),(48,vf48),(50,vf50),(51,vf51),(52,vf52),(54,vf54),(55,vf55),(56,vf56),(57,vf57),(58,vf58),(59,vf59),(60,vf60),(61,vf61),(62,vf62),(64,vf64),(65,vf65),(66,vf66),(67,vf67),(68,vf68),(69,vf69),(70,vf70),(71,vf71),(73,vf73),(74,vf74),(75,vf75),(76,vf76),(77,vf77),(78,vf78),(79,vf79),(80,vf80),(81,vf81),(83,vf83),(84,vf84),(85,vf85),(86,vf86),(88,vf88),(89,vf89),(90,vf90),(91,vf91),(92,vf92),(94,vf94),(95,vf95),(96,vf96),(98,vf98),(99,vf99),(100,vf100),(101,vf101),(102,vf102),(103,vf103),(104,vf104),(105,vf105),(106,vf106),(107,vf107),(108,vf108),(109,vf109),(110,vf110),(113,vf113),(114,vf114),(115,vf115),(116,vf116),(117,vf117),(118,vf118),(119,vf119),(120,vf120),(121,vf121),(122,vf122),(124,vf124),(125,vf125),(126,vf126),(127,vf127),(128,vf128),(129,vf129),(130,vf130),(133,vf133),(134,vf134),(135,vf135),(136,vf136),(137,vf137),(138,vf138),(139,vf139),(141,vf141),(143,vf143),(144,vf144),(145,vf145),(146,vf146),(147,vf147),(148,vf148),(149,vf149),(150,vf150),(152,vf152),(153,vf153),(154,vf154),(155,vf155),(156,vf156),(157,vf157),(158,vf158),(159,vf159),(160,vf160),(161,vf161),(162,vf162),(163,vf163),(167,vf167),(168,vf168),(169,vf169),(170,vf170),(171,vf171),(183,vf183),(184,vf184),(185,vf185),(186,vf186),(187,vf187),(188,vf188),(189,vf189),(190,vf190),(191,vf191),(192,vf192),(193,vf193)]

abbrev M:Code:=fun n=>tab.lookup n

theorem okM:OkCode Tryz.prog M:=okCode_of (tab:=tab) ⟨ ⟨_,Tryz.func7,ok7⟩,
 ⟨_,Tryz.func8,ok8⟩,
 ⟨_,Tryz.func14,ok14⟩,
 ⟨_,Tryz.func18,ok18⟩,
 ⟨_,Tryz.func22,ok22⟩,
 ⟨_,Tryz.func23,ok23⟩,
 ⟨_,Tryz.func24,ok24⟩,
 ⟨_,Tryz.func25,ok25⟩,
 ⟨_,Tryz.func26,ok26⟩,
 ⟨_,Tryz.func27,ok27⟩,
 ⟨_,Tryz.func28,ok28⟩,
 ⟨_,Tryz.func29,ok29⟩,
 ⟨_,Tryz.func30,ok30⟩,
 ⟨_,Tryz.func31,ok31⟩,
 ⟨_,Tryz.func32,ok32⟩,
 ⟨_,Tryz.func38,ok38⟩,
 ⟨_,Tryz.func40,ok40⟩,
 ⟨_,Tryz.func42,ok42⟩,
 ⟨_,Tryz.func43,ok43⟩,
 ⟨_,Tryz.func46,ok46⟩,
 ⟨_,Tryz.func47,ok47⟩,
 ⟨_,Tryz.func48,ok48⟩,
 ⟨_,Tryz.func50,ok50⟩,
 ⟨_,Tryz.func51,ok51⟩,
 ⟨_,Tryz.func52,ok52⟩,
 ⟨_,Tryz.func54,ok54⟩,
 ⟨_,Tryz.func55,ok55⟩,
 ⟨_,Tryz.func56,ok56⟩,
 ⟨_,Tryz.func57,ok57⟩,
 ⟨_,Tryz.func58,ok58⟩,
 ⟨_,Tryz.func59,ok59⟩,
 ⟨_,Tryz.func60,ok60⟩,
 ⟨_,Tryz.func61,ok61⟩,
 ⟨_,Tryz.func62,ok62⟩,
 ⟨_,Tryz.func64,ok64⟩,
 ⟨_,Tryz.func65,ok65⟩,
 ⟨_,Tryz.func66,ok66⟩,
 ⟨_,Tryz.func67,ok67⟩,
 ⟨_,Tryz.func68,ok68⟩,
 ⟨_,Tryz.func69,ok69⟩,
 ⟨_,Tryz.func70,ok70⟩,
 ⟨_,Tryz.func71,ok71⟩,
 ⟨_,Tryz.func73,ok73⟩,
 ⟨_,Tryz.func74,ok74⟩,
 ⟨_,Tryz.func75,ok75⟩,
 ⟨_,Tryz.func76,ok76⟩,
 ⟨_,Tryz.func77,ok77⟩,
 ⟨_,Tryz.func78,ok78⟩,
 ⟨_,Tryz.func79,ok79⟩,
 ⟨_,Tryz.func80,ok80⟩,
 ⟨_,Tryz.func81,ok81⟩,
 ⟨_,Tryz.func83,ok83⟩,
 ⟨_,Tryz.func84,ok84⟩,
 ⟨_,Tryz.func85,ok85⟩,
 ⟨_,Tryz.func86,ok86⟩,
 ⟨_,Tryz.func88,ok88⟩,
 ⟨_,Tryz.func89,ok89⟩,
 ⟨_,Tryz.func90,ok90⟩,
 ⟨_,Tryz.func91,ok91⟩,
 ⟨_,Tryz.func92,ok92⟩,
 ⟨_,Tryz.func94,ok94⟩,
 ⟨_,Tryz.func95,ok95⟩,
 ⟨_,Tryz.func96,ok96⟩,
 ⟨_,Tryz.func98,ok98⟩,
 ⟨_,Tryz.func99,ok99⟩,
 ⟨_,Tryz.func100,ok100⟩,
 ⟨_,Tryz.func101,ok101⟩,
 ⟨_,Tryz.func102,ok102⟩,
 ⟨_,Tryz.func103,ok103⟩,
 ⟨_,Tryz.func104,ok104⟩,
 ⟨_,Tryz.func105,ok105⟩,
 ⟨_,Tryz.func106,ok106⟩,
 ⟨_,Tryz.func107,ok107⟩,
 ⟨_,Tryz.func108,ok108⟩,
 ⟨_,Tryz.func109,ok109⟩,
 ⟨_,Tryz.func110,ok110⟩,
 ⟨_,Tryz.func113,ok113⟩,
 ⟨_,Tryz.func114,ok114⟩,
 ⟨_,Tryz.func115,ok115⟩,
 ⟨_,Tryz.func116,ok116⟩,
 ⟨_,Tryz.func117,ok117⟩,
 ⟨_,Tryz.func118,ok118⟩,
 ⟨_,Tryz.func119,ok119⟩,
 ⟨_,Tryz.func120,ok120⟩,
 ⟨_,Tryz.func121,ok121⟩,
 ⟨_,Tryz.func122,ok122⟩,
 ⟨_,Tryz.func124,ok124⟩,
 ⟨_,Tryz.func125,ok125⟩,
 ⟨_,Tryz.func126,ok126⟩,
 ⟨_,Tryz.func127,ok127⟩,
 ⟨_,Tryz.func128,ok128⟩,
 ⟨_,Tryz.func129,ok129⟩,
 ⟨_,Tryz.func130,ok130⟩,
 ⟨_,Tryz.func133,ok133⟩,
 ⟨_,Tryz.func134,ok134⟩,
 ⟨_,Tryz.func135,ok135⟩,
 ⟨_,Tryz.func136,ok136⟩,
 ⟨_,Tryz.func137,ok137⟩,
 ⟨_,Tryz.func138,ok138⟩,
 ⟨_,Tryz.func139,ok139⟩,
 ⟨_,Tryz.func141,ok141⟩,
 ⟨_,Tryz.func143,ok143⟩,
 ⟨_,Tryz.func144,ok144⟩,
 ⟨_,Tryz.func145,ok145⟩,
 ⟨_,Tryz.func146,ok146⟩,
 ⟨_,Tryz.func147,ok147⟩,
 ⟨_,Tryz.func148,ok148⟩,
 ⟨_,Tryz.func149,ok149⟩,
 ⟨_,Tryz.func150,ok150⟩,
 ⟨_,Tryz.func152,ok152⟩,
 ⟨_,Tryz.func153,ok153⟩,
 ⟨_,Tryz.func154,ok154⟩,
 ⟨_,Tryz.func155,ok155⟩,
 ⟨_,Tryz.func156,ok156⟩,
 ⟨_,Tryz.func157,ok157⟩,
 ⟨_,Tryz.func158,ok158⟩,
 ⟨_,Tryz.func159,ok159⟩,
 ⟨_,Tryz.func160,ok160⟩,
 ⟨_,Tryz.func161,ok161⟩,
 ⟨_,Tryz.func162,ok162⟩,
 ⟨_,Tryz.func163,ok163⟩,
 ⟨_,Tryz.func167,ok167⟩,
 ⟨_,Tryz.func168,ok168⟩,
 ⟨_,Tryz.func169,ok169⟩,
 ⟨_,Tryz.func170,ok170⟩,
 ⟨_,Tryz.func171,ok171⟩,
 ⟨_,Tryz.func183,ok183⟩,
 ⟨_,Tryz.func184,ok184⟩,
 ⟨_,Tryz.func185,ok185⟩,
 ⟨_,Tryz.func186,ok186⟩,
 ⟨_,Tryz.func187,ok187⟩,
 ⟨_,Tryz.func188,ok188⟩,
 ⟨_,Tryz.func189,ok189⟩,
 ⟨_,Tryz.func190,ok190⟩,
 ⟨_,Tryz.func191,ok191⟩,
 ⟨_,Tryz.func192,ok192⟩,
 ⟨_,Tryz.func193,ok193⟩,
trivial⟩
@[congr] theorem WP.cong {α:Type} {o o':Option α} {Q:α→Prop} (h:o=o'):WP o Q=WP o' Q:=by rw[h]

@[congr] theorem bind_one {α β:Type} {o o':Option α} {f:α→Option β} (h:o=o'):o.bind f=o'.bind f:=by rw[h]

@[simp] theorem WP_some {α:Type} (r:α) (Q:α→Prop):WP (some r) Q=Q r:=by
 simp only[WP,Option.some.injEq,eq_iff_iff]
 exact⟨fun ⟨_,h,q⟩=>h▸q,fun q=>⟨_,rfl,q⟩⟩

@[simp] theorem WP_none {α:Type} (Q:α→Prop):WP none Q=False:=by
 simp[WP]

@[congr] theorem runOpsD_one {K:OrD} {ops:List VO} {st st':St} {k:St→Prop} (h:st=st'):runOpsD K ops st k=runOpsD K ops st' k:=by rw[h]

@[congr] theorem runOpD_one {K:OrD} {o:VO} {st st':St} {k:St→Prop} (h:st=st'):runOpD K o st k=runOpD K o st' k:=by rw[h]

@[congr] theorem stepD_one {K:OrD} {e e':Env} {H H':Hp} {o:VOp} {k:IV×Hp→Prop} (h:e=e') (h2:H=H'):stepD K e H o k=stepD K e' H' o k:=by rw[h,h2]

@[congr] theorem runC_one {K:OrD} {L:List (Nat×VO)} {rs:List (Nat×CV)} {es:List (Nat×Hp)} {st st':St} {k:St→Prop} (h:st=st'):runC K L rs es st k=runC K L rs es st' k:=by rw[h]

@[congr] theorem treeW_one {K:OrD} {t:VT} {st st':St} {k:St→Prop} (h:st=st'):treeW K t st k=treeW K t st' k:=by rw[h]

@[congr] theorem exW_one {K:OrD} {vars:List Nat} {c:VC} {st st':St} {Q:X×St→Prop} (h:st=st'):exW K vars c st Q=exW K vars c st' Q:=by rw[h]

@[congr] theorem loopD_one {f:St→(X×St→Prop)→Prop} {st st':St} {Q:X×St→Prop} (h:st=st'):loopD f st Q=loopD f st' Q:=by rw[h]

@[congr] theorem thenD_one {f:St→Prop} {Q:X×St→Prop} {r r':X×St} (h:r=r'):thenD f Q r=thenD f Q r':=by rw[h]

@[congr] theorem blockD_one {k:Nat} {Q:X×St→Prop} {r r':X×St} (h:r=r'):blockD k Q r=blockD k Q r':=by rw[h]

@[congr] theorem finD_one {H:Hp} {res:List (Nat×Option (Option Nat))} {Q:IV×Hp→Prop} {r r':X×St} (h:r=r'):finD H res Q r=finD H res Q r':=by rw[h]

@[congr] theorem cndP_one {v v':IV} {A B:Prop} (h:v=v'):cndP v A B=cndP v' A B:=by rw[h]

@[congr] theorem callD_one {M:Code} {X0:OrD} {f:Nat} {az az':List IV} {H H':Hp} {Q:IV×Hp→Prop} (h:az=az') (h2:H=H'):callD M X0 f az H Q=callD M X0 f az' H' Q:=by rw[h,h2]


def runK (K:OrD) (r:List VO) (k:St→Prop):St→Prop:=fun s=>runOpsD K r s k

@[simp] theorem runK_at (K:OrD) (r:List VO) (k:St→Prop) (s:St):runK K r k s=runOpsD K r s k:=Eq.trans rfl rfl

def putK (k:St→Prop) (e:Env) (d:Option Nat):IV×Hp→Prop:=fun r=>k ⟨setD e d r.1,r.2⟩

@[simp] theorem putK_at (k:St→Prop) (e:Env) (d:Option Nat) (v:IV) (H:Hp):putK k e d (v,H)=k ⟨setD e d v,H⟩:=Eq.trans rfl rfl

def bindK {α β:Type} (f:α→Option β) (Q:β→Prop):α→Prop:=fun r=>WP (f r) Q

@[simp] theorem bindK_at {α β:Type} (f:α→Option β) (Q:β→Prop) (r:α):bindK f Q r=WP (f r) Q:=Eq.trans rfl rfl

@[simp] theorem WP_bind {α β:Type} (o:Option α) (f:α→Option β) (Q:β→Prop):WP (o.bind f) Q=WP o (bindK f Q):=by
 cases o with
 | none=>simp[WP]
 | some x=>simp[WP_some]

def seqK (K:OrD) (vars:List Nat) (b:VC) (Q:X×St→Prop):St→Prop:=fun s=>exW K vars b s Q

@[simp] theorem seqK_at (K:OrD) (vars:List Nat) (b:VC) (Q:X×St→Prop) (s:St):seqK K vars b Q s=exW K vars b s Q:=Eq.trans rfl rfl

def normK (vars:List Nat) (Q:X×St→Prop):St→Prop:=fun s=>Q (.norm,prune vars s)

@[simp] theorem normK_at (vars:List Nat) (Q:X×St→Prop) (s:St):normK vars Q s=Q (.norm,prune vars s):=Eq.trans rfl rfl

def exU (K:OrD) (vars:List Nat) (b:VC) (s:St) (Q:X×St→Prop):Unit→Prop:=fun _=>exW K vars b s Q

@[simp] theorem exU_at (K:OrD) (vars:List Nat) (b:VC) (s:St) (Q:X×St→Prop) (u:Unit):exU K vars b s Q u=exW K vars b s Q:=Eq.trans rfl rfl

def stU (K:OrD) (e:Env) (H:Hp) (o:VOp) (Q:IV×Hp→Prop):Unit→Prop:=fun _=>stepD K e H o Q

@[simp] theorem stU_at (K:OrD) (e:Env) (H:Hp) (o:VOp) (Q:IV×Hp→Prop) (u:Unit):stU K e H o Q u=stepD K e H o Q:=Eq.trans rfl rfl

def kU (k:St→Prop) (s:St):Unit→Prop:=fun _=>k s

@[simp] theorem kU_at (k:St→Prop) (s:St) (u:Unit):kU k s u=k s:=Eq.trans rfl rfl

def cnd (v:IV) (A B:Unit→Prop):Prop:=cndP v (A ()) (B ())

@[congr] theorem cnd_one {v v':IV} {A B:Unit→Prop} (h:v=v'):cnd v A B=cnd v' A B:=by rw[h]

@[simp] theorem cnd_true (A B:Unit→Prop):cnd (.c (.b true)) A B=A ():=Eq.trans rfl rfl

@[simp] theorem cnd_false (A B:Unit→Prop):cnd (.c (.b false)) A B=B ():=Eq.trans rfl rfl

theorem cnd_of {b:Bool} {A B:Unit→Prop} (h1:b=true→A ()) (h2:b=false→B ()):cnd (.c (.b b)) A B:=by
 cases b with
 | true=>exact h1 rfl
 | false=>exact h2 rfl

def chkK (ck:List Nat) (H:Hp) (rs:List (Nat×CV)) (k:St→Prop):St→Prop:=fun s=>chkE ck H s.h rs∧k s

@[simp] theorem chkK_at (ck:List Nat) (H:Hp) (rs:List (Nat×CV)) (k:St→Prop) (s:St):chkK ck H rs k s=(chkE ck H s.h rs∧k s):=Eq.trans rfl rfl

def chkP (p:Prop) (k:St→Prop):St→Prop:=fun s=>p∧k s

@[simp] theorem chkP_at (p:Prop) (k:St→Prop) (s:St):chkP p k s=(p∧k s):=Eq.trans rfl rfl

def ordK (K:OrD) (i:Nat) (r:List VO) (rs:List (Nat×CV)) (es:List (Nat×Hp)) (k:St→Prop):St→Prop:=fun s=>runC K (enumF i r) rs es s k

@[simp] theorem ordK_at (K:OrD) (i:Nat) (r:List VO) (rs:List (Nat×CV)) (es:List (Nat×Hp)) (k:St→Prop) (s:St):ordK K i r rs es k s=runC K (enumF i r) rs es s k:=Eq.trans rfl rfl

def ordL (K:OrD) (r:List (Nat×VO)) (rs:List (Nat×CV)) (es:List (Nat×Hp)) (k:St→Prop):St→Prop:=fun s=>runC K r rs es s k

@[simp] theorem ordL_at (K:OrD) (r:List (Nat×VO)) (rs:List (Nat×CV)) (es:List (Nat×Hp)) (k:St→Prop) (s:St):ordL K r rs es k s=runC K r rs es s k:=Eq.trans rfl rfl

def iff2 {α:Type} (b:Bool) (x y:α):α:=if b=true then x else y

@[simp] theorem iff2_t {α:Type} (x y:α):iff2 true x y=x:=Eq.trans rfl rfl

@[simp] theorem iff2_f {α:Type} (x y:α):iff2 false x y=y:=Eq.trans rfl rfl

@[simp] theorem cndP_true (A B:Prop):cndP (.c (.b true)) A B=A:=Eq.trans rfl rfl

@[simp] theorem cndP_false (A B:Prop):cndP (.c (.b false)) A B=B:=Eq.trans rfl rfl

def grd (v:IV) (w:Bool) (A B:Unit→Prop):Prop:=
 match v with
 | .c (.b x)=>if x=w then A () else B ()
 | .c .und=>B ()
 | _=>False

@[simp] theorem grd_und (w:Bool) (A B:Unit→Prop):grd (.c .und) w A B=B ():=Eq.trans rfl rfl

@[congr] theorem grd_one {v v':IV} {w:Bool} {A B:Unit→Prop} (h:v=v'):grd v w A B=grd v' w A B:=by rw[h]

@[simp] theorem grd_tt (A B:Unit→Prop):grd (.c (.b true)) true A B=A ():=by simp[grd]

@[simp] theorem grd_tf (A B:Unit→Prop):grd (.c (.b true)) false A B=B ():=by simp[grd]

@[simp] theorem grd_ft (A B:Unit→Prop):grd (.c (.b false)) true A B=B ():=by simp[grd]

@[simp] theorem grd_ff (A B:Unit→Prop):grd (.c (.b false)) false A B=A ():=by simp[grd]

theorem grd_t {b:Bool} {A B:Unit→Prop} (h1:b=true→A ()) (h2:b=false→B ()):grd (.c (.b b)) true A B:=by
 cases b with
 | true=>simpa using h1 rfl
 | false=>simpa using h2 rfl

theorem grd_f {b:Bool} {A B:Unit→Prop} (h1:b=false→A ()) (h2:b=true→B ()):grd (.c (.b b)) false A B:=by
 cases b with
 | true=>simpa using h2 rfl
 | false=>simpa using h1 rfl

def rdC (H:Hp) (id g off:Nat):Option CV:=(rdOb H id g).bind fun o=>o.cells[off]?

def rdN (H:Hp) (id g off n:Nat):Option (List CV):=(rdOb H id g).bind fun o=>if off+n≤o.cells.length then some ((o.cells.drop off).take n) else none

section

variable {K:OrD} {vars:List Nat} {e:Env} {H:Hp} {st:St} {Q:X×St→Prop}

@[simp ↓] theorem exW_skip:exW K vars .skip st Q=Q (.norm,st):=Eq.trans rfl rfl

@[simp ↓] theorem exW_rg (ops:List VO):exW K vars (.rg ops) st Q=runOpsD K ops st (normK vars Q):=Eq.trans rfl rfl

@[simp ↓] theorem exW_rd (ops:List VO):exW K vars (.rd ops) st Q=runC K (enumF 0 ops) [] [] st (normK vars Q):=Eq.trans rfl rfl

@[simp ↓] theorem exW_rx (ops:List VO) (t:VT):exW K vars (.rx ops t) st Q=treeW K t st (normK vars Q):=Eq.trans rfl rfl

@[simp ↓] theorem exW_seq (a b:VC):exW K vars (.seq a b) st Q=exW K vars a st (thenD (seqK K vars b Q) Q):=Eq.trans rfl rfl

@[simp ↓] theorem exW_cond (x:Od) (a b:VC):exW K vars (.cond x a b) st Q=cnd (x.get st.e) (exU K vars a st Q) (exU K vars b st Q):=Eq.trans rfl rfl

@[simp ↓] theorem exW_block (k:Nat) (c:VC):exW K vars (.block k c) st Q=exW K vars c st (blockD k Q):=Eq.trans rfl rfl

@[simp ↓] theorem exW_loop (c:VC):exW K vars (.loop c) st Q=loopD (exW K vars c) st Q:=Eq.trans rfl rfl

@[simp ↓] theorem exW_exit (k:Nat):exW K vars (.exit k) st Q=Q (.exit k,st):=Eq.trans rfl rfl

@[simp ↓] theorem exW_ret:exW K vars .ret st Q=Q (.ret,st):=Eq.trans rfl rfl

@[simp] theorem thenD_norm (f:St→Prop) (s:St):thenD f Q (.norm,s)=f s:=Eq.trans rfl rfl

@[simp] theorem thenD_exit (f:St→Prop) (n:Nat) (s:St):thenD f Q (.exit n,s)=Q (.exit n,s):=Eq.trans rfl rfl

@[simp] theorem thenD_ret (f:St→Prop) (s:St):thenD f Q (.ret,s)=Q (.ret,s):=Eq.trans rfl rfl

@[simp] theorem blockD_norm (k:Nat) (s:St):blockD k Q (.norm,s)=Q (.norm,s):=Eq.trans rfl rfl

@[simp] theorem blockD_exit (k n:Nat) (s:St):blockD k Q (.exit n,s)=if n=k then Q (.norm,s) else Q (.exit n,s):=Eq.trans rfl rfl

@[simp] theorem blockD_ret (k:Nat) (s:St):blockD k Q (.ret,s)=Q (.ret,s):=Eq.trans rfl rfl

variable {k:St→Prop}

@[simp ↓] theorem runOpsD_nil:runOpsD K [] st k=k st:=Eq.trans rfl rfl

@[simp ↓] theorem runOpsD_cons (o:VO) (r:List VO):runOpsD K (o :: r) st k=runOpD K o st (runK K r k):=Eq.trans rfl rfl

@[simp ↓] theorem treeW_leaf (l:List (Nat×VO)):treeW K (.leaf l) st k=runC K l [] [] st k:=Eq.trans rfl rfl

@[simp ↓] theorem treeW_split (a b:Nat) (x y:VT):treeW K (.split a b x y) st k=(treeW K x st k∧treeW K y st k):=Eq.trans rfl rfl

@[simp ↓] theorem treeW_all (os:List VO):treeW K (.all os) st k=RunAllD K os k os.length (List.replicate os.length false) st:=Eq.trans rfl rfl

@[simp ↓] theorem runC_nil (rs:List (Nat×CV)) (es:List (Nat×Hp)):runC K [] rs es st k=k st:=Eq.trans rfl rfl

@[simp ↓] theorem runC_enil (i:Nat) (rs:List (Nat×CV)) (es:List (Nat×Hp)):runC K (enumF i []) rs es st k=k st:=Eq.trans rfl rfl

@[simp ↓] theorem runC_E (i:Nat) (o:VO) (r:List VO) (rs:List (Nat×CV)) (es:List (Nat×Hp)):runC K (enumF i (o :: r)) rs es st k=iff2 (isE o.o)
  (runOpD K o st (chkK o.ck st.h rs (ordK K (i+1) r rs (iff2 o.rc ((i,st.h) :: es) es) k)))
  (runOpD K o st (chkP (chkR o.ck (rdv st.e o.o) st.h es) (ordK K (i+1) r (iff2 o.rc ((i,rdv st.e o.o) :: rs) rs) es k))):=Eq.trans rfl rfl

@[simp ↓] theorem runC_L1 (i:Nat) (o:VO) (r:List (Nat×VO)) (rs:List (Nat×CV)) (es:List (Nat×Hp)):runC K ((i,o) :: r) rs es st k=iff2 (isE o.o)
  (runOpD K o st (chkK o.ck st.h rs (ordL K r rs (iff2 o.rc ((i,st.h) :: es) es) k)))
  (runOpD K o st (chkP (chkR o.ck (rdv st.e o.o) st.h es) (ordL K r (iff2 o.rc ((i,rdv st.e o.o) :: rs) rs) es k))):=Eq.trans rfl rfl

@[congr] theorem iff2_one {α:Type} {b b':Bool} {x y:α} (h:b=b'):iff2 b x y=iff2 b' x y:=by rw[h]

@[simp ↓] theorem runOpD_Vd (dp:List Nat) (x:VO):runOpD K (Vd dp x) st k=runOpD K x st k:=Eq.trans rfl rfl

@[simp ↓] theorem runOpD_Vc (dp ck:List Nat) (rc:Bool) (x:VO):runOpD K (Vc dp ck rc x) st k=runOpD K x st k:=Eq.trans rfl rfl

@[simp] theorem runOpD_none (d:Option Nat) (o:VOp) (dp ck:List Nat) (rc:Bool):runOpD K ⟨d,o,none,dp,ck,rc⟩ st k=stepD K st.e st.h o (putK k st.e d):=Eq.trans rfl rfl

@[simp] theorem runOpD_some (d:Option Nat) (o:VOp) (s:Nat) (want:Bool) (dp ck:List Nat) (rc:Bool):runOpD K ⟨d,o,some (s,want),dp,ck,rc⟩ st k=grd (Env.get st.e s) want
  (stU K st.e st.h o (putK k st.e d)) (kU k ⟨setD st.e d (.c .und),st.h⟩):=by
 simp only[runOpD,grd]
 generalize Env.get st.e s=u
 cases u with
 | c v=>cases v<;>rfl
 | _=>rfl

@[simp] theorem chkE_nil (ck:List Nat) (H H':Hp):chkE ck H H' []=True:=Eq.trans rfl rfl

@[simp] theorem chkE_cons (ck:List Nat) (H H':Hp) (q:Nat×CV) (r:List (Nat×CV)):chkE ck H H' (q :: r)=((q.1∈ck→sameAt q.2 H H')∧chkE ck H H' r):=Eq.trans rfl rfl

theorem chkE_all (H H':Hp):∀ r,chkE [] H H' r
 | []=>trivial
 | q :: r=>⟨fun h=>by simp at h,chkE_all H H' r⟩

@[simp] theorem chkE_ck (H H':Hp) (r:List (Nat×CV)):chkE [] H H' r=True:=eq_true (chkE_all H H' r)

@[simp] theorem chkR_nil (ck:List Nat) (v:CV) (H':Hp):chkR ck v H' []=True:=Eq.trans rfl rfl

@[simp] theorem chkR_cons (ck:List Nat) (v:CV) (H':Hp) (q:Nat×Hp) (r:List (Nat×Hp)):chkR ck v H' (q :: r)=((q.1∈ck→sameAt v q.2 H')∧chkR ck v H' r):=Eq.trans rfl rfl

theorem chkR_all (v:CV) (H':Hp):∀ r,chkR [] v H' r
 | []=>trivial
 | q :: r=>⟨fun h=>by simp at h,chkR_all v H' r⟩

@[simp] theorem chkR_ck (v:CV) (H':Hp) (r:List (Nat×Hp)):chkR [] v H' r=True:=eq_true (chkR_all v H' r)

@[simp] theorem sameAt_p (id g off:Nat) (H H':Hp):sameAt (.p id g off) H H'=(rdOb H' id g=rdOb H id g):=Eq.trans rfl rfl

@[simp] theorem sameAt_sl (id g off n:Nat) (H H':Hp):sameAt (.sl id g off n) H H'=(rdOb H' id g=rdOb H id g):=Eq.trans rfl rfl

@[simp] theorem sameAt_non (H H':Hp):sameAt .non H H'=True:=Eq.trans rfl rfl

@[simp] theorem sameAt_und (H H':Hp):sameAt .und H H'=True:=Eq.trans rfl rfl

@[simp] theorem sameAt_self (v:CV) (H:Hp):sameAt v H H=True:=by cases v<;>simp[sameAt]

@[simp] theorem sameAt_ns (H H':Hp):sameAt .ns H H'=True:=Eq.trans rfl rfl

@[simp] theorem rv_ld (n:Option Nat) (a:Od):rdv e (.ld n a)=match a.get e with | .c v=>v | _=>.non:=Eq.trans rfl rfl

@[simp] theorem rv_slc (sz:Nat) (x:Od) (lo hi:Option Od):rdv e (.slc sz x lo hi)=match x.get e with | .c v=>v | _=>.non:=Eq.trans rfl rfl

end

section

variable {K:OrD} {e:Env} {H:Hp} {Q:IV×Hp→Prop}

@[simp] theorem sd_mv (x:Od):stepD K e H (.mv x) Q=WP (stepV noK e H (.mv x)) Q:=Eq.trans rfl rfl

@[simp] theorem sd_pick (a b c:Od):stepD K e H (.pick a b c) Q=WP (stepV noK e H (.pick a b c)) Q:=Eq.trans rfl rfl

@[simp] theorem sd_alloc (zs:List CV):stepD K e H (.alloc zs) Q=WP (stepV noK e H (.alloc zs)) Q:=Eq.trans rfl rfl

@[simp] theorem sd_box (x:Od):stepD K e H (.box x) Q=WP (stepV noK e H (.box x)) Q:=Eq.trans rfl rfl

@[simp] theorem sd_build (zs:List CV) (ps:List (Nat×Nat×Od)):stepD K e H (.build zs ps) Q=WP (stepV noK e H (.build zs ps)) Q:=Eq.trans rfl rfl

@[simp] theorem sd_bsl (sz:Nat) (zs:List CV) (n:Nat) (ps:List (Nat×Nat×Od)):stepD K e H (.bsl sz zs n ps) Q=WP (stepV noK e H (.bsl sz zs n ps)) Q:=Eq.trans rfl rfl

@[simp] theorem sd_ld (n:Option Nat) (a:Od):stepD K e H (.ld n a) Q=WP (stepV noK e H (.ld n a)) Q:=Eq.trans rfl rfl

@[simp] theorem sd_st (n:Nat) (a x:Od):stepD K e H (.st n a x) Q=WP (stepV noK e H (.st n a x)) Q:=Eq.trans rfl rfl

@[simp] theorem sd_nilc (x:Od):stepD K e H (.nilc x) Q=WP (stepV noK e H (.nilc x)) Q:=Eq.trans rfl rfl

@[simp] theorem sd_bin (o:Bo) (x y:Od):stepD K e H (.bin o x y) Q=WP (stepV noK e H (.bin o x y)) Q:=Eq.trans rfl rfl

@[simp] theorem sd_shk (l:Bool) (n:Nat) (x:Od):stepD K e H (.shk l n x) Q=WP (stepV noK e H (.shk l n x)) Q:=Eq.trans rfl rfl

@[simp] theorem sd_bck (a b c d:Od):stepD K e H (.bck a b c d) Q=WP (stepV noK e H (.bck a b c d)) Q:=Eq.trans rfl rfl

@[simp] theorem sd_eqa (n:Nat) (g:Bool) (x y:Od):stepD K e H (.eqa n g x y) Q=WP (stepV noK e H (.eqa n g x y)) Q:=Eq.trans rfl rfl

@[simp] theorem sd_eqb (g:Bool) (x y:Od):stepD K e H (.eqb g x y) Q=WP (stepV noK e H (.eqb g x y)) Q:=Eq.trans rfl rfl

@[simp] theorem sd_eqn (g:Bool) (x:Od):stepD K e H (.eqn g x) Q=WP (stepV noK e H (.eqn g x)) Q:=Eq.trans rfl rfl

@[simp] theorem sd_not (x:Od):stepD K e H (.not x) Q=WP (stepV noK e H (.not x)) Q:=Eq.trans rfl rfl

@[simp] theorem sd_b2i (x:Od):stepD K e H (.b2i x) Q=WP (stepV noK e H (.b2i x)) Q:=Eq.trans rfl rfl

@[simp] theorem sd_s2b (x:Od):stepD K e H (.s2b x) Q=WP (stepV noK e H (.s2b x)) Q:=Eq.trans rfl rfl

@[simp] theorem sd_mks (sz:Nat) (zs:List CV) (x:Od):stepD K e H (.mks sz zs x) Q=WP (stepV noK e H (.mks sz zs x)) Q:=Eq.trans rfl rfl

@[simp] theorem sd_slc (sz:Nat) (x:Od) (lo hi:Option Od):stepD K e H (.slc sz x lo hi) Q=WP (stepV noK e H (.slc sz x lo hi)) Q:=Eq.trans rfl rfl

@[simp] theorem sd_fad (o:Nat) (x:Od):stepD K e H (.fad o x) Q=WP (stepV noK e H (.fad o x)) Q:=Eq.trans rfl rfl

@[simp] theorem sd_idx (sz:Nat) (x i:Od):stepD K e H (.idx sz x i) Q=WP (stepV noK e H (.idx sz x i)) Q:=Eq.trans rfl rfl

@[simp] theorem sd_ext (k:Nat) (x:Od):stepD K e H (.ext k x) Q=WP (stepV noK e H (.ext k x)) Q:=Eq.trans rfl rfl

@[simp] theorem sd_mkf (f:Nat) (cs:List Od):stepD K e H (.mkf f cs) Q=WP (stepV noK e H (.mkf f cs)) Q:=Eq.trans rfl rfl

@[simp] theorem sd_app (sz:Nat) (x y:Od):stepD K e H (.app sz x y) Q=WP (stepV noK e H (.app sz x y)) Q:=Eq.trans rfl rfl

@[simp] theorem sd_len (x:Od):stepD K e H (.len x) Q=WP (stepV noK e H (.len x)) Q:=Eq.trans rfl rfl

@[simp] theorem sd_lens (x:Od):stepD K e H (.lens x) Q=WP (stepV noK e H (.lens x)) Q:=Eq.trans rfl rfl

@[simp] theorem sd_mn (x y:Od):stepD K e H (.mn x y) Q=WP (stepV noK e H (.mn x y)) Q:=Eq.trans rfl rfl

@[simp] theorem sd_mx (x y:Od):stepD K e H (.mx x y) Q=WP (stepV noK e H (.mx x y)) Q:=Eq.trans rfl rfl

@[simp] theorem sd_clr (sz:Nat) (zs:List CV) (x:Od):stepD K e H (.clr sz zs x) Q=WP (stepV noK e H (.clr sz zs x)) Q:=Eq.trans rfl rfl

@[simp] theorem sd_call (f:Nat) (xs:List Od):stepD K e H (.call f xs) Q=K f (xs.map (Od.get e)) H Q:=Eq.trans rfl rfl

@[simp] theorem sd_clv (x:Od) (xs:List Od):stepD K e H (.clv x xs) Q=match x.get e with
  | .f fid caps=>K fid (xs.map (Od.get e)++caps.map .c) H Q
  | _=>False:=Eq.trans rfl rfl

@[simp] theorem ie_call (f:Nat) (xs:List Od):isE (.call f xs)=true:=rfl

@[simp] theorem ie_clv (x:Od) (xs:List Od):isE (.clv x xs)=true:=Eq.trans rfl rfl

@[simp] theorem rv_call (f:Nat) (xs:List Od):rdv e (.call f xs)=.non:=Eq.trans rfl rfl

@[simp] theorem rv_clv (x:Od) (xs:List Od):rdv e (.clv x xs)=.non:=Eq.trans rfl rfl

@[simp] theorem ie_mv (x:Od):isE (.mv x)=false:=Eq.trans rfl rfl

@[simp] theorem rv_mv (x:Od):rdv e (.mv x)=.non:=Eq.trans rfl rfl

@[simp] theorem ie_pick (a b c:Od):isE (.pick a b c)=false:=Eq.trans rfl rfl

@[simp] theorem rv_pick (a b c:Od):rdv e (.pick a b c)=.non:=Eq.trans rfl rfl

@[simp] theorem ie_alloc (zs:List CV):isE (.alloc zs)=true:=Eq.trans rfl rfl

@[simp] theorem rv_alloc (zs:List CV):rdv e (.alloc zs)=.non:=Eq.trans rfl rfl

@[simp] theorem ie_box (x:Od):isE (.box x)=true:=Eq.trans rfl rfl

@[simp] theorem rv_box (x:Od):rdv e (.box x)=.non:=Eq.trans rfl rfl

@[simp] theorem ie_build (zs:List CV) (ps:List (Nat×Nat×Od)):isE (.build zs ps)=false:=Eq.trans rfl rfl

@[simp] theorem rv_build (zs:List CV) (ps:List (Nat×Nat×Od)):rdv e (.build zs ps)=.non:=Eq.trans rfl rfl

@[simp] theorem ie_bsl (sz:Nat) (zs:List CV) (n:Nat) (ps:List (Nat×Nat×Od)):isE (.bsl sz zs n ps)=true:=Eq.trans rfl rfl

@[simp] theorem rv_bsl (sz:Nat) (zs:List CV) (n:Nat) (ps:List (Nat×Nat×Od)):rdv e (.bsl sz zs n ps)=.non:=Eq.trans rfl rfl

@[simp] theorem ie_ld (n:Option Nat) (a:Od):isE (.ld n a)=false:=Eq.trans rfl rfl

@[simp] theorem ie_st (n:Nat) (a x:Od):isE (.st n a x)=true:=rfl

@[simp] theorem rv_st (n:Nat) (a x:Od):rdv e (.st n a x)=.non:=Eq.trans rfl rfl

@[simp] theorem ie_nilc (x:Od):isE (.nilc x)=false:=Eq.trans rfl rfl

@[simp] theorem rv_nilc (x:Od):rdv e (.nilc x)=.non:=Eq.trans rfl rfl

@[simp] theorem ie_bin (o:Bo) (x y:Od):isE (.bin o x y)=false:=Eq.trans rfl rfl

@[simp] theorem rv_bin (o:Bo) (x y:Od):rdv e (.bin o x y)=.non:=Eq.trans rfl rfl

@[simp] theorem ie_shk (l:Bool) (n:Nat) (x:Od):isE (.shk l n x)=false:=Eq.trans rfl rfl

@[simp] theorem rv_shk (l:Bool) (n:Nat) (x:Od):rdv e (.shk l n x)=.non:=Eq.trans rfl rfl

@[simp] theorem ie_bck (a b c d:Od):isE (.bck a b c d)=false:=Eq.trans rfl rfl

@[simp] theorem rv_bck (a b c d:Od):rdv e (.bck a b c d)=.non:=Eq.trans rfl rfl

@[simp] theorem ie_eqa (n:Nat) (g:Bool) (x y:Od):isE (.eqa n g x y)=false:=Eq.trans rfl rfl

@[simp] theorem rv_eqa (n:Nat) (g:Bool) (x y:Od):rdv e (.eqa n g x y)=.non:=Eq.trans rfl rfl

@[simp] theorem ie_eqb (g:Bool) (x y:Od):isE (.eqb g x y)=false:=Eq.trans rfl rfl

@[simp] theorem rv_eqb (g:Bool) (x y:Od):rdv e (.eqb g x y)=.non:=Eq.trans rfl rfl

@[simp] theorem ie_eqn (g:Bool) (x:Od):isE (.eqn g x)=false:=Eq.trans rfl rfl

@[simp] theorem rv_eqn (g:Bool) (x:Od):rdv e (.eqn g x)=.non:=Eq.trans rfl rfl

@[simp] theorem ie_not (x:Od):isE (.not x)=false:=Eq.trans rfl rfl

@[simp] theorem rv_not (x:Od):rdv e (.not x)=.non:=Eq.trans rfl rfl

@[simp] theorem ie_b2i (x:Od):isE (.b2i x)=false:=Eq.trans rfl rfl

@[simp] theorem rv_b2i (x:Od):rdv e (.b2i x)=.non:=Eq.trans rfl rfl

@[simp] theorem ie_s2b (x:Od):isE (.s2b x)=true:=Eq.trans rfl rfl

@[simp] theorem rv_s2b (x:Od):rdv e (.s2b x)=.non:=Eq.trans rfl rfl

@[simp] theorem ie_mks (sz:Nat) (zs:List CV) (x:Od):isE (.mks sz zs x)=true:=Eq.trans rfl rfl

@[simp] theorem rv_mks (sz:Nat) (zs:List CV) (x:Od):rdv e (.mks sz zs x)=.non:=Eq.trans rfl rfl

@[simp] theorem ie_slc (sz:Nat) (x:Od) (lo hi:Option Od):isE (.slc sz x lo hi)=false:=Eq.trans rfl rfl

@[simp] theorem ie_fad (o:Nat) (x:Od):isE (.fad o x)=false:=rfl

@[simp] theorem rv_fad (o:Nat) (x:Od):rdv e (.fad o x)=.non:=Eq.trans rfl rfl

@[simp] theorem ie_idx (sz:Nat) (x i:Od):isE (.idx sz x i)=false:=Eq.trans rfl rfl

@[simp] theorem rv_idx (sz:Nat) (x i:Od):rdv e (.idx sz x i)=.non:=Eq.trans rfl rfl

@[simp] theorem ie_ext (k:Nat) (x:Od):isE (.ext k x)=false:=Eq.trans rfl rfl

@[simp] theorem rv_ext (k:Nat) (x:Od):rdv e (.ext k x)=.non:=Eq.trans rfl rfl

@[simp] theorem ie_mkf (f:Nat) (cs:List Od):isE (.mkf f cs)=false:=Eq.trans rfl rfl

@[simp] theorem rv_mkf (f:Nat) (cs:List Od):rdv e (.mkf f cs)=.non:=Eq.trans rfl rfl

@[simp] theorem ie_app (sz:Nat) (x y:Od):isE (.app sz x y)=true:=Eq.trans rfl rfl

@[simp] theorem rv_app (sz:Nat) (x y:Od):rdv e (.app sz x y)=.non:=Eq.trans rfl rfl

@[simp] theorem ie_len (x:Od):isE (.len x)=false:=Eq.trans rfl rfl

@[simp] theorem rv_len (x:Od):rdv e (.len x)=.non:=Eq.trans rfl rfl

@[simp] theorem ie_lens (x:Od):isE (.lens x)=false:=Eq.trans rfl rfl

@[simp] theorem rv_lens (x:Od):rdv e (.lens x)=.non:=Eq.trans rfl rfl

@[simp] theorem ie_mn (x y:Od):isE (.mn x y)=false:=Eq.trans rfl rfl

@[simp] theorem rv_mn (x y:Od):rdv e (.mn x y)=.non:=Eq.trans rfl rfl

@[simp] theorem ie_mx (x y:Od):isE (.mx x y)=false:=Eq.trans rfl rfl

@[simp] theorem rv_mx (x y:Od):rdv e (.mx x y)=.non:=Eq.trans rfl rfl

@[simp] theorem ie_clr (sz:Nat) (zs:List CV) (x:Od):isE (.clr sz zs x)=true:=Eq.trans rfl rfl

@[simp] theorem rv_clr (sz:Nat) (zs:List CV) (x:Od):rdv e (.clr sz zs x)=.non:=Eq.trans rfl rfl

end

section

variable {vars:List Nat} {e:Env} {H:Hp} {st:St}

@[simp] theorem setD_none (v:IV):setD e none v=e:=Eq.trans rfl rfl

@[simp] theorem setD_some (d:Nat) (v:IV):setD e (some d) v=(d,v) :: e:=Eq.trans rfl rfl

@[simp] theorem get_nil (n:Nat):Env.get [] n=.c .non:=Eq.trans rfl rfl

@[simp] theorem get_cons (k n:Nat) (v:IV):Env.get ((k,v) :: e) n=if k=n then v else Env.get e n:=Eq.trans rfl rfl

@[simp] theorem od_t (n:Nat):(Od.t n).get e=Env.get e n:=Eq.trans rfl rfl

@[simp] theorem od_k (v:IV):(Od.k v).get e=v:=Eq.trans rfl rfl

@[simp] theorem prune_h (vars:List Nat):prune vars st=⟨vars.map fun k=>(k,Env.get st.e k),st.h⟩:=Eq.trans rfl rfl

@[simp] theorem enter_eq (vars:List Nat) (args:List IV):enter vars args=vars.map fun k=>(k,args.getD k (.c .non)):=Eq.trans rfl rfl

@[simp] theorem fresh_eq (cs:List CV) (rw:Bool) (sz:Nat):fresh H cs rw sz=H++[⟨cs,0,rw,sz⟩]:=Eq.trans rfl rfl

@[simp] theorem natI (m n:Nat):((m:Int)=n)=(m=n):=by simp only[eq_iff_iff];omega

def lenOf:CV→Option Nat
 | .sl _ _ _ n=>some n
 | .ns=>some 0
 | _=>none

def idxOf (sz:Nat):CV→Int→Option CV
 | .sl id g off len,k=>if 0≤k∧k<len then some (.p id g (off+k.toNat * sz)) else none
 | _,_=>none

@[simp] theorem lenOf_sl (id g off n:Nat):lenOf (.sl id g off n)=some n:=Eq.trans rfl rfl

@[simp] theorem lenOf_ns:lenOf .ns=some 0:=Eq.trans rfl rfl

@[simp] theorem idxOf_sl (sz id g off n:Nat) (k:Int):idxOf sz (.sl id g off n) k=if 0≤k∧k<n then some (.p id g (off+k.toNat * sz)) else none:=Eq.trans rfl rfl

@[simp] theorem st_len (x:Od):stepV noK e H (.len x)=match x.get e with
  | .c v=>(lenOf v).bind fun n=>some (.c (.i n),H)
  | _=>none:=by
 simp only[stepV]
 cases x.get e with
 | c v=>cases v<;>rfl
 | _=>rfl

@[simp] theorem st_idx (sz:Nat) (x i:Od):stepV noK e H (.idx sz x i)=match x.get e,i.get e with
  | .c v,.c (.i k)=>(idxOf sz v k).bind fun q=>some (.c q,H)
  | _,_=>none:=by
 simp only[stepV]
 cases x.get e with
 | c v =>
  cases i.get e with
  | c k =>
   cases v<;>cases k<;>try rfl
   simp only[idxOf]
   split<;>rfl
  | _=>cases v<;>rfl
 | _=>rfl

@[simp] theorem st_mv (x:Od):stepV noK e H (.mv x)=some (x.get e,H):=Eq.trans rfl rfl

@[simp] theorem st_pick (c a b:Od):stepV noK e H (.pick c a b)=match c.get e with
  | .c (.b true)=>some (a.get e,H)
  | .c (.b false)=>some (b.get e,H)
  | _=>none:=Eq.trans rfl rfl

@[simp] theorem st_alloc (zs:List CV):stepV noK e H (.alloc zs)=some (.c (.p H.length 0 0),fresh H zs true zs.length):=Eq.trans rfl rfl

@[simp] theorem st_box (x:Od):stepV noK e H (.box x)=(cellsOf (x.get e)).bind fun cs=>some (.c (.p H.length 0 0),fresh H cs true cs.length):=Eq.trans rfl rfl

@[simp] theorem st_build (zs:List CV) (ps:List (Nat×Nat×Od)):stepV noK e H (.build zs ps)=(partsOf e ps).bind fun ps=>(lay zs ps).bind fun cs=>some (.agg cs,H):=Eq.trans rfl rfl

@[simp] theorem st_bsl (sz:Nat) (zs:List CV) (n:Nat) (ps:List (Nat×Nat×Od)):stepV noK e H (.bsl sz zs n ps)=(partsOf e ps).bind fun ps=>(lay (List.replicate n zs).flatten ps).bind fun cs =>
   some (.c (.sl H.length 0 0 n),fresh H cs true sz):=Eq.trans rfl rfl

@[simp] theorem st_ld1 (a:Od):stepV noK e H (.ld none a)=match a.get e with
  | .c (.p id g off)=>(rdC H id g off).bind fun v=>some (.c v,H)
  | _=>none:=by
 simp only[stepV,rdC]
 generalize a.get e=u
 cases u with
 | c v =>
  cases v with
  | p id g off=>simp only;cases rdOb H id g<;>rfl
  | _=>rfl
 | _=>rfl

@[simp] theorem st_ldn (n:Nat) (a:Od):stepV noK e H (.ld (some n) a)=match a.get e with
  | .c (.p id g off)=>(rdN H id g off n).bind fun cs=>some (.agg cs,H)
  | _=>none:=by
 simp only[stepV,rdN]
 generalize a.get e=u
 cases u with
 | c v =>
  cases v with
  | p id g off =>
   simp only
   cases rdOb H id g with
   | none=>rfl
   | some o=>simp only[Option.bind_some];by_cases h:off+n≤o.cells.length<;>simp[h]
  | _=>rfl
 | _=>rfl

@[simp] theorem st_st (n:Nat) (a x:Od):stepV noK e H (.st n a x)=match a.get e with
  | .c (.p id g off)=>(rdOb H id g).bind fun o=>(cellsOf (x.get e)).bind fun cs =>
    if o.rw=true∧cs.length=n∧off+n≤o.cells.length then some (.c .non,H.set id { o with cells:=putAt o.cells off cs }) else none
  | _=>none:=Eq.trans rfl rfl

@[simp] theorem st_nilc (x:Od):stepV noK e H (.nilc x)=match x.get e with
  | .c (.p id g off)=>some (.c (.p id g off),H)
  | _=>none:=Eq.trans rfl rfl

@[simp] theorem st_bin (o:Bo) (x y:Od):stepV noK e H (.bin o x y)=match x.get e,y.get e with
  | .c a,.c b=>(evalBin o a b).bind fun v=>some (.c v,H)
  | _,_=>none:=Eq.trans rfl rfl

@[simp] theorem st_shk (l:Bool) (n:Nat) (x:Od):stepV noK e H (.shk l n x)=match x.get e with
  | .c (.i a)=>if n≤64 then some (.c (.i (if l=true then wrap64 (a * 2 ^ n) else a / 2 ^ n)),H) else none
  | _=>none:=Eq.trans rfl rfl

@[simp] theorem st_bck (x lo hi mx:Od):stepV noK e H (.bck x lo hi mx)=match x.get e,lo.get e,hi.get e,mx.get e with
  | .c (.sl _ _ _ len),.c (.i l),.c (.i h),.c (.i m)=>if 0≤l∧l≤h∧h≤m∧m≤len then some (.c .non,H) else none
  | _,_,_,_=>none:=Eq.trans rfl rfl

@[simp] theorem st_eqa (n:Nat) (neg:Bool) (x y:Od):stepV noK e H (.eqa n neg x y)=match x.get e,y.get e with
  | .agg xs,.agg ys=>if xs.length=n∧ys.length=n∧allInt xs=true∧allInt ys=true then some (.c (.b (decide (xs=ys) != neg)),H) else none
  | _,_=>none:=Eq.trans rfl rfl

@[simp] theorem st_eqb (neg:Bool) (x y:Od):stepV noK e H (.eqb neg x y)=match x.get e,y.get e with
  | .c (.b a),.c (.b b)=>some (.c (.b ((a == b) != neg)),H)
  | _,_=>none:=Eq.trans rfl rfl

@[simp] theorem st_eqn (neg:Bool) (x:Od):stepV noK e H (.eqn neg x)=match x.get e with
  | .c .ns=>some (.c (.b (!neg)),H)
  | .c (.sl ..)=>some (.c (.b neg),H)
  | _=>none:=Eq.trans rfl rfl

@[simp] theorem st_not (x:Od):stepV noK e H (.not x)=match x.get e with
  | .c (.b v)=>some (.c (.b (!v)),H)
  | _=>none:=Eq.trans rfl rfl

@[simp] theorem st_b2i (x:Od):stepV noK e H (.b2i x)=match x.get e with
  | .c (.y n)=>some (.c (.i (wrap64 n)),H)
  | _=>none:=Eq.trans rfl rfl

@[simp] theorem st_s2b (x:Od):stepV noK e H (.s2b x)=match x.get e with
  | .c (.s v)=>if v.size≤LIM then some (.c (.sl H.length 0 0 v.size),fresh H (v.data.toList.map fun b=>.y b.toNat) false 1) else none
  | _=>none:=Eq.trans rfl rfl

@[simp] theorem st_mks (sz:Nat) (zs:List CV) (x:Od):stepV noK e H (.mks sz zs x)=match x.get e with
  | .c (.i n)=>if 0≤n∧n.toNat * sz≤LIM then some (.c (.sl H.length 0 0 n.toNat),fresh H (List.replicate n.toNat zs).flatten true sz) else none
  | _=>none:=Eq.trans rfl rfl

@[simp] theorem st_slc (sz:Nat) (x:Od) (lo hi:Option Od):stepV noK e H (.slc sz x lo hi)=match x.get e with
  | .c v=>(doSlice H sz v (lo.map (Od.get e)) (hi.map (Od.get e))).bind fun r=>some (r,H)
  | _=>none:=Eq.trans rfl rfl

@[simp] theorem st_fad (off:Nat) (x:Od):stepV noK e H (.fad off x)=match x.get e with
  | .c (.p id g o)=>some (.c (.p id g (o+off)),H)
  | _=>none:=Eq.trans rfl rfl

@[simp] theorem st_ext (k:Nat) (x:Od):stepV noK e H (.ext k x)=match x.get e with
  | .tup xs=>(xs[k]?).bind fun t=>(ivOf t).bind fun v=>some (v,H)
  | _=>none:=Eq.trans rfl rfl

@[simp] theorem st_mkf (f:Nat) (xs:List Od):stepV noK e H (.mkf f xs)=(capsOf e xs).bind fun vs=>some (.f f vs,H):=Eq.trans rfl rfl

@[simp] theorem st_app (sz:Nat) (x y:Od):stepV noK e H (.app sz x y)=match x.get e,y.get e with
  | .c a,.c b=>(srcOf H sz b).bind fun ms=>doApp H sz a ms.1 ms.2
  | _,_=>none:=Eq.trans rfl rfl

@[simp] theorem st_lens (x:Od):stepV noK e H (.lens x)=match x.get e with
  | .c (.s v)=>some (.c (.i v.size),H)
  | _=>none:=Eq.trans rfl rfl

@[simp] theorem st_mn (x y:Od):stepV noK e H (.mn x y)=match x.get e,y.get e with
  | .c (.i a),.c (.i b)=>some (.c (.i (if b<a then b else a)),H)
  | _,_=>none:=Eq.trans rfl rfl

@[simp] theorem st_mx (x y:Od):stepV noK e H (.mx x y)=match x.get e,y.get e with
  | .c (.i a),.c (.i b)=>some (.c (.i (if a<b then b else a)),H)
  | _,_=>none:=Eq.trans rfl rfl

@[simp] theorem st_clr (sz:Nat) (zs:List CV) (x:Od):stepV noK e H (.clr sz zs x)=match x.get e with
  | .c .ns=>some (.tup [],H)
  | .c (.sl id g off len)=>(rdOb H id g).bind fun o =>
    if o.rw=true∧off+len * sz≤o.cells.length then some (.tup [],H.set id { o with cells:=putAt o.cells off (List.replicate len zs).flatten }) else none
  | _=>none:=Eq.trans rfl rfl

section

variable (a b:Int) (x y:Bool) (s t:ByteArray)

@[simp] theorem ev_add:evalBin .add (.i a) (.i b)=some (.i (wrap64 (a+b))):=Eq.trans rfl rfl

@[simp] theorem ev_sub:evalBin .sub (.i a) (.i b)=some (.i (wrap64 (a - b))):=Eq.trans rfl rfl

@[simp] theorem ev_mul:evalBin .mul (.i a) (.i b)=some (.i (wrap64 (a * b))):=Eq.trans rfl rfl

@[simp] theorem ev_quo:evalBin .quo (.i a) (.i b)=if b=0 then none else some (.i (wrap64 (a.tdiv b))):=Eq.trans rfl rfl

@[simp] theorem ev_rem:evalBin .rem (.i a) (.i b)=if b=0 then none else some (.i (a.tmod b)):=Eq.trans rfl rfl

@[simp] theorem ev_and:evalBin .and (.i a) (.i b)=some (.i (bits .and .i64 a b)):=Eq.trans rfl rfl

@[simp] theorem ev_or:evalBin .or (.i a) (.i b)=some (.i (bits .or .i64 a b)):=Eq.trans rfl rfl

@[simp] theorem ev_xor:evalBin .xor (.i a) (.i b)=some (.i (bits .xor .i64 a b)):=Eq.trans rfl rfl

@[simp] theorem ev_shl:evalBin .shl (.i a) (.i b)=if 0≤b∧b≤64 then some (.i (wrap64 (a * 2 ^ b.toNat))) else none:=Eq.trans rfl rfl

@[simp] theorem ev_shr:evalBin .shr (.i a) (.i b)=if 0≤b∧b≤64 then some (.i (a / 2 ^ b.toNat)) else none:=Eq.trans rfl rfl

@[simp] theorem ev_eq:evalBin .eq (.i a) (.i b)=some (.b (decide (a=b))):=Eq.trans rfl rfl

@[simp] theorem ev_ne:evalBin .ne (.i a) (.i b)=some (.b (decide (a≠b))):=by simp only[evalBin];congr 2;by_cases h:a=b<;>simp[h]

@[simp] theorem ev_lt:evalBin .lt (.i a) (.i b)=some (.b (decide (a<b))):=Eq.trans rfl rfl

@[simp] theorem ev_le:evalBin .le (.i a) (.i b)=some (.b (decide (a≤b))):=Eq.trans rfl rfl

@[simp] theorem ev_gt:evalBin .gt (.i a) (.i b)=some (.b (decide (b<a))):=Eq.trans rfl rfl

@[simp] theorem ev_ge:evalBin .ge (.i a) (.i b)=some (.b (decide (b≤a))):=Eq.trans rfl rfl

@[simp] theorem ev_yeq:evalBin .eq (.y a) (.y b)=some (.b (decide (a=b))):=Eq.trans rfl rfl

@[simp] theorem ev_yne:evalBin .ne (.y a) (.y b)=some (.b (decide (a≠b))):=by simp only[evalBin];congr 2;by_cases h:a=b<;>simp[h]

@[simp] theorem ev_seq:evalBin .eq (.s s) (.s t)=some (.b (s == t)):=Eq.trans rfl rfl

@[simp] theorem ev_sne:evalBin .ne (.s s) (.s t)=some (.b (!(s == t))):=Eq.trans rfl rfl

end

attribute [simp] cellsOf tcOf ivOf partsOf capsOf lay resultOf ressOf flatV flatC allInt

@[simp] theorem resOf_none (st:St) (s:Nat):resOf st (s,none)=some (Env.get st.e s):=Eq.trans rfl rfl

@[simp] theorem resOf_one (st:St) (s:Nat):resOf st (s,some none)=match Env.get st.e s with
  | .c (.p id g off)=>(rdC st.h id g off).bind fun v=>some (.c v)
  | _=>none:=by
 show (stepV noK st.e st.h (.ld none (.t s))).bind (fun r=>some r.1)=_
 rw[st_ld1]
 simp only[od_t]
 generalize Env.get st.e s=u
 cases u with
 | c v =>
  cases v with
  | p id g off=>simp only;cases rdC st.h id g off<;>rfl
  | _=>rfl
 | _=>rfl

@[simp] theorem resOf_many (st:St) (s n:Nat):resOf st (s,some (some n))=match Env.get st.e s with
  | .c (.p id g off)=>(rdN st.h id g off n).bind fun v=>some (.agg v)
  | _=>none:=by
 show (stepV noK st.e st.h (.ld (some n) (.t s))).bind (fun r=>some r.1)=_
 rw[st_ldn]
 simp only[od_t]
 generalize Env.get st.e s=u
 cases u with
 | c v =>
  cases v with
  | p id g off=>simp only;cases rdN st.h id g off n<;>rfl
  | _=>rfl
 | _=>rfl

@[simp] theorem finD_norm (H:Hp) (res:List (Nat×Option (Option Nat))) (Q:IV×Hp→Prop) (s:St):finD H res Q (.norm,s)=WP (resultOf s res) fun v=>Q (gcRet H v s.h):=Eq.trans rfl rfl

@[simp] theorem finD_ret (H:Hp) (res:List (Nat×Option (Option Nat))) (Q:IV×Hp→Prop) (s:St):finD H res Q (.ret,s)=WP (resultOf s res) fun v=>Q (gcRet H v s.h):=Eq.trans rfl rfl

end

def NQ (Q:X×St→Prop) (r:X×St):Prop:=match r.1 with
 | .norm=>False
 | x=>Q (x,r.2)

@[simp] theorem NQ_norm (Q:X×St→Prop) (s:St):NQ Q (.norm,s)=False:=Eq.trans rfl rfl

@[simp] theorem NQ_exit (Q:X×St→Prop) (n:Nat) (s:St):NQ Q (.exit n,s)=Q (.exit n,s):=Eq.trans rfl rfl

@[simp] theorem NQ_ret (Q:X×St→Prop) (s:St):NQ Q (.ret,s)=Q (.ret,s):=Eq.trans rfl rfl

theorem exW_le {K:OrD} (hm:MonoK K) {vars:List Nat}:∀ {c:VC} {st:St} {Q Q':X×St→Prop},(∀ r,Q r→Q' r)→exW K vars c st Q→exW K vars c st Q':=by
 intro c
 induction c with
 | skip=>intro st Q Q' hq hs;exact hq _ hs
 | exit k=>intro st Q Q' hq hs;exact hq _ hs
 | ret=>intro st Q Q' hq hs;exact hq _ hs
 | rg ops=>intro st Q Q' hq hs;exact runOpsD_le hm.le (fun s=>hq _) hs
 | rd ops=>intro st Q Q' hq hs;exact runC_mono hm (fun s=>hq _) hs
 | rx ops t=>intro st Q Q' hq hs;exact treeW_mono hm (fun s=>hq _) hs
 | seq a b iha ihb=>intro st Q Q' hq hs;exact iha (fun r=>thenD_mono (fun s=>ihb hq) hq) hs
 | cond x a b iha ihb =>
  intro st Q Q' hq hs
  simp only[exW,cndP]at hs ⊢
  split at hs
  ·exact iha hq hs
  ·exact ihb hq hs
  ·exact hs
 | block k c ih=>intro st Q Q' hq hs;exact ih (fun r=>blockD_mono hq) hs
 | loop c ih=>intro st Q Q' hq hs;exact loopD_mono (f:=exW K vars c) (f':=exW K vars c) (fun s Q Q' hq=>ih hq) hq hs

theorem wp_loop {K:OrD} (hm:MonoK K) {vars:List Nat} {c:VC} {Q:X×St→Prop} (Inv:Nat→St→Prop) {k:Nat} {s:St} (h0:Inv k s)
  (h:∀ k s,Inv k s→exW K vars c s (thenD (fun t=>∃ k',k'<k∧Inv k' t) Q)):loopD (exW K vars c) s Q:=by
 intro I hI
 have key:∀ k s,Inv k s→I s:=by
  intro k
  induction k using Nat.strongRecOn with
  | _ k ih =>
   intro s hs
   exact hI s (exW_le hm (fun r=>thenD_mono (fun t ⟨k',h1,h2⟩=>ih k' h1 t h2) (fun _=>id)) (h k s hs))
 exact key k s h0

theorem wp_for {K:OrD} (hm:MonoK K) {vars:List Nat} {c:VC} {Q:X×St→Prop} (n:Nat) (I:Nat→St→Prop) {s:St} (h0:I 0 s)
  (step:∀ i s,i<n→I i s→exW K vars c s (thenD (I (i+1)) Q)) (done:∀ s,I n s→exW K vars c s (NQ Q)):loopD (exW K vars c) s Q:=by
 refine wp_loop hm (fun k s=>∃ i,i+k=n∧I i s) (k:=n) ⟨0,by omega,h0⟩ ?_
 rintro k s ⟨i,hi,hs⟩
 by_cases hin:i<n
 ·exact exW_le hm (fun r=>thenD_mono (fun t ht=>⟨k - 1,by omega,i+1,by omega,ht⟩) (fun _=>id)) (step i s hin hs)
 ·obtain rfl:i=n:=by omega
  refine exW_le hm (fun r hr=>?_) (done s hs)
  obtain⟨x,t⟩:=r
  cases x with
  | norm=>exact hr.elim
  | exit m=>exact hr
  | ret=>exact hr


theorem Sl.lenOf {H:Hp} {sz n:Nat} {v:CV} {cs:List CV} (h:Sl H sz v n cs):lenOf v=some n:=by
 rcases h with⟨rfl,rfl,_⟩ | ⟨id,g,off,o,rfl,_⟩<;>rfl

theorem Sl.get {H:Hp} {sz n:Nat} {v:CV} {cs:List CV} (h:Sl H sz v n cs) {k:Nat} (hk:k<n) :
  ∃ id g off o,idxOf sz v (k:Int)=some (.p id g off)∧rdOb H id g=some o∧off+sz≤o.cells.length∧∀ j,j<sz→o.cells[off+j]? = cs[k * sz+j]?:=by
 obtain⟨id,g,off,o,rfl,h1,h2⟩:=h.at_ (by omega)
 refine⟨id,g,off+k * sz,o,by simp[hk],h1,?_,fun j hj=>?_⟩
 ·by_cases h0:0<sz
  ·exact (h2 k 0 hk h0).1
  ·have hz:sz=0:=by omega
   subst hz
   rcases h with⟨h,_⟩ | ⟨id',g',off',o',h3,h4,h5,h6,h7⟩
   ·cases h
   ·cases h3;rw[h1]at h4;injection h4 with h4;subst h4;simpa using h6
 ·exact (h2 k j hk hj).2

theorem IsI.lenOf {H:Hp} {v:CV} {xs:List Int} (h:IsI H v xs):lenOf v=some xs.length:=Sl.lenOf h

theorem IsI.get {H:Hp} {v:CV} {xs:List Int} (h:IsI H v xs) {k:Nat} (hk:k<xs.length) :
  ∃ id g off o,idxOf 1 v (k:Int)=some (.p id g off)∧rdOb H id g=some o∧o.cells[off]? = some (.i xs[k]):=by
 obtain⟨id,g,off,o,h1,h2,_,h3⟩:=Sl.get h hk
 refine⟨id,g,off,o,h1,h2,?_⟩
 have:=h3 0 (by omega)
 simpa [hk] using this

theorem wrap64_id {n:Int} (h:-9223372036854775808≤n∧n≤9223372036854775807):wrap64 n=n:=by unfold wrap64;omega
section
open Go.Sort

open Go.RowKit (wrap64 Below)



abbrev sortI (xs:List Int):List Int:=xs.mergeSort fun x y=>decide (x≤y)

theorem sortI_len (xs:List Int):(sortI xs).length=xs.length:=by simp

def sortX (fs:Nat):OrD:=fun f args H Q=>f=fs ∧
 ((args=[.c .ns]∧Q (.tup [],H)) ∨
  ∃ id g off o xs,args=[.c (.sl id g off xs.length)]∧rdOb H id g=some o∧o.rw=true∧o.sz=1∧off+xs.length≤o.cells.length∧(o.cells.drop off).take xs.length=xs.map .i∧xs.length≤LIM ∧
   Q (.tup [],H.set id { o with cells:=putAt o.cells off ((sortI xs).map .i) }))

theorem sortX_mono (fs:Nat):MonoK (sortX fs):=by
 rintro f az H Q Q' hq ⟨hf,h⟩
 refine⟨hf,?_⟩
 rcases h with⟨h1,h2⟩ | ⟨id,g,off,o,xs,h1,h2,h3,h4,h5,h6,h7,h8⟩
 ·exact .inl ⟨h1,hq _ h2⟩
 ·exact .inr ⟨id,g,off,o,xs,h1,h2,h3,h4,h5,h6,h7,hq _ h8⟩

theorem sortX_nm (fs:Nat):NM (sortX fs):=by
 rintro f az H Q ⟨hf,h⟩
 rcases h with⟨h1,h2⟩ | ⟨id,g,off,o,xs,h1,h2,h3,h4,h5,h6,h7,h8⟩
 ·exact⟨_,h2⟩
 ·exact⟨_,h8⟩

theorem sortX_cj (fs:Nat):CJ (sortX fs):=by
 rintro f az H Q Q' ⟨hf,h⟩ ⟨_,k⟩
 refine⟨hf,?_⟩
 rcases h with⟨rfl,h2⟩ | ⟨id,g,off,o,xs,rfl,h2,h3,h4,h5,h6,h7,h8⟩
 ·rcases k with⟨_,k2⟩ | ⟨id',g',off',o',xs',k1,_⟩
  ·exact .inl ⟨rfl,h2,k2⟩
  ·simp at k1
 ·rcases k with⟨k1,_⟩ | ⟨id',g',off',o',xs',k1,k2,k3,k4,k5,k6,k7,k8⟩
  ·simp at k1
  ·simp only[List.cons.injEq,IV.c.injEq,CV.sl.injEq,and_true]at k1
   obtain⟨rfl,rfl,rfl,e⟩:=k1
   rw[h2]at k2;injection k2 with k2;subst k2
   rw[e,k6]at h6
   have ex:xs'=xs:=map_i_inj.1 h6
   subst ex
   exact .inr ⟨id,g,off,o,xs',rfl,h2,h3,h4,h5,k6,h7,h8,k8⟩

theorem Sim.congr {w0:World} {ρ:Rho} {H:Hp} {w w':World} (h:Sim w0 ρ H w) (h1:w'.os=w.os) (h2:w'.tape=w.tape) (h3:w'.output=w.output) (h4:w.heap.size≤w'.heap.size)
  (h5:∀ k,k<w.heap.size→w'.heap[k]? = w.heap[k]?):Sim w0 ρ H w':=by
 have hle:=h.bel.size
 refine⟨h.bel.trans ⟨h1,h2,h3,h4,fun k hk=>h5 k (by omega)⟩,?_,?_,h.inj,fun id o ho=>Nat.lt_of_lt_of_le (h.lt id o ho) h4,h.wf⟩
 ·intro id o j c ho hc
  obtain⟨v,a,b⟩:=h.cell id o j c ho hc
  refine⟨v,?_,b⟩
  rw[← a]
  have hb:((ρ id).1.add j).block<w.heap.size:=by rw[Addr.add_block];exact h.lt id o ho
  unfold World.cell?
  rw[h5 _ hb]
 ·intro id o ho hrw
  obtain⟨g,arr,ty,a,b,c,d⟩:=h.own id o ho hrw
  refine⟨g,arr,ty,a,b,?_,d⟩
  rw[h5 g (Array.getElem?_eq_some_iff.1 c).1]
  exact c

theorem map_int_get {zs:List Int} {j:Nat} (hj:j<zs.length):(zs.toArray)[j]! = zs[j]:=by
 rw[getElem!_pos _ j (by simpa using hj)]
 simp

theorem sort_sim {P : Program} {w0 : World} {fs : Nat} (hf : ∃ fn, P.funcs[fs]? = some fn ∧ fn.body.isNone = false ∧ (fn.name == "runtime.NumGoroutine") = false)
  (hs:∀ (blk off cap:Nat) (zs:List Int) (w:World),Holds (Value.int .i64) w blk off zs.toArray→blk<w.heap.size→zs.length<4611686018427387904 →
   Calls P fs #[.slice (some ⟨blk,off,none⟩) zs.length cap] w fun e w'=>e=.returned (.tuple #[])∧∃ n os,w'=grow (putRow (Value.int .i64) (Sort.ahead w n) blk off (sortI zs).toArray) os)
  (hn:∀ (p:Option Addr) (cap:Nat) (w:World),Calls P fs #[.slice p 0 cap] w fun e w'=>e=.returned (.tuple #[])∧w'=w):OrdSim P w0 (sortX fs):=by
 rintro f args H Q ⟨rfl,h⟩
 refine⟨hf,fun ρ w vs hS hR hw=>?_⟩
 have htup:IR ρ H (.tup []) (.tuple #[]):=⟨[],rfl,RL.nil _⟩
 rcases h with⟨rfl,hq⟩ | ⟨id,g,off,o,xs,rfl,ho,hrw,hsz,hl,hc,hlim,hq⟩
 ·obtain⟨b,bs,rfl,hb,hbs⟩:=hR.cons_inv
  obtain rfl:=hbs.nil_inv
  have hb:b=.slice none 0 0:=hb
  subst hb
  refine (hn none 0 w).mono ?_
  rintro e w' ⟨rfl,rfl⟩
  exact⟨_,hq,ρ,_,rfl,htup,by simp[wfI],hS,Ext.refl _ _⟩
 ·obtain⟨b,bs,rfl,hb,hbs⟩:=hR.cons_inv
  obtain rfl:=hbs.nil_inv
  obtain⟨a,cap,rfl,hlc,hcm,ha⟩:=hb
  obtain⟨ho1,ho2⟩:=rdOb_some.1 ho
  obtain⟨ha1,ha2,ha3⟩:=ha o ho1 ho2
  obtain⟨gb,arr,ty,q1,q2,q3,q4,q5⟩:=hS.own id o ho1 hrw
  by_cases h0:xs=[]
  ·subst h0
   refine (hn (some a) cap w).mono ?_
   rintro e w' ⟨rfl,rfl⟩
   have e0:H.set id { o with cells:=putAt o.cells off ((sortI []).map .i) }=H:=by
    have:putAt o.cells off ((sortI []).map .i)=o.cells:=by simp[putAt]
    rw[this]
    exact set_same H id o ho1
   rw[e0]at hq
   exact⟨_,hq,ρ,_,rfl,htup,by simp[wfI],hS,Ext.refl _ _⟩
  ·have hpos:0<xs.length:=List.length_pos_iff.2 h0
   have ha':a=⟨gb,off,none⟩:=by
    rcases ha1 with h | h
    ·omega
    ·rw[h,q1,add_own]
   subst ha'
   have hcell:∀ j (hj:j<xs.length),w.cell? ⟨gb,off+j,none⟩=some (.int .i64 xs[j]):=by
    intro j hj
    have hcj:o.cells[off+j]? = some (.i xs[j]):=by
     have:=congrArg (fun l=>l[j]?) hc
     simp only[List.getElem?_take,if_pos hj,List.getElem?_drop,List.getElem?_map,List.getElem?_eq_getElem hj,Option.map_some]at this
     exact this
    obtain⟨v,hv1,hv2⟩:=hS.cell id o (off+j) _ ho1 hcj
    rw[q1,add_own]at hv1
    rw[hv1,hv2.1]
   have hH:Holds (Value.int .i64) w gb off xs.toArray:=by
    intro j hj
    have hj:j<xs.length:=by simpa using hj
    refine⟨by rw[map_int_get hj];exact hcell j hj,?_⟩
    unfold World.frozen?
    rw[q3]
    simp
   refine (hs gb off cap xs w hH (Array.getElem?_eq_some_iff.1 q3).1 (by simp only[LIM]at hlim;omega)).mono ?_
   rintro e w' ⟨rfl,nn,os,rfl⟩
   have hxl:(sortI xs).length=xs.length:=sortI_len xs
   have hx:RL (CR ρ H) ((sortI xs).map .i) ((sortI xs).map (Value.int .i64)):=by
    refine⟨by simp,fun j c v h1 h2=>?_⟩
    rw[List.getElem?_map]at h1 h2
    cases hz:(sortI xs)[j]? with
    | none=>rw[hz]at h1;cases h1
    | some z =>
     rw[hz]at h1 h2
     injection h1 with h1;injection h2 with h2
     subst h1;subst h2
     exact⟨rfl,rfl⟩
   have hst:=hS.store ho1 hrw (off:=off) (xs:=(sortI xs).map .i) (vs:=(sortI xs).map (Value.int .i64)) (by simp;omega) hx (by
    intro c hc
    rw[List.mem_map]at hc
    obtain⟨z,_,rfl⟩:=hc
    trivial) q1 q3
   refine⟨_,hq,ρ,_,rfl,⟨[],rfl,RL.nil _⟩,by simp[wfI],?_,?_⟩
   ·refine hst.congr rfl rfl rfl (by simp) ?_
    intro k hk
    have hk:k<w.heap.size:=by simpa using hk
    have hglt:gb<w.heap.size:=(Array.getElem?_eq_some_iff.1 q3).1
    have e1:(grow (putRow (Value.int .i64) (Sort.ahead w nn) gb off (sortI xs).toArray) os).heap[k]? = (putRow (Value.int .i64) (Sort.ahead w nn) gb off (sortI xs).toArray).heap[k]?:=by
     unfold grow
     exact Array.getElem?_append_left (by simpa using hk)
    rw[e1]
    by_cases e:k=gb
    ·subst e
     have hm:(putRow (Value.int .i64) (Sort.ahead w nn) k off (sortI xs).toArray).heap[k]? = some (.cells (putCells (Value.int .i64) off (sortI xs).toArray arr) ty (0,0)):=by
      unfold putRow mapBlock
      simp only[Array.getElem?_modify,if_true,heap_ahead,q3,Option.map_some,onCells]
     rw[hm,setRow_heap _ _ _ _ _ _ q3]
     congr 2
     apply Array.ext_getElem?
     intro j
     have hxa:off+xs.length≤arr.size:=by omega
     unfold putCells
     rw[Array.getElem?_mapIdx]
     simp only[List.getElem?_toArray,List.size_toArray,hxl,List.length_map]
     by_cases h1:off≤j∧j<off+xs.length
     ·have hja:j<arr.size:=by omega
      rw[List.append_assoc,List.getElem?_append_right (by simp;omega),List.getElem?_append_left (by simp;omega)]
      simp only[List.length_take,Array.length_toList]
      rw[Nat.min_eq_left (by omega),List.getElem?_map,Array.getElem?_eq_getElem hja,Option.map_some,if_pos h1,map_int_get (by omega),List.getElem?_eq_getElem (by omega)]
      rfl
     ·by_cases h2:j<off
      ·rw[List.append_assoc,List.getElem?_append_left (by simp;omega),List.getElem?_take,if_pos h2,Array.getElem?_toList]
       cases hj:arr[j]? with
       | none=>rfl
       | some z=>simp only[Option.map_some,if_neg h1]
      ·rw[List.getElem?_append_right (by simp;omega)]
       simp only[List.length_append,List.length_take,List.length_map,Array.length_toList,hxl,List.getElem?_drop]
       rw[Nat.min_eq_left (by omega),show off+xs.length+(j - (off+xs.length))=j by omega,Array.getElem?_toList]
       cases hj:arr[j]? with
       | none=>rfl
       | some z=>simp only[Option.map_some,if_neg h1]
    ·unfold putRow mapBlock
     rw[setRow_other _ _ _ _ e]
     simp only[Array.getElem?_modify,heap_ahead,if_neg (Ne.symm e)]
   ·exact Ext.set_same ho1 rfl (putAt_length (by simp;omega)) rfl rfl
end
abbrev XK:OrD:=sortX 72

theorem XK_mono:MonoK XK:=sortX_mono 72

theorem XK_nm:NM XK:=sortX_nm 72

theorem XK_cj:CJ XK:=sortX_cj 72

abbrev CM:OrD:=callD M XK

theorem CM_mono:MonoK CM:=callD_mono XK_mono

theorem cw {f:Nat} (vf:VF) {ar:List IV} {H:Hp} {Q:IV×Hp→Prop} (hM:M f=some vf) (hd:drawsB vf.body=true)
  (h:exW CM vf.vars vf.body ⟨enter vf.vars ar,H⟩ (finD H vf.res Q)):CM f ar H Q:=call_wp XK_mono XK_nm XK_cj vf hM hd h

section

variable {ar:List IV} {H:Hp} {Q:IV×Hp→Prop}

theorem cw7 (h:exW CM [0,2,3,4,5,6,7,8,9,10,11,12,13,15,36,38,49,60,76,99] vf7c ⟨enter [0,2,3,4,5,6,7,8,9,10,11,12,13,15,36,38,49,60,76,99] ar,H⟩ (finD H [(2,none)] Q)):CM 7 ar H Q:=cw vf7 rfl dr7 h

theorem cw8 (h:exW CM [0,2] vf8c ⟨enter [0,2] ar,H⟩ (finD H [(2,none)] Q)):CM 8 ar H Q:=cw vf8 rfl dr8 h

theorem cw14 (h:exW CM [0,1,2,3,4,5,19,24,38] vf14c ⟨enter [0,1,2,3,4,5,19,24,38] ar,H⟩ (finD H [(4,none)] Q)):CM 14 ar H Q:=cw vf14 rfl dr14 h

theorem cw18 (h:exW CM [0,1,2,4,11,17,20,34,37,41] vf18c ⟨enter [0,1,2,4,11,17,20,34,37,41] ar,H⟩ (finD H [(2,none)] Q)):CM 18 ar H Q:=cw vf18 rfl dr18 h

theorem cw22 (h:exW CM [0,1,2,3,4,5,6,7,8,9,10,11,12,17,27,32,62,69,89,99,113] vf22c ⟨enter [0,1,2,3,4,5,6,7,8,9,10,11,12,17,27,32,62,69,89,99,113] ar,H⟩ (finD H [(2,(some (some 2))),(3,none)] Q)):CM 22 ar H Q:=cw vf22 rfl dr22 h

theorem cw23 (h:exW CM [0,1,2,3,4,5,7,10,14,15,16,23,24,25,26,27,44] vf23c ⟨enter [0,1,2,3,4,5,7,10,14,15,16,23,24,25,26,27,44] ar,H⟩ (finD H [(2,none)] Q)):CM 23 ar H Q:=cw vf23 rfl dr23 h

theorem cw24 (h:exW CM [0,2,3,4,5,12] vf24c ⟨enter [0,2,3,4,5,12] ar,H⟩ (finD H [(2,(some (some 2)))] Q)):CM 24 ar H Q:=cw vf24 rfl dr24 h

theorem cw25 (h:exW CM [0,1,2,3,4,5,6,7,10,19,29,30,31,43,60,61,62,63,88] vf25c ⟨enter [0,1,2,3,4,5,6,7,10,19,29,30,31,43,60,61,62,63,88] ar,H⟩ (finD H [(2,(some (some 2))),(3,none)] Q)):CM 25 ar H Q:=cw vf25 rfl dr25 h

theorem cw26 (h:exW CM [0,1,2,3,4,5,6,7,8,17,29,42,55,84] vf26c ⟨enter [0,1,2,3,4,5,6,7,8,17,29,42,55,84] ar,H⟩ (finD H [(2,(some (some 2))),(3,none)] Q)):CM 26 ar H Q:=cw vf26 rfl dr26 h

theorem cw27 (h:exW CM [0,1,2,3,5,7,10,13,14,15,16,20,21,22,23,28] vf27c ⟨enter [0,1,2,3,5,7,10,13,14,15,16,20,21,22,23,28] ar,H⟩ (finD H [(2,none)] Q)):CM 27 ar H Q:=cw vf27 rfl dr27 h

theorem cw28 (h:exW CM [0,1,4,5,9,17] vf28c ⟨enter [0,1,4,5,9,17] ar,H⟩ (finD H [(4,none)] Q)):CM 28 ar H Q:=cw vf28 rfl dr28 h

theorem cw29 (h:exW CM [0,1,2] vf29c ⟨enter [0,1,2] ar,H⟩ (finD H [(2,none)] Q)):CM 29 ar H Q:=cw vf29 rfl dr29 h

theorem cw30 (h:exW CM [0,2,3,4,5,21,22,31,42,64,67,84,87,105,108,123,132,151] vf30c ⟨enter [0,2,3,4,5,21,22,31,42,64,67,84,87,105,108,123,132,151] ar,H⟩ (finD H [(2,(some (some 2)))] Q)):CM 30 ar H Q:=cw vf30 rfl dr30 h

theorem cw31 (h:exW CM [0,2,3,4,15] vf31c ⟨enter [0,2,3,4,15] ar,H⟩ (finD H [(2,none)] Q)):CM 31 ar H Q:=cw vf31 rfl dr31 h

theorem cw32 (h:exW CM [0,1,2,3,5,6,8,13,14,15,16,26,27,28,29] vf32c ⟨enter [0,1,2,3,5,6,8,13,14,15,16,26,27,28,29] ar,H⟩ (finD H [(2,(some (some 2)))] Q)):CM 32 ar H Q:=cw vf32 rfl dr32 h

theorem cw38 (h:exW CM [0,1,2,5] vf38c ⟨enter [0,1,2,5] ar,H⟩ (finD H [(2,none)] Q)):CM 38 ar H Q:=cw vf38 rfl dr38 h

theorem cw40 (h:exW CM [0,2] vf40c ⟨enter [0,2] ar,H⟩ (finD H [(2,none)] Q)):CM 40 ar H Q:=cw vf40 rfl dr40 h

theorem cw42 (h:exW CM [0,1,2,3,4,5,6,7,15,41] vf42c ⟨enter [0,1,2,3,4,5,6,7,15,41] ar,H⟩ (finD H [(2,(some (some 2)))] Q)):CM 42 ar H Q:=cw vf42 rfl dr42 h

theorem cw43 (h:exW CM [0,1,2,3,4,11,18,31,34,40,47,50] vf43c ⟨enter [0,1,2,3,4,11,18,31,34,40,47,50] ar,H⟩ (finD H [(2,none)] Q)):CM 43 ar H Q:=cw vf43 rfl dr43 h

theorem cw46 (h:exW CM [0,1,2,5] vf46c ⟨enter [0,1,2,5] ar,H⟩ (finD H [(2,none)] Q)):CM 46 ar H Q:=cw vf46 rfl dr46 h

theorem cw47 (h:exW CM [0,1,2,3,4,5,18] vf47c ⟨enter [0,1,2,3,4,5,18] ar,H⟩ (finD H [(2,none)] Q)):CM 47 ar H Q:=cw vf47 rfl dr47 h

theorem cw48 (h:exW CM [0,2] vf48c ⟨enter [0,2] ar,H⟩ (finD H [(2,none)] Q)):CM 48 ar H Q:=cw vf48 rfl dr48 h

theorem cw50 (h:exW CM [0,1,2,3,4,5,27,32,63] vf50c ⟨enter [0,1,2,3,4,5,27,32,63] ar,H⟩ (finD H [(4,none)] Q)):CM 50 ar H Q:=cw vf50 rfl dr50 h

theorem cw51 (h:exW CM [0,1,2,3,15] vf51c ⟨enter [0,1,2,3,15] ar,H⟩ (finD H [(2,none)] Q)):CM 51 ar H Q:=cw vf51 rfl dr51 h

theorem cw52 (h:exW CM [0,1,2,3,4,5,6,7,19,22,48,53,65,70,81] vf52c ⟨enter [0,1,2,3,4,5,6,7,19,22,48,53,65,70,81] ar,H⟩ (finD H [(2,none)] Q)):CM 52 ar H Q:=cw vf52 rfl dr52 h

theorem cw54 (h:exW CM [0,1,2] vf54c ⟨enter [0,1,2] ar,H⟩ (finD H [(2,none)] Q)):CM 54 ar H Q:=cw vf54 rfl dr54 h

theorem cw55 (h:exW CM [0,1,2,3,4,5] vf55c ⟨enter [0,1,2,3,4,5] ar,H⟩ (finD H [(2,none),(3,none)] Q)):CM 55 ar H Q:=cw vf55 rfl dr55 h

theorem cw56 (h:exW CM [0,1,4] vf56c ⟨enter [0,1,4] ar,H⟩ (finD H [(4,none)] Q)):CM 56 ar H Q:=cw vf56 rfl dr56 h

theorem cw57 (h:exW CM [0,1,2,4,5,6,10,11,12,18] vf57c ⟨enter [0,1,2,4,5,6,10,11,12,18] ar,H⟩ (finD H [(4,none)] Q)):CM 57 ar H Q:=cw vf57 rfl dr57 h

theorem cw58 (h:exW CM [0,1,2,3,4,5,7,8,10,12,13,14,15,23,24,25,26,31,32,33,34,48] vf58c ⟨enter [0,1,2,3,4,5,7,8,10,12,13,14,15,23,24,25,26,31,32,33,34,48] ar,H⟩ (finD H [(2,none)] Q)):CM 58 ar H Q:=cw vf58 rfl dr58 h

theorem cw59 (h:exW CM [0,1,4] vf59c ⟨enter [0,1,4] ar,H⟩ (finD H [(4,none)] Q)):CM 59 ar H Q:=cw vf59 rfl dr59 h

theorem cw60 (h:exW CM [0,1,2,3,5,7,9,10,15,16,17,18,22,23,24,25,37,38,39,40,46] vf60c ⟨enter [0,1,2,3,5,7,9,10,15,16,17,18,22,23,24,25,37,38,39,40,46] ar,H⟩ (finD H [(2,none)] Q)):CM 60 ar H Q:=cw vf60 rfl dr60 h

theorem cw61 (h:exW CM [0,2] vf61c ⟨enter [0,2] ar,H⟩ (finD H [(2,none)] Q)):CM 61 ar H Q:=cw vf61 rfl dr61 h

theorem cw62 (h:exW CM [0,1,2,3,4,11,12,13,18] vf62c ⟨enter [0,1,2,3,4,11,12,13,18] ar,H⟩ (finD H [(2,none)] Q)):CM 62 ar H Q:=cw vf62 rfl dr62 h

theorem cw64 (h:exW CM [0,1,2,3,4,5,6,12,26,49] vf64c ⟨enter [0,1,2,3,4,5,6,12,26,49] ar,H⟩ (finD H [(2,none)] Q)):CM 64 ar H Q:=cw vf64 rfl dr64 h

theorem cw65 (h:exW CM [0,1,2,4,5,12,31] vf65c ⟨enter [0,1,2,4,5,12,31] ar,H⟩ (finD H [(4,none)] Q)):CM 65 ar H Q:=cw vf65 rfl dr65 h

theorem cw66 (h:exW CM [0,1,4] vf66c ⟨enter [0,1,4] ar,H⟩ (finD H [(4,none)] Q)):CM 66 ar H Q:=cw vf66 rfl dr66 h

theorem cw67 (h:exW CM [0,1,4,5,6,7,8,9,10,11,15,22,26,49,50,51,52,59] vf67c ⟨enter [0,1,4,5,6,7,8,9,10,11,15,22,26,49,50,51,52,59] ar,H⟩ (finD H [(4,none),(5,none)] Q)):CM 67 ar H Q:=cw vf67 rfl dr67 h

theorem cw68 (h:exW CM [0,1,4,5,7,9,11,12,13,14,18,19,20,21,27] vf68c ⟨enter [0,1,4,5,7,9,11,12,13,14,18,19,20,21,27] ar,H⟩ (finD H [(4,none)] Q)):CM 68 ar H Q:=cw vf68 rfl dr68 h

theorem cw69 (h:exW CM [0,1,2,4,5,13,14,19,25] vf69c ⟨enter [0,1,2,4,5,13,14,19,25] ar,H⟩ (finD H [(4,none)] Q)):CM 69 ar H Q:=cw vf69 rfl dr69 h

theorem cw70 (h:exW CM [0,1,4,5,6,7,8,9,10,15,28,39,43,57,66] vf70c ⟨enter [0,1,4,5,6,7,8,9,10,15,28,39,43,57,66] ar,H⟩ (finD H [(4,none)] Q)):CM 70 ar H Q:=cw vf70 rfl dr70 h

theorem cw71 (h:exW CM [0,1,2,3,6,7,8,9,10,20,36,46] vf71c ⟨enter [0,1,2,3,6,7,8,9,10,20,36,46] ar,H⟩ (finD H [(6,none)] Q)):CM 71 ar H Q:=cw vf71 rfl dr71 h

theorem cw73 (h:exW CM [0,2,3,4,5,8,13,25,32,44] vf73c ⟨enter [0,2,3,4,5,8,13,25,32,44] ar,H⟩ (finD H [(2,none)] Q)):CM 73 ar H Q:=cw vf73 rfl dr73 h

theorem cw74 (h:exW CM [0,1,4] vf74c ⟨enter [0,1,4] ar,H⟩ (finD H [(4,none)] Q)):CM 74 ar H Q:=cw vf74 rfl dr74 h

theorem cw75 (h:exW CM [0,1,2] vf75c ⟨enter [0,1,2] ar,H⟩ (finD H [(2,none)] Q)):CM 75 ar H Q:=cw vf75 rfl dr75 h

theorem cw76 (h:exW CM [0,2,3,4,5,6,7] vf76c ⟨enter [0,2,3,4,5,6,7] ar,H⟩ (finD H [(2,(some (some 2)))] Q)):CM 76 ar H Q:=cw vf76 rfl dr76 h

theorem cw77 (h:exW CM [0,1,4,5,6,7,8,10,12] vf77c ⟨enter [0,1,4,5,6,7,8,10,12] ar,H⟩ (finD H [(4,none)] Q)):CM 77 ar H Q:=cw vf77 rfl dr77 h

theorem cw78 (h:exW CM [0,1,4] vf78c ⟨enter [0,1,4] ar,H⟩ (finD H [(4,none)] Q)):CM 78 ar H Q:=cw vf78 rfl dr78 h

theorem cw79 (h:exW CM [0,1,4,7] vf79c ⟨enter [0,1,4,7] ar,H⟩ (finD H [(4,none)] Q)):CM 79 ar H Q:=cw vf79 rfl dr79 h

theorem cw80 (h:exW CM [0,2,4] vf80c ⟨enter [0,2,4] ar,H⟩ (finD H [(2,none)] Q)):CM 80 ar H Q:=cw vf80 rfl dr80 h

theorem cw81 (h:exW CM [0,2,4] vf81c ⟨enter [0,2,4] ar,H⟩ (finD H [(2,none)] Q)):CM 81 ar H Q:=cw vf81 rfl dr81 h

theorem cw83 (h:exW CM [0,1,4,5,7,8,9,16] vf83c ⟨enter [0,1,4,5,7,8,9,16] ar,H⟩ (finD H [(4,none)] Q)):CM 83 ar H Q:=cw vf83 rfl dr83 h

theorem cw84 (h:exW CM [0,1,4,5,7,8,9,16] vf84c ⟨enter [0,1,4,5,7,8,9,16] ar,H⟩ (finD H [(4,none)] Q)):CM 84 ar H Q:=cw vf84 rfl dr84 h

theorem cw85 (h:exW CM [0,1,4,5,6] vf85c ⟨enter [0,1,4,5,6] ar,H⟩ (finD H [(4,none)] Q)):CM 85 ar H Q:=cw vf85 rfl dr85 h

theorem cw86 (h:exW CM [0,1,2,6] vf86c ⟨enter [0,1,2,6] ar,H⟩ (finD H [(6,none)] Q)):CM 86 ar H Q:=cw vf86 rfl dr86 h

theorem cw88 (h:exW CM [0,1,2,3,4,9,20,33] vf88c ⟨enter [0,1,2,3,4,9,20,33] ar,H⟩ (finD H [(2,none)] Q)):CM 88 ar H Q:=cw vf88 rfl dr88 h

theorem cw89 (h:exW CM [0,1,2,4,5,6,12,19] vf89c ⟨enter [0,1,2,4,5,6,12,19] ar,H⟩ (finD H [(4,none)] Q)):CM 89 ar H Q:=cw vf89 rfl dr89 h

theorem cw90 (h:exW CM [0,1,2,3,4,5,6,7,12,26,43,47,57] vf90c ⟨enter [0,1,2,3,4,5,6,7,12,26,43,47,57] ar,H⟩ (finD H [(2,none)] Q)):CM 90 ar H Q:=cw vf90 rfl dr90 h

theorem cw91 (h:exW CM [0,1,2,3,4,5,6,7,15,26,52,66] vf91c ⟨enter [0,1,2,3,4,5,6,7,15,26,52,66] ar,H⟩ (finD H [(2,none)] Q)):CM 91 ar H Q:=cw vf91 rfl dr91 h

theorem cw92 (h:exW CM [0,1,2,3,4,5,6,7,8,9,10,11,12,13,20,32,44,56,63,77,82,93,120] vf92c ⟨enter [0,1,2,3,4,5,6,7,8,9,10,11,12,13,20,32,44,56,63,77,82,93,120] ar,H⟩ (finD H [(2,none)] Q)):CM 92 ar H Q:=cw vf92 rfl dr92 h

theorem cw94 (h:exW CM [0,2] vf94c ⟨enter [0,2] ar,H⟩ (finD H [(2,none)] Q)):CM 94 ar H Q:=cw vf94 rfl dr94 h

theorem cw95 (h:exW CM [0,1,2,3,4,8,9,10,20,30] vf95c ⟨enter [0,1,2,3,4,8,9,10,20,30] ar,H⟩ (finD H [(8,none)] Q)):CM 95 ar H Q:=cw vf95 rfl dr95 h

theorem cw96 (h:exW CM [0,1,2,6] vf96c ⟨enter [0,1,2,6] ar,H⟩ (finD H [(6,none)] Q)):CM 96 ar H Q:=cw vf96 rfl dr96 h

theorem cw98 (h:exW CM [0,1,4,5,10,14,25] vf98c ⟨enter [0,1,4,5,10,14,25] ar,H⟩ (finD H [(4,none)] Q)):CM 98 ar H Q:=cw vf98 rfl dr98 h

theorem cw99 (h:exW CM [0,1,4,5,10,14,25] vf99c ⟨enter [0,1,4,5,10,14,25] ar,H⟩ (finD H [(4,none)] Q)):CM 99 ar H Q:=cw vf99 rfl dr99 h

theorem cw100 (h:exW CM [0,1,2,3,4,23] vf100c ⟨enter [0,1,2,3,4,23] ar,H⟩ (finD H [(4,none)] Q)):CM 100 ar H Q:=cw vf100 rfl dr100 h

theorem cw101 (h:exW CM [0,1,2,3,6,8,9,26,46] vf101c ⟨enter [0,1,2,3,6,8,9,26,46] ar,H⟩ (finD H [(6,none)] Q)):CM 101 ar H Q:=cw vf101 rfl dr101 h

theorem cw102 (h:exW CM [0,1,4] vf102c ⟨enter [0,1,4] ar,H⟩ (finD H [(4,none)] Q)):CM 102 ar H Q:=cw vf102 rfl dr102 h

theorem cw103 (h:exW CM [0,1,2,3,4] vf103c ⟨enter [0,1,2,3,4] ar,H⟩ (finD H [(4,none)] Q)):CM 103 ar H Q:=cw vf103 rfl dr103 h

theorem cw104 (h:exW CM [0,1,2,3,6,7,8,10,11,12,13,37] vf104c ⟨enter [0,1,2,3,6,7,8,10,11,12,13,37] ar,H⟩ (finD H [(6,none)] Q)):CM 104 ar H Q:=cw vf104 rfl dr104 h

theorem cw105 (h:exW CM [0,1,4] vf105c ⟨enter [0,1,4] ar,H⟩ (finD H [(4,none)] Q)):CM 105 ar H Q:=cw vf105 rfl dr105 h

theorem cw106 (h:exW CM [0,1,2,3] vf106c ⟨enter [0,1,2,3] ar,H⟩ (finD H [(3,none)] Q)):CM 106 ar H Q:=cw vf106 rfl dr106 h

theorem cw107 (h:exW CM [0,1,2,4,6] vf107c ⟨enter [0,1,2,4,6] ar,H⟩ (finD H [(4,none)] Q)):CM 107 ar H Q:=cw vf107 rfl dr107 h

theorem cw108 (h:exW CM [0,1,2,3,6,7,8,9,25,26,39,48] vf108c ⟨enter [0,1,2,3,6,7,8,9,25,26,39,48] ar,H⟩ (finD H [(6,none)] Q)):CM 108 ar H Q:=cw vf108 rfl dr108 h

theorem cw109 (h:exW CM [0,1,2,3,6,7,8,19,24,47,50,65] vf109c ⟨enter [0,1,2,3,6,7,8,19,24,47,50,65] ar,H⟩ (finD H [(6,none)] Q)):CM 109 ar H Q:=cw vf109 rfl dr109 h

theorem cw110 (h:exW CM [0,1,2,4,5,6,7,20,36,51,74,92,112] vf110c ⟨enter [0,1,2,4,5,6,7,20,36,51,74,92,112] ar,H⟩ (finD H [(4,none)] Q)):CM 110 ar H Q:=cw vf110 rfl dr110 h

theorem cw113 (h:exW CM [0,1,2] vf113c ⟨enter [0,1,2] ar,H⟩ (finD H [(2,none)] Q)):CM 113 ar H Q:=cw vf113 rfl dr113 h

theorem cw114 (h:exW CM [0,1,2] vf114c ⟨enter [0,1,2] ar,H⟩ (finD H [(2,none)] Q)):CM 114 ar H Q:=cw vf114 rfl dr114 h

theorem cw115 (h:exW CM [0,1,2,3,4,8,10,16,17,18,19,26] vf115c ⟨enter [0,1,2,3,4,8,10,16,17,18,19,26] ar,H⟩ (finD H [(8,none)] Q)):CM 115 ar H Q:=cw vf115 rfl dr115 h

theorem cw116 (h:exW CM [0,2,3,9] vf116c ⟨enter [0,2,3,9] ar,H⟩ (finD H [] Q)):CM 116 ar H Q:=cw vf116 rfl dr116 h

theorem cw117 (h:exW CM [0,1,4,5,7,8,9,16] vf117c ⟨enter [0,1,4,5,7,8,9,16] ar,H⟩ (finD H [(4,none)] Q)):CM 117 ar H Q:=cw vf117 rfl dr117 h

theorem cw118 (h:exW CM [0,1,4] vf118c ⟨enter [0,1,4] ar,H⟩ (finD H [(4,none)] Q)):CM 118 ar H Q:=cw vf118 rfl dr118 h

theorem cw119 (h:exW CM [0,1,4,5,10,12,13,14,24] vf119c ⟨enter [0,1,4,5,10,12,13,14,24] ar,H⟩ (finD H [(4,none)] Q)):CM 119 ar H Q:=cw vf119 rfl dr119 h

theorem cw120 (h:exW CM [0,1,4,5,7,8,9,16] vf120c ⟨enter [0,1,4,5,7,8,9,16] ar,H⟩ (finD H [(4,none)] Q)):CM 120 ar H Q:=cw vf120 rfl dr120 h

theorem cw121 (h:exW CM [0,1,2,4,5,6,7,8,9,12,24,25,26,31,32,33,34,51] vf121c ⟨enter [0,1,2,4,5,6,7,8,9,12,24,25,26,31,32,33,34,51] ar,H⟩ (finD H [(2,none)] Q)):CM 121 ar H Q:=cw vf121 rfl dr121 h

theorem cw122 (h:exW CM [0,1,2,3,4,5,7,9,10,12,13,21,22,23,24,28,29,30,31,48,52,53,54,55,62] vf122c ⟨enter [0,1,2,3,4,5,7,9,10,12,13,21,22,23,24,28,29,30,31,48,52,53,54,55,62] ar,H⟩ (finD H [(4,none)] Q)):CM 122 ar H Q:=cw vf122 rfl dr122 h

theorem cw124 (h:exW CM [0,1,4,5,6,7,8,9,10,40] vf124c ⟨enter [0,1,4,5,6,7,8,9,10,40] ar,H⟩ (finD H [(4,none)] Q)):CM 124 ar H Q:=cw vf124 rfl dr124 h

theorem cw125 (h:exW CM [0,1,4,5,6,7,12,19,29] vf125c ⟨enter [0,1,4,5,6,7,12,19,29] ar,H⟩ (finD H [(4,none)] Q)):CM 125 ar H Q:=cw vf125 rfl dr125 h

theorem cw126 (h:exW CM [0,2,4] vf126c ⟨enter [0,2,4] ar,H⟩ (finD H [(2,none)] Q)):CM 126 ar H Q:=cw vf126 rfl dr126 h

theorem cw127 (h:exW CM [0,1,2] vf127c ⟨enter [0,1,2] ar,H⟩ (finD H [(2,none)] Q)):CM 127 ar H Q:=cw vf127 rfl dr127 h

theorem cw128 (h:exW CM [0,1,2] vf128c ⟨enter [0,1,2] ar,H⟩ (finD H [(2,none)] Q)):CM 128 ar H Q:=cw vf128 rfl dr128 h

theorem cw129 (h:exW CM [0,1,2,6,7,16] vf129c ⟨enter [0,1,2,6,7,16] ar,H⟩ (finD H [(6,none)] Q)):CM 129 ar H Q:=cw vf129 rfl dr129 h

theorem cw130 (h:exW CM [0,2,3,4,5,9,15,38] vf130c ⟨enter [0,2,3,4,5,9,15,38] ar,H⟩ (finD H [(2,none)] Q)):CM 130 ar H Q:=cw vf130 rfl dr130 h

theorem cw133 (h:exW CM [0,1,4,5,7,8,9,16] vf133c ⟨enter [0,1,4,5,7,8,9,16] ar,H⟩ (finD H [(4,none)] Q)):CM 133 ar H Q:=cw vf133 rfl dr133 h

theorem cw134 (h:exW CM [0,2] vf134c ⟨enter [0,2] ar,H⟩ (finD H [(2,none)] Q)):CM 134 ar H Q:=cw vf134 rfl dr134 h

theorem cw135 (h:exW CM [0,2] vf135c ⟨enter [0,2] ar,H⟩ (finD H [(2,none)] Q)):CM 135 ar H Q:=cw vf135 rfl dr135 h

theorem cw136 (h:exW CM [0,1,2,5,16] vf136c ⟨enter [0,1,2,5,16] ar,H⟩ (finD H [] Q)):CM 136 ar H Q:=cw vf136 rfl dr136 h

theorem cw137 (h:exW CM [0,1,2,3,8,9,10,11,20,36,45,55,66] vf137c ⟨enter [0,1,2,3,8,9,10,11,20,36,45,55,66] ar,H⟩ (finD H [(8,none),(9,none)] Q)):CM 137 ar H Q:=cw vf137 rfl dr137 h

theorem cw138 (h:exW CM [0,1,4] vf138c ⟨enter [0,1,4] ar,H⟩ (finD H [(4,none)] Q)):CM 138 ar H Q:=cw vf138 rfl dr138 h

theorem cw139 (h:exW CM [0,2,3,34] vf139c ⟨enter [0,2,3,34] ar,H⟩ (finD H [(2,none)] Q)):CM 139 ar H Q:=cw vf139 rfl dr139 h

theorem cw141 (h:exW CM [0,1,2,10] vf141c ⟨enter [0,1,2,10] ar,H⟩ (finD H [(2,none)] Q)):CM 141 ar H Q:=cw vf141 rfl dr141 h

theorem cw143 (h:exW CM [0,1,2,3,7,15] vf143c ⟨enter [0,1,2,3,7,15] ar,H⟩ (finD H [(2,none)] Q)):CM 143 ar H Q:=cw vf143 rfl dr143 h

theorem cw144 (h:exW CM [0,2,3,4,5,7,10,12,14] vf144c ⟨enter [0,2,3,4,5,7,10,12,14] ar,H⟩ (finD H [(2,none),(3,none)] Q)):CM 144 ar H Q:=cw vf144 rfl dr144 h

theorem cw145 (h:exW CM [0,1,4] vf145c ⟨enter [0,1,4] ar,H⟩ (finD H [(4,none)] Q)):CM 145 ar H Q:=cw vf145 rfl dr145 h

theorem cw146 (h:exW CM [0,1,4,5,9,17] vf146c ⟨enter [0,1,4,5,9,17] ar,H⟩ (finD H [(4,none)] Q)):CM 146 ar H Q:=cw vf146 rfl dr146 h

theorem cw147 (h:exW CM [0,1,2,3,4,5,6,7,24,34,53] vf147c ⟨enter [0,1,2,3,4,5,6,7,24,34,53] ar,H⟩ (finD H [(2,none)] Q)):CM 147 ar H Q:=cw vf147 rfl dr147 h

theorem cw148 (h:exW CM [0,1,2,3,17] vf148c ⟨enter [0,1,2,3,17] ar,H⟩ (finD H [(2,none)] Q)):CM 148 ar H Q:=cw vf148 rfl dr148 h

theorem cw149 (h:exW CM [0,1,2,3,4,5,10,11,12,21] vf149c ⟨enter [0,1,2,3,4,5,10,11,12,21] ar,H⟩ (finD H [(10,none)] Q)):CM 149 ar H Q:=cw vf149 rfl dr149 h

theorem cw150 (h:exW CM [0,1,2,10] vf150c ⟨enter [0,1,2,10] ar,H⟩ (finD H [(2,none)] Q)):CM 150 ar H Q:=cw vf150 rfl dr150 h

theorem cw152 (h:exW CM [0,1,2,6,7] vf152c ⟨enter [0,1,2,6,7] ar,H⟩ (finD H [(6,none)] Q)):CM 152 ar H Q:=cw vf152 rfl dr152 h

theorem cw153 (h:exW CM [0,1,4] vf153c ⟨enter [0,1,4] ar,H⟩ (finD H [(4,none)] Q)):CM 153 ar H Q:=cw vf153 rfl dr153 h

theorem cw154 (h:exW CM [0,1,2,3] vf154c ⟨enter [0,1,2,3] ar,H⟩ (finD H [(3,none)] Q)):CM 154 ar H Q:=cw vf154 rfl dr154 h

theorem cw155 (h:exW CM [0,1,4] vf155c ⟨enter [0,1,4] ar,H⟩ (finD H [(4,none)] Q)):CM 155 ar H Q:=cw vf155 rfl dr155 h

theorem cw156 (h:exW CM [0,2,4] vf156c ⟨enter [0,2,4] ar,H⟩ (finD H [(2,none)] Q)):CM 156 ar H Q:=cw vf156 rfl dr156 h

theorem cw157 (h:exW CM [0,1,4,5,7,8,9,16] vf157c ⟨enter [0,1,4,5,7,8,9,16] ar,H⟩ (finD H [(4,none)] Q)):CM 157 ar H Q:=cw vf157 rfl dr157 h

theorem cw158 (h:exW CM [0,1,2,4,5,11] vf158c ⟨enter [0,1,2,4,5,11] ar,H⟩ (finD H [(4,none)] Q)):CM 158 ar H Q:=cw vf158 rfl dr158 h

theorem cw159 (h:exW CM [0,1,2,3,4,5,6,7,8,11,13,14,15,16,23,30] vf159c ⟨enter [0,1,2,3,4,5,6,7,8,11,13,14,15,16,23,30] ar,H⟩ (finD H [(4,none),(5,none)] Q)):CM 159 ar H Q:=cw vf159 rfl dr159 h

theorem cw160 (h:exW CM [0,1,2,6] vf160c ⟨enter [0,1,2,6] ar,H⟩ (finD H [(6,none)] Q)):CM 160 ar H Q:=cw vf160 rfl dr160 h

theorem cw161 (h:exW CM [0,1,2,3,5] vf161c ⟨enter [0,1,2,3,5] ar,H⟩ (finD H [(5,none)] Q)):CM 161 ar H Q:=cw vf161 rfl dr161 h

theorem cw162 (h:exW CM [0,1,2,3,4,8,9,10,20] vf162c ⟨enter [0,1,2,3,4,8,9,10,20] ar,H⟩ (finD H [(8,none)] Q)):CM 162 ar H Q:=cw vf162 rfl dr162 h

theorem cw163 (h:exW CM [0,1,2,3,5] vf163c ⟨enter [0,1,2,3,5] ar,H⟩ (finD H [(5,none)] Q)):CM 163 ar H Q:=cw vf163 rfl dr163 h

theorem cw167 (h:exW CM [0,1,4] vf167c ⟨enter [0,1,4] ar,H⟩ (finD H [(4,none)] Q)):CM 167 ar H Q:=cw vf167 rfl dr167 h

theorem cw168 (h:exW CM [0,1,2,3] vf168c ⟨enter [0,1,2,3] ar,H⟩ (finD H [(3,none)] Q)):CM 168 ar H Q:=cw vf168 rfl dr168 h

theorem cw169 (h:exW CM [0,1,4,5,7,8,9,16] vf169c ⟨enter [0,1,4,5,7,8,9,16] ar,H⟩ (finD H [(4,none)] Q)):CM 169 ar H Q:=cw vf169 rfl dr169 h

theorem cw170 (h:exW CM [0,1,2,3] vf170c ⟨enter [0,1,2,3] ar,H⟩ (finD H [(3,none)] Q)):CM 170 ar H Q:=cw vf170 rfl dr170 h

theorem cw171 (h:exW CM [0,1,2,3] vf171c ⟨enter [0,1,2,3] ar,H⟩ (finD H [(3,none)] Q)):CM 171 ar H Q:=cw vf171 rfl dr171 h

theorem cw183 (h:exW CM [0,2] vf183c ⟨enter [0,2] ar,H⟩ (finD H [(2,none)] Q)):CM 183 ar H Q:=cw vf183 rfl dr183 h

theorem cw184 (h:exW CM [0,1,2,6,7,8,9,10,11,12,27,33,34,54,64,79,111] vf184c ⟨enter [0,1,2,6,7,8,9,10,11,12,27,33,34,54,64,79,111] ar,H⟩ (finD H [(6,none)] Q)):CM 184 ar H Q:=cw vf184 rfl dr184 h

theorem cw185 (h:exW CM [0,1,2,3,8,9,10,11,12,13,14,15,16,17,18,19,84] vf185c ⟨enter [0,1,2,3,8,9,10,11,12,13,14,15,16,17,18,19,84] ar,H⟩ (finD H [(8,none),(9,none)] Q)):CM 185 ar H Q:=cw vf185 rfl dr185 h

theorem cw186 (h:exW CM [0,1,2,3,8,9,10,11,12,13,14,15] vf186c ⟨enter [0,1,2,3,8,9,10,11,12,13,14,15] ar,H⟩ (finD H [(8,none),(9,none)] Q)):CM 186 ar H Q:=cw vf186 rfl dr186 h

theorem cw187 (h:exW CM [0,1,2,3,8,9,10,11,12,13,14,15,16,17,18,19,20,21,22,23] vf187c ⟨enter [0,1,2,3,8,9,10,11,12,13,14,15,16,17,18,19,20,21,22,23] ar,H⟩ (finD H [(8,none),(9,none)] Q)):CM 187 ar H Q:=cw vf187 rfl dr187 h

theorem cw188 (h:exW CM [0,1,4,5,7,8,9,16] vf188c ⟨enter [0,1,4,5,7,8,9,16] ar,H⟩ (finD H [(4,none)] Q)):CM 188 ar H Q:=cw vf188 rfl dr188 h

theorem cw189 (h:exW CM [0,1,2,4,5,11] vf189c ⟨enter [0,1,2,4,5,11] ar,H⟩ (finD H [(4,none)] Q)):CM 189 ar H Q:=cw vf189 rfl dr189 h

theorem cw190 (h:exW CM [0,1,2,4,5,6,7,8,13,24,38,48,66] vf190c ⟨enter [0,1,2,4,5,6,7,8,13,24,38,48,66] ar,H⟩ (finD H [(4,none),(5,none)] Q)):CM 190 ar H Q:=cw vf190 rfl dr190 h

theorem cw191 (h:exW CM [0,1,4,5,7,8,9,16] vf191c ⟨enter [0,1,4,5,7,8,9,16] ar,H⟩ (finD H [(4,none)] Q)):CM 191 ar H Q:=cw vf191 rfl dr191 h

theorem cw192 (h:exW CM [0,1,2,3] vf192c ⟨enter [0,1,2,3] ar,H⟩ (finD H [(3,none)] Q)):CM 192 ar H Q:=cw vf192 rfl dr192 h

theorem cw193 (h:exW CM [0,1,2,3] vf193c ⟨enter [0,1,2,3] ar,H⟩ (finD H [(3,none)] Q)):CM 193 ar H Q:=cw vf193 rfl dr193 h

end
end Go.Proofs.YtiecgmmaihckeaaGreat.Vm
