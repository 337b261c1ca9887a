/- slices.Sort does what it should: the contracts off the shelf. No conditions. -/
import Derived.Shelf.Sort.Plain
import Derived.Shelf.Slices.In.SortNone
import Derived.Test.YtiecgmmaihckeaaProg
import Derived.Test.YtiecgmmaihckeaaW2
section
namespace Go.Proofs

open Go.Shelf

def Try.lays189_ren:Go.Shelf.Ren:=⟨fun | 189=>31 | 125=>60 | 257=>59 | 128=>96 | 129=>97 | 294=>87 | 295=>88 | 296=>89 | 297=>90 | 298=>91 | 299=>92 | 216=>93 | 300=>94 | 301=>95 | 328=>109 | 329=>110 | 330=>111 | 331=>112 | 332=>113 | 215=>114 | 343=>119 | n=>n,fun | 28=>33 | 3=>3 | 46=>90 | 0=>0 | 51=>125 | 53=>127 | 4=>4 | 183=>118 | 182=>117 | 131=>122 | 5=>5 | 9=>9 | 218=>141 | 222=>145 | 228=>151 | 229=>152 | n=>n,fun | n=>n⟩

theorem Try.lays189:Go.Proofs.Lays.n189 Try.prog Try.lays189_ren:={
 mixed:=by kernel_rfl
 f125:=Try.func60.trans (congrArg some (by kernel_rfl))
 f128:=Try.func96.trans (congrArg some (by kernel_rfl))
 f129:=Try.func97.trans (congrArg some (by kernel_rfl))
 f189:=Try.func31.trans (congrArg some (by kernel_rfl))
 f215:=Try.func114.trans (congrArg some (by kernel_rfl))
 f216:=Try.func93.trans (congrArg some (by kernel_rfl))
 f257:=Try.func59.trans (congrArg some (by kernel_rfl))
 f294:=Try.func87.trans (congrArg some (by kernel_rfl))
 f295:=Try.func88.trans (congrArg some (by kernel_rfl))
 f296:=Try.func89.trans (congrArg some (by kernel_rfl))
 f297:=Try.func90.trans (congrArg some (by kernel_rfl))
 f298:=Try.func91.trans (congrArg some (by kernel_rfl))
 f299:=Try.func92.trans (congrArg some (by kernel_rfl))
 f300:=Try.func94.trans (congrArg some (by kernel_rfl))
 f301:=Try.func95.trans (congrArg some (by kernel_rfl))
 f328:=Try.func109.trans (congrArg some (by kernel_rfl))
 f329:=Try.func110.trans (congrArg some (by kernel_rfl))
 f330:=Try.func111.trans (congrArg some (by kernel_rfl))
 f331:=Try.func112.trans (congrArg some (by kernel_rfl))
 f332:=Try.func113.trans (congrArg some (by kernel_rfl))
 f343:=Try.func119.trans (congrArg some (by kernel_rfl))
 t0:=Try.underlying0
 a0:=Try.isAgg0
 z0:=Try.sizeOf0
 v0:=Try.zeroValue0
 t3:=Try.underlying3
 a3:=Try.isAgg3
 z3:=Try.sizeOf3
 v3:=Try.zeroValue3
 t4:=Try.underlying4
 a4:=Try.isAgg4
 z4:=Try.sizeOf4
 v4:=Try.zeroValue4
 t5:=Try.underlying5
 a5:=Try.isAgg5
 z5:=Try.sizeOf5
 v5:=Try.zeroValue5
 t9:=Try.underlying9
 a9:=Try.isAgg9
 z9:=Try.sizeOf9
 v9:=Try.zeroValue9
 t28:=Try.underlying33
 a28:=Try.isAgg33
 z28:=Try.sizeOf33
 v28:=Try.zeroValue33
 t46:=Try.underlying90
 a46:=Try.isAgg90
 z46:=Try.sizeOf90
 v46:=Try.zeroValue90
 t51:=Try.underlying125
 a51:=Try.isAgg125
 z51:=Try.sizeOf125
 v51:=Try.zeroValue125
 t53:=Try.underlying127
 a53:=Try.isAgg127
 z53:=Try.sizeOf127
 v53:=Try.zeroValue127
 t131:=Try.underlying122
 a131:=Try.isAgg122
 z131:=Try.sizeOf122
 v131:=Try.zeroValue122
 t182:=Try.underlying117
 a182:=Try.isAgg117
 z182:=Try.sizeOf117
 v182:=Try.zeroValue117
 t183:=Try.underlying118
 a183:=Try.isAgg118
 z183:=Try.sizeOf118
 v183:=Try.zeroValue118
 t218:=Try.underlying141
 a218:=Try.isAgg141
 z218:=Try.sizeOf141
 v218:=Try.zeroValue141
 t222:=Try.underlying145
 a222:=Try.isAgg145
 z222:=Try.sizeOf145
 v222:=Try.zeroValue145
 t228:=Try.underlying151
 a228:=Try.isAgg151
 z228:=Try.sizeOf151
 v228:=Try.zeroValue151
 t229:=Try.underlying152
 a229:=Try.isAgg152
 z229:=Try.sizeOf152
 v229:=Try.zeroValue152 }

open Go.Sort Go.RowKit in
theorem Try.slices_Sort_int (blk off cap:Nat) (zs:List Int) (w:World) (hH:Holds (Value.int .i64) w blk off zs.toArray) (hblk:blk<w.heap.size) (hsz:zs.length<4611686018427387904) :
  Calls Try.prog 31 #[.slice (some ⟨blk,off,none⟩) zs.length cap] w fun e w' =>
   e=.returned (.tuple #[])∧∃ n os,w'=grow (putRow (Value.int .i64) (Sort.ahead w n) blk off (zs.mergeSort fun x y=>decide (x≤y)).toArray) os:=Any.slices_Sort_int Try.lays189 blk off cap zs w hH hblk hsz

open Go.RowKit Go.Sort in
theorem Try.slices_Sort_int_none (p:Option Addr) (cap:Nat) (w:World) :
  Calls Try.prog 31 #[.slice p 0 cap] w fun e w'=>e=.returned (.tuple #[])∧w'=w:=Any.slices_Sort_int_none Try.lays189 p cap w

end Go.Proofs
end
