/-
 DERIVED: THE SHELF's CONTRACTS AT THIS DUMP, IN PLAIN WORDS (tools/lay-plain.mjs out of 'YtgdfgnppeekfjaaGreatShelf.lean', which tools/lay-shelf.mjs wrote): THE SAME DECLARATIONS UNDER THE SAME NAMES: 'import', 'namespace', 'open', 'def', 'theorem' AND NOTHING ELSE: no command of the shelf's: FOR A HAND-IN. Each laying: the table of numbers ('.._ren') and one theorem, a field a fact of the dump's own or the kernel's comparison; each contract: ONE APPLICATION.
-/
import Derived.Shelf.Sort.Plain
import Derived.Shelf.Slices.In.SortNone
import Derived.Test.YtgdfgnppeekfjaaGreatProg
namespace Go.Proofs
open Go.Shelf
def Tryz.lays189_ren : Go.Shelf.Ren := ⟨fun | 189 => 132 | 125 => 190 | 257 => 189 | 128 => 234 | 129 => 235 | 294 => 225 | 295 => 226 | 296 => 227 | 297 => 228 | 298 => 229 | 299 => 230 | 216 => 231 | 300 => 232 | 301 => 233 | 328 => 249 | 329 => 250 | 330 => 251 | 331 => 252 | 332 => 253 | 215 => 254 | 343 => 258 | n => n, fun | 28 => 29 | 3 => 3 | 46 => 175 | 0 => 0 | 51 => 208 | 53 => 210 | 4 => 4 | 183 => 201 | 182 => 200 | 131 => 205 | 5 => 5 | 9 => 9 | 218 => 222 | 222 => 226 | 228 => 230 | 229 => 48 | n => n, fun | n => n⟩
theorem Tryz.lays189 : Go.Proofs.Lays.n189 Tryz.prog Tryz.lays189_ren := {
 mixed := by kernel_rfl
 f125 := Tryz.func190.trans (congrArg some (by kernel_rfl))
 f128 := Tryz.func234.trans (congrArg some (by kernel_rfl))
 f129 := Tryz.func235.trans (congrArg some (by kernel_rfl))
 f189 := Tryz.func132.trans (congrArg some (by kernel_rfl))
 f215 := Tryz.func254.trans (congrArg some (by kernel_rfl))
 f216 := Tryz.func231.trans (congrArg some (by kernel_rfl))
 f257 := Tryz.func189.trans (congrArg some (by kernel_rfl))
 f294 := Tryz.func225.trans (congrArg some (by kernel_rfl))
 f295 := Tryz.func226.trans (congrArg some (by kernel_rfl))
 f296 := Tryz.func227.trans (congrArg some (by kernel_rfl))
 f297 := Tryz.func228.trans (congrArg some (by kernel_rfl))
 f298 := Tryz.func229.trans (congrArg some (by kernel_rfl))
 f299 := Tryz.func230.trans (congrArg some (by kernel_rfl))
 f300 := Tryz.func232.trans (congrArg some (by kernel_rfl))
 f301 := Tryz.func233.trans (congrArg some (by kernel_rfl))
 f328 := Tryz.func249.trans (congrArg some (by kernel_rfl))
 f329 := Tryz.func250.trans (congrArg some (by kernel_rfl))
 f330 := Tryz.func251.trans (congrArg some (by kernel_rfl))
 f331 := Tryz.func252.trans (congrArg some (by kernel_rfl))
 f332 := Tryz.func253.trans (congrArg some (by kernel_rfl))
 f343 := Tryz.func258.trans (congrArg some (by kernel_rfl))
 t0 := Tryz.underlying0
 a0 := Tryz.isAgg0
 z0 := Tryz.sizeOf0
 v0 := Tryz.zeroValue0
 t3 := Tryz.underlying3
 a3 := Tryz.isAgg3
 z3 := Tryz.sizeOf3
 v3 := Tryz.zeroValue3
 t4 := Tryz.underlying4
 a4 := Tryz.isAgg4
 z4 := Tryz.sizeOf4
 v4 := Tryz.zeroValue4
 t5 := Tryz.underlying5
 a5 := Tryz.isAgg5
 z5 := Tryz.sizeOf5
 v5 := Tryz.zeroValue5
 t9 := Tryz.underlying9
 a9 := Tryz.isAgg9
 z9 := Tryz.sizeOf9
 v9 := Tryz.zeroValue9
 t28 := Tryz.underlying29
 a28 := Tryz.isAgg29
 z28 := Tryz.sizeOf29
 v28 := Tryz.zeroValue29
 t46 := Tryz.underlying175
 a46 := Tryz.isAgg175
 z46 := Tryz.sizeOf175
 v46 := Tryz.zeroValue175
 t51 := Tryz.underlying208
 a51 := Tryz.isAgg208
 z51 := Tryz.sizeOf208
 v51 := Tryz.zeroValue208
 t53 := Tryz.underlying210
 a53 := Tryz.isAgg210
 z53 := Tryz.sizeOf210
 v53 := Tryz.zeroValue210
 t131 := Tryz.underlying205
 a131 := Tryz.isAgg205
 z131 := Tryz.sizeOf205
 v131 := Tryz.zeroValue205
 t182 := Tryz.underlying200
 a182 := Tryz.isAgg200
 z182 := Tryz.sizeOf200
 v182 := Tryz.zeroValue200
 t183 := Tryz.underlying201
 a183 := Tryz.isAgg201
 z183 := Tryz.sizeOf201
 v183 := Tryz.zeroValue201
 t218 := Tryz.underlying222
 a218 := Tryz.isAgg222
 z218 := Tryz.sizeOf222
 v218 := Tryz.zeroValue222
 t222 := Tryz.underlying226
 a222 := Tryz.isAgg226
 z222 := Tryz.sizeOf226
 v222 := Tryz.zeroValue226
 t228 := Tryz.underlying230
 a228 := Tryz.isAgg230
 z228 := Tryz.sizeOf230
 v228 := Tryz.zeroValue230
 t229 := Tryz.underlying48
 a229 := Tryz.isAgg48
 z229 := Tryz.sizeOf48
 v229 := Tryz.zeroValue48 }
open Go.Sort Go.RowKit in
theorem Tryz.slices_Sort_int (blk off cap : Nat) (zs : List Int) (w : World) (hH : Holds (Value.int .i64) w blk off zs.toArray) (hblk : blk < w.heap.size) (hsz : zs.length < 4611686018427387904) :
  Calls Tryz.prog 132 #[.slice (some ⟨blk, off, none⟩) zs.length cap] w fun e w' =>
   e = .returned (.tuple #[]) ∧ ∃ n os, w' = grow (putRow (Value.int .i64) (Sort.ahead w n) blk off (zs.mergeSort fun x y => decide (x ≤ y)).toArray) os := Any.slices_Sort_int Tryz.lays189 blk off cap zs w hH hblk hsz
open Go.RowKit Go.Sort in
theorem Tryz.slices_Sort_int_none (p : Option Addr) (cap : Nat) (w : World) :
  Calls Tryz.prog 132 #[.slice p 0 cap] w fun e w' => e = .returned (.tuple #[]) ∧ w' = w := Any.slices_Sort_int_none Tryz.lays189 p cap w
end Go.Proofs
