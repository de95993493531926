/-
  DERIVED: THE SHELF's CONTRACTS AT THIS DUMP, IN PLAIN WORDS (tools/lay-plain.mjs out of 'TryShelf.lean', which tools/lay-shelf.mjs wrote): THE SAME DECLARATIONS UNDER THE SAME NAMES: 'import', 'namespace', 'open', 'def', 'theorem' AND NOTHING ELSE: no command of the shelf's: FOR A HAND-IN. Each laying: the table of numbers ('.._ren') and one theorem, a field a fact of the dump's own or the kernel's comparison; each contract: ONE APPLICATION.
-/
import Derived.Shelf.Sort.Plain
import Derived.Ground.Names2Prog
import Derived.Shelf.Slices.CompactI
import Derived.Shelf.Slices.In.SortNone
import Derived.Test.YtddabginhmpljaaProg
namespace Go.Proofs
open Go.Shelf
def Try.lays189_ren : Go.Shelf.Ren := ⟨fun | 189 => 202 | 125 => 249 | 257 => 254 | 128 => 286 | 129 => 287 | 294 => 288 | 295 => 289 | 296 => 290 | 297 => 291 | 298 => 292 | 299 => 293 | 216 => 273 | 300 => 294 | 301 => 295 | 328 => 313 | 329 => 309 | 330 => 310 | 331 => 314 | 332 => 315 | 215 => 250 | 343 => 321 | n => n, fun | 28 => 36 | 3 => 3 | 46 => 58 | 0 => 0 | 51 => 252 | 53 => 125 | 4 => 4 | 183 => 246 | 182 => 245 | 131 => 34 | 5 => 5 | 9 => 9 | 218 => 263 | 222 => 267 | 228 => 272 | 229 => 83 | n => n, fun | n => n⟩
theorem Try.lays189 : Go.Proofs.Lays.n189 Try.prog Try.lays189_ren := {
  mixed := by kernel_rfl
  f125 := Try.func249.trans (congrArg some (by kernel_rfl))
  f128 := Try.func286.trans (congrArg some (by kernel_rfl))
  f129 := Try.func287.trans (congrArg some (by kernel_rfl))
  f189 := Try.func202.trans (congrArg some (by kernel_rfl))
  f215 := Try.func250.trans (congrArg some (by kernel_rfl))
  f216 := Try.func273.trans (congrArg some (by kernel_rfl))
  f257 := Try.func254.trans (congrArg some (by kernel_rfl))
  f294 := Try.func288.trans (congrArg some (by kernel_rfl))
  f295 := Try.func289.trans (congrArg some (by kernel_rfl))
  f296 := Try.func290.trans (congrArg some (by kernel_rfl))
  f297 := Try.func291.trans (congrArg some (by kernel_rfl))
  f298 := Try.func292.trans (congrArg some (by kernel_rfl))
  f299 := Try.func293.trans (congrArg some (by kernel_rfl))
  f300 := Try.func294.trans (congrArg some (by kernel_rfl))
  f301 := Try.func295.trans (congrArg some (by kernel_rfl))
  f328 := Try.func313.trans (congrArg some (by kernel_rfl))
  f329 := Try.func309.trans (congrArg some (by kernel_rfl))
  f330 := Try.func310.trans (congrArg some (by kernel_rfl))
  f331 := Try.func314.trans (congrArg some (by kernel_rfl))
  f332 := Try.func315.trans (congrArg some (by kernel_rfl))
  f343 := Try.func321.trans (congrArg some (by kernel_rfl))
  t0 := Try.underlying0
  a0 := Try.isAgg0
  z0 := Try.sizeOf0
  v0 := Try.zeroValue0
  t3 := Try.underlying3
  a3 := Try.isAgg3
  z3 := Try.sizeOf3
  v3 := Try.zeroValue3
  t4 := Try.underlying4
  a4 := Try.isAgg4
  z4 := Try.sizeOf4
  v4 := Try.zeroValue4
  t5 := Try.underlying5
  a5 := Try.isAgg5
  z5 := Try.sizeOf5
  v5 := Try.zeroValue5
  t9 := Try.underlying9
  a9 := Try.isAgg9
  z9 := Try.sizeOf9
  v9 := Try.zeroValue9
  t28 := Try.underlying36
  a28 := Try.isAgg36
  z28 := Try.sizeOf36
  v28 := Try.zeroValue36
  t46 := Try.underlying58
  a46 := Try.isAgg58
  z46 := Try.sizeOf58
  v46 := Try.zeroValue58
  t51 := Try.underlying252
  a51 := Try.isAgg252
  z51 := Try.sizeOf252
  v51 := Try.zeroValue252
  t53 := Try.underlying125
  a53 := Try.isAgg125
  z53 := Try.sizeOf125
  v53 := Try.zeroValue125
  t131 := Try.underlying34
  a131 := Try.isAgg34
  z131 := Try.sizeOf34
  v131 := Try.zeroValue34
  t182 := Try.underlying245
  a182 := Try.isAgg245
  z182 := Try.sizeOf245
  v182 := Try.zeroValue245
  t183 := Try.underlying246
  a183 := Try.isAgg246
  z183 := Try.sizeOf246
  v183 := Try.zeroValue246
  t218 := Try.underlying263
  a218 := Try.isAgg263
  z218 := Try.sizeOf263
  v218 := Try.zeroValue263
  t222 := Try.underlying267
  a222 := Try.isAgg267
  z222 := Try.sizeOf267
  v222 := Try.zeroValue267
  t228 := Try.underlying272
  a228 := Try.isAgg272
  z228 := Try.sizeOf272
  v228 := Try.zeroValue272
  t229 := Try.underlying83
  a229 := Try.isAgg83
  z229 := Try.sizeOf83
  v229 := Try.zeroValue83 }
open Go.Sort Go.RowKit in
theorem Try.slices_Sort_int (blk off cap : Nat) (zs : List Int) (w : World) (hH : Holds (Value.int .i64) w blk off zs.toArray) (hblk : blk < w.heap.size) (hsz : zs.length < 4611686018427387904) :
    Calls Try.prog 202 #[.slice (some ⟨blk, off, none⟩) zs.length cap] w fun e w' =>
      e = .returned (.tuple #[]) ∧ ∃ n os, w' = grow (putRow (Value.int .i64) (Sort.ahead w n) blk off (zs.mergeSort fun x y => decide (x ≤ y)).toArray) os := Any.slices_Sort_int Try.lays189 blk off cap zs w hH hblk hsz
def Try.laysNm220_ren : Go.Shelf.Ren := ⟨fun | 20 => 150 | n => n, fun | 22 => 36 | 3 => 3 | 4 => 4 | 0 => 0 | n => n, fun | n => n⟩
theorem Try.laysNm220 : Go.Proofs.Lays2.n20 Try.prog Try.laysNm220_ren := {
  mixed := by kernel_rfl
  f20 := Try.func150.trans (congrArg some (by kernel_rfl))
  t0 := Try.underlying0
  a0 := Try.isAgg0
  z0 := Try.sizeOf0
  v0 := Try.zeroValue0
  t3 := Try.underlying3
  a3 := Try.isAgg3
  z3 := Try.sizeOf3
  v3 := Try.zeroValue3
  t4 := Try.underlying4
  a4 := Try.isAgg4
  z4 := Try.sizeOf4
  v4 := Try.zeroValue4
  t22 := Try.underlying36
  a22 := Try.isAgg36
  z22 := Try.sizeOf36
  v22 := Try.zeroValue36
  i3 := by kernel_rfl }
open Go.RowKit Go.Lib Go.Sort in
/-- slices.Compact at []int, over an array: the library's two loops are walked. (LAID: no walk: one application.) -/
theorem Try.slices_Compact_int_arr (blk off cap : Nat) (d : Array Int) (w : World) (hH : Holds encI w blk off d) (hsz : d.size ≤ 9223372036854775807) (hcap : d.size ≤ cap) :
    Calls Try.prog 150 #[.slice (some ⟨blk, off, none⟩) d.size cap] w fun e w' => e = .returned (.slice (some ⟨blk, off, none⟩) (compactUpTo d d.size).length cap) ∧ ∃ q, w' = putRow encI (Sort.ahead w q) blk off (compactUpTo d d.size ++ List.replicate (d.size - (compactUpTo d d.size).length) 0).toArray := Any.slices_Compact_int_arr Try.laysNm220 blk off cap d w hH hsz hcap
open Go.RowKit Go.Lib Go.Sort in
/-- The same at a slice of length 0, a nil one too: it comes back as it is. (LAID: no walk: one application.) -/
theorem Try.slices_Compact_int_empty (a : Option Addr) (cap : Nat) (w : World) :
    Calls Try.prog 150 #[.slice a 0 cap] w fun e w' => e = .returned (.slice a 0 cap) ∧ w' = w := Any.slices_Compact_int_empty Try.laysNm220 a cap w
open Go.RowKit Go.Sort in
/-- .. and plain. (LAID: no walk: one application.) -/
theorem Try.slices_Sort_int_none (p : Option Addr) (cap : Nat) (w : World) :
    Calls Try.prog 202 #[.slice p 0 cap] w fun e w' => e = .returned (.tuple #[]) ∧ w' = w := Any.slices_Sort_int_none Try.lays189 p cap w
end Go.Proofs
