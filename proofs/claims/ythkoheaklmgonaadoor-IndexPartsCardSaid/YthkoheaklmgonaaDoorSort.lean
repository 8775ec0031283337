/-
  DERIVED: THE SHELF's CONTRACTS AT THIS DUMP, IN PLAIN WORDS (tools/lay-plain.mjs out of 'TrydSort0.lean', which tools/lay-shelf.mjs wrote): THE SAME DECLARATIONS UNDER THE SAME NAMES: 'import', 'namespace', 'open', 'def', 'theorem' AND NOTHING ELSE: no command of the shelf's: FOR A HAND-IN. Each laying: the table of numbers ('.._ren') and one theorem, a field a fact of the dump's own or the kernel's comparison; each contract: ONE APPLICATION.
-/
import Derived.Shelf.Sort.Plain
import Derived.Shelf.Slices.In.SortNone
import Derived.Test.YthkoheaklmgonaaDoorProg
namespace Go.Proofs
open Go.Shelf
def Tryd.lays189_ren : Go.Shelf.Ren := ⟨fun | 189 => 92 | 125 => 116 | 257 => 115 | 128 => 139 | 129 => 129 | 294 => 130 | 295 => 131 | 296 => 132 | 297 => 133 | 298 => 134 | 299 => 135 | 216 => 136 | 300 => 137 | 301 => 138 | 328 => 140 | 329 => 141 | 330 => 142 | 331 => 143 | 332 => 144 | 215 => 145 | 343 => 146 | n => n, fun | 28 => 22 | 3 => 3 | 46 => 86 | 0 => 0 | 51 => 178 | 53 => 45 | 4 => 4 | 183 => 170 | 182 => 169 | 131 => 175 | 5 => 5 | 9 => 9 | 218 => 179 | 222 => 182 | 228 => 184 | 229 => 185 | n => n, fun | n => n⟩
theorem Tryd.lays189 : Go.Proofs.Lays.n189 Tryd.prog Tryd.lays189_ren := {
  mixed := by kernel_rfl
  f125 := Tryd.func116.trans (congrArg some (by kernel_rfl))
  f128 := Tryd.func139.trans (congrArg some (by kernel_rfl))
  f129 := Tryd.func129.trans (congrArg some (by kernel_rfl))
  f189 := Tryd.func92.trans (congrArg some (by kernel_rfl))
  f215 := Tryd.func145.trans (congrArg some (by kernel_rfl))
  f216 := Tryd.func136.trans (congrArg some (by kernel_rfl))
  f257 := Tryd.func115.trans (congrArg some (by kernel_rfl))
  f294 := Tryd.func130.trans (congrArg some (by kernel_rfl))
  f295 := Tryd.func131.trans (congrArg some (by kernel_rfl))
  f296 := Tryd.func132.trans (congrArg some (by kernel_rfl))
  f297 := Tryd.func133.trans (congrArg some (by kernel_rfl))
  f298 := Tryd.func134.trans (congrArg some (by kernel_rfl))
  f299 := Tryd.func135.trans (congrArg some (by kernel_rfl))
  f300 := Tryd.func137.trans (congrArg some (by kernel_rfl))
  f301 := Tryd.func138.trans (congrArg some (by kernel_rfl))
  f328 := Tryd.func140.trans (congrArg some (by kernel_rfl))
  f329 := Tryd.func141.trans (congrArg some (by kernel_rfl))
  f330 := Tryd.func142.trans (congrArg some (by kernel_rfl))
  f331 := Tryd.func143.trans (congrArg some (by kernel_rfl))
  f332 := Tryd.func144.trans (congrArg some (by kernel_rfl))
  f343 := Tryd.func146.trans (congrArg some (by kernel_rfl))
  t0 := Tryd.underlying0
  a0 := Tryd.isAgg0
  z0 := Tryd.sizeOf0
  v0 := Tryd.zeroValue0
  t3 := Tryd.underlying3
  a3 := Tryd.isAgg3
  z3 := Tryd.sizeOf3
  v3 := Tryd.zeroValue3
  t4 := Tryd.underlying4
  a4 := Tryd.isAgg4
  z4 := Tryd.sizeOf4
  v4 := Tryd.zeroValue4
  t5 := Tryd.underlying5
  a5 := Tryd.isAgg5
  z5 := Tryd.sizeOf5
  v5 := Tryd.zeroValue5
  t9 := Tryd.underlying9
  a9 := Tryd.isAgg9
  z9 := Tryd.sizeOf9
  v9 := Tryd.zeroValue9
  t28 := Tryd.underlying22
  a28 := Tryd.isAgg22
  z28 := Tryd.sizeOf22
  v28 := Tryd.zeroValue22
  t46 := Tryd.underlying86
  a46 := Tryd.isAgg86
  z46 := Tryd.sizeOf86
  v46 := Tryd.zeroValue86
  t51 := Tryd.underlying178
  a51 := Tryd.isAgg178
  z51 := Tryd.sizeOf178
  v51 := Tryd.zeroValue178
  t53 := Tryd.underlying45
  a53 := Tryd.isAgg45
  z53 := Tryd.sizeOf45
  v53 := Tryd.zeroValue45
  t131 := Tryd.underlying175
  a131 := Tryd.isAgg175
  z131 := Tryd.sizeOf175
  v131 := Tryd.zeroValue175
  t182 := Tryd.underlying169
  a182 := Tryd.isAgg169
  z182 := Tryd.sizeOf169
  v182 := Tryd.zeroValue169
  t183 := Tryd.underlying170
  a183 := Tryd.isAgg170
  z183 := Tryd.sizeOf170
  v183 := Tryd.zeroValue170
  t218 := Tryd.underlying179
  a218 := Tryd.isAgg179
  z218 := Tryd.sizeOf179
  v218 := Tryd.zeroValue179
  t222 := Tryd.underlying182
  a222 := Tryd.isAgg182
  z222 := Tryd.sizeOf182
  v222 := Tryd.zeroValue182
  t228 := Tryd.underlying184
  a228 := Tryd.isAgg184
  z228 := Tryd.sizeOf184
  v228 := Tryd.zeroValue184
  t229 := Tryd.underlying185
  a229 := Tryd.isAgg185
  z229 := Tryd.sizeOf185
  v229 := Tryd.zeroValue185 }
open Go.Sort Go.RowKit in
theorem Tryd.slices_Sort_int (blk off cap : Nat) (zs : List Int) (w : World) (hH : Holds (Value.int .i64) w blk off zs.toArray) (hblk : blk < w.heap.size) (hsz : zs.length < 4611686018427387904) :
    Calls Tryd.prog 92 #[.slice (some ⟨blk, off, none⟩) zs.length cap] w fun e w' =>
      e = .returned (.tuple #[]) ∧ ∃ n os, w' = grow (putRow (Value.int .i64) (Sort.ahead w n) blk off (zs.mergeSort fun x y => decide (x ≤ y)).toArray) os := Any.slices_Sort_int Tryd.lays189 blk off cap zs w hH hblk hsz
theorem Tryd.slices_Sort_int_none (p : Option Addr) (cap : Nat) (w : World) : Calls Tryd.prog 92 #[.slice p 0 cap] w fun e w' => e = .returned (.tuple #[]) ∧ w' = w := Any.slices_Sort_int_none Tryd.lays189 p cap w
end Go.Proofs
