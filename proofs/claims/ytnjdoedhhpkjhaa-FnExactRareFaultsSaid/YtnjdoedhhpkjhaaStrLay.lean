/-
  The shelf's sort.Strings laid at this program, in plain words (printed by the kit's lay-plain tool).
-/
import Derived.Shelf.Sort.Plain
import Derived.Shelf.Slices.In.SortNone2
import Derived.Test.YtnjdoedhhpkjhaaSlS
namespace Go.Proofs.Ytnjdoedhhpkjhaa
open Go.Shelf
def ss_ren : Go.Shelf.Ren := ⟨fun | 192 => 46 | 190 => 72 | 125 => 77 | 258 => 98 | 128 => 107 | 129 => 108 | 302 => 123 | 303 => 124 | 304 => 125 | 305 => 126 | 306 => 127 | 307 => 128 | 308 => 129 | 309 => 130 | 310 => 131 | 333 => 142 | 329 => 143 | 330 => 144 | 334 => 145 | 335 => 146 | 336 => 147 | 344 => 151 | n => n, fun | 31 => 34 | 0 => 0 | 9 => 9 | 3 => 3 | 46 => 122 | 51 => 142 | 53 => 144 | 4 => 4 | 183 => 164 | 182 => 163 | 131 => 150 | 5 => 5 | 218 => 176 | 222 => 173 | 228 => 184 | 229 => 180 | n => n, fun | n => n⟩
theorem ss_lays : Go.Proofs.Lays.n192 Try.prog ss_ren := {
  mixed := by kernel_rfl
  f125 := Try.func77.trans (congrArg some (by kernel_rfl))
  f128 := Try.func107.trans (congrArg some (by kernel_rfl))
  f129 := Try.func108.trans (congrArg some (by kernel_rfl))
  f190 := Try.func72.trans (congrArg some (by kernel_rfl))
  f192 := Try.func46.trans (congrArg some (by kernel_rfl))
  f258 := Try.func98.trans (congrArg some (by kernel_rfl))
  f302 := Try.func123.trans (congrArg some (by kernel_rfl))
  f303 := Try.func124.trans (congrArg some (by kernel_rfl))
  f304 := Try.func125.trans (congrArg some (by kernel_rfl))
  f305 := Try.func126.trans (congrArg some (by kernel_rfl))
  f306 := Try.func127.trans (congrArg some (by kernel_rfl))
  f307 := Try.func128.trans (congrArg some (by kernel_rfl))
  f308 := Try.func129.trans (congrArg some (by kernel_rfl))
  f309 := Try.func130.trans (congrArg some (by kernel_rfl))
  f310 := Try.func131.trans (congrArg some (by kernel_rfl))
  f329 := Try.func143.trans (congrArg some (by kernel_rfl))
  f330 := Try.func144.trans (congrArg some (by kernel_rfl))
  f333 := Try.func142.trans (congrArg some (by kernel_rfl))
  f334 := Try.func145.trans (congrArg some (by kernel_rfl))
  f335 := Try.func146.trans (congrArg some (by kernel_rfl))
  f336 := Try.func147.trans (congrArg some (by kernel_rfl))
  f344 := Try.func151.trans (congrArg some (by kernel_rfl))
  t0 := Try.underlying0
  a0 := Try.isAgg0
  z0 := Try.sizeOf0
  v0 := Try.zeroValue0
  t3 := Try.underlying3
  a3 := Try.isAgg3
  z3 := Try.sizeOf3
  v3 := Try.zeroValue3
  t4 := Try.underlying4
  a4 := Try.isAgg4
  z4 := Try.sizeOf4
  v4 := Try.zeroValue4
  t5 := Try.underlying5
  a5 := Try.isAgg5
  z5 := Try.sizeOf5
  v5 := Try.zeroValue5
  t9 := Try.underlying9
  a9 := Try.isAgg9
  z9 := Try.sizeOf9
  v9 := Try.zeroValue9
  t31 := Try.underlying34
  a31 := Try.isAgg34
  z31 := Try.sizeOf34
  v31 := Try.zeroValue34
  t46 := Try.underlying122
  a46 := Try.isAgg122
  z46 := Try.sizeOf122
  v46 := Try.zeroValue122
  t51 := Try.underlying142
  a51 := Try.isAgg142
  z51 := Try.sizeOf142
  v51 := Try.zeroValue142
  t53 := Try.underlying144
  a53 := Try.isAgg144
  z53 := Try.sizeOf144
  v53 := Try.zeroValue144
  t131 := Try.underlying150
  a131 := Try.isAgg150
  z131 := Try.sizeOf150
  v131 := Try.zeroValue150
  t182 := Try.underlying163
  a182 := Try.isAgg163
  z182 := Try.sizeOf163
  v182 := Try.zeroValue163
  t183 := Try.underlying164
  a183 := Try.isAgg164
  z183 := Try.sizeOf164
  v183 := Try.zeroValue164
  t218 := Try.underlying176
  a218 := Try.isAgg176
  z218 := Try.sizeOf176
  v218 := Try.zeroValue176
  t222 := Try.underlying173
  a222 := Try.isAgg173
  z222 := Try.sizeOf173
  v222 := Try.zeroValue173
  t228 := Try.underlying184
  a228 := Try.isAgg184
  z228 := Try.sizeOf184
  v228 := Try.zeroValue184
  t229 := Try.underlying180
  a229 := Try.isAgg180
  z229 := Try.sizeOf180
  v229 := Try.zeroValue180 }
open Go.Sort Go.RowKit in
theorem shSort (blk off cap : Nat) (ss : List (List UInt8)) (w : World) (hH : Holds encStr w blk off ss.toArray) (hblk : blk < w.heap.size) (hsz : ss.length < 4611686018427387904) :
    Calls Try.prog 46 #[.slice (some ⟨blk, off, none⟩) ss.length cap] w fun e w' =>
      e = .returned (.tuple #[]) ∧ ∃ n os, w' = grow (putRow encStr (Sort.ahead w n) blk off (ss.mergeSort fun x y => decide (x ≤ y)).toArray) os := Any.sort_Strings ss_lays blk off cap ss w hH hblk hsz
open Go.RowKit Go.Sort in
/-- .. and plain. (LAID: no walk: one application.) -/
theorem shSort_none (p : Option Addr) (cap : Nat) (w : World) :
    Calls Try.prog 46 #[.slice p 0 cap] w fun e w' => e = .returned (.tuple #[]) ∧ w' = w := Any.sort_Strings_none ss_lays p cap w
end Go.Proofs.Ytnjdoedhhpkjhaa
