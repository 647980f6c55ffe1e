/- slices.Sort and slices.Compact at ints: the library's contracts, laid at this program. -/
import Derived.Test.YtbfaagdcifpcgaaGreatDoorBas
import Derived.Shelf.Lay
import Derived.Shelf.Sort.Plain
import Derived.Ground.NamesProg
import Derived.Ground.Names2Prog
import Derived.Shelf.Slices.CompactI
namespace Go.Proofs.YtbfaagdcifpcgaaGreatDoor
open Go.RowKit
set_option maxRecDepth 20000

def sortRen : Go.Shelf.Ren where
  f := fun x => match x with
    | 189 => 50
    | 125 => 64
    | 257 => 63
    | 128 => 83
    | 129 => 84
    | 294 => 74
    | 295 => 75
    | 296 => 76
    | 297 => 77
    | 298 => 78
    | 299 => 79
    | 216 => 80
    | 300 => 81
    | 301 => 82
    | 328 => 92
    | 329 => 93
    | 330 => 94
    | 331 => 95
    | 332 => 96
    | 215 => 97
    | 343 => 104
    | n => n
  t := fun x => match x with
    | 28 => 23
    | 3 => 3
    | 46 => 69
    | 0 => 0
    | 51 => 98
    | 53 => 100
    | 4 => 4
    | 183 => 91
    | 182 => 90
    | 131 => 95
    | 5 => 5
    | 9 => 9
    | 218 => 109
    | 222 => 113
    | 228 => 121
    | 229 => 122
    | n => n
  g := fun x => x
theorem laysSort : Go.Proofs.Lays.n189 Tryz.prog sortRen := by
  constructor
  all_goals first | kernel_rfl | (intro w; kernel_rfl)
theorem sort_any (blk off cap : Nat) (zs : List Int) (w : World) (hH : Go.Sort.Holds (Value.int .i64) w blk off zs.toArray) (hblk : blk < w.heap.size) (hsz : zs.length < 4611686018427387904) :
    Calls Tryz.prog 50 #[.slice (some ⟨blk, off, none⟩) zs.length cap] w fun e w' =>
      e = .returned (.tuple #[]) ∧ ∃ n os, w' = Go.Sort.grow (Go.Sort.putRow (Value.int .i64) (Go.Sort.ahead w n) blk off (zs.mergeSort fun x y => decide (x ≤ y)).toArray) os := Go.Proofs.Any.slices_Sort_int laysSort blk off cap zs w hH hblk hsz
def compactRen : Go.Shelf.Ren where
  f := fun x => match x with
    | 20 => 51
    | n => n
  t := fun x => match x with
    | 22 => 23
    | 3 => 3
    | 4 => 4
    | 0 => 0
    | n => n
  g := fun x => x
theorem laysCompact : Go.Proofs.Lays2.n20 Tryz.prog compactRen := by
  constructor
  all_goals first | kernel_rfl | (intro w; kernel_rfl)
theorem compact_any (blk off cap : Nat) (zs : List Int) (w : World) (hH : Go.Sort.Holds (Value.int .i64) w blk off zs.toArray) (hsz : zs.length ≤ 9223372036854775807) (hcap : zs.length ≤ cap) :
    Calls Tryz.prog 51 #[.slice (some ⟨blk, off, none⟩) zs.length cap] w fun e w' => e = .returned (.slice (some ⟨blk, off, none⟩) (Go.Lib.compact zs).length cap) ∧ ∃ q, w' = Go.Sort.putRow (Value.int .i64) (Go.Sort.ahead w q) blk off (Go.Lib.compact zs ++ List.replicate (zs.length - (Go.Lib.compact zs).length) 0).toArray := Go.Proofs.Any.slices_Compact_int laysCompact blk off cap zs w hH hsz hcap
end Go.Proofs.YtbfaagdcifpcgaaGreatDoor
