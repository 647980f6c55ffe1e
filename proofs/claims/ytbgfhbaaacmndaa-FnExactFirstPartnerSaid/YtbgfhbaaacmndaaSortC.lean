/- slices.Sort and slices.Compact at ints: the library's contracts, laid at this program. -/
import Derived.Test.YtbgfhbaaacmndaaBas
import Derived.Shelf.Lay
import Derived.Shelf.Sort.Plain
import Derived.Ground.NamesProg
import Derived.Ground.Names2Prog
import Derived.Shelf.Slices.CompactI
namespace Go.Proofs.Ytbgfhbaaacmndaa
open Go.RowKit

def sortRen : Go.Shelf.Ren where
  f := fun x => match x with
    | 189 => 86
    | 125 => 99
    | 257 => 98
    | 128 => 117
    | 129 => 118
    | 294 => 108
    | 295 => 109
    | 296 => 110
    | 297 => 111
    | 298 => 112
    | 299 => 113
    | 216 => 114
    | 300 => 115
    | 301 => 116
    | 328 => 121
    | 329 => 122
    | 330 => 123
    | 331 => 124
    | 332 => 125
    | 215 => 126
    | 343 => 128
    | n => n
  t := fun x => match x with
    | 28 => 22
    | 3 => 3
    | 46 => 73
    | 0 => 0
    | 51 => 87
    | 53 => 89
    | 4 => 4
    | 183 => 80
    | 182 => 79
    | 131 => 84
    | 5 => 5
    | 9 => 9
    | 218 => 90
    | 222 => 94
    | 228 => 96
    | 229 => 97
    | n => n
  g := fun x => x
theorem laysSort : Go.Proofs.Lays.n189 Try.prog sortRen := by
  constructor
  all_goals first | kernel_rfl | (intro w; kernel_rfl)
theorem sort_any (blk off cap : Nat) (zs : List Int) (w : World) (hH : Go.Sort.Holds (Value.int .i64) w blk off zs.toArray) (hblk : blk < w.heap.size) (hsz : zs.length < 4611686018427387904) :
    Calls Try.prog 86 #[.slice (some ⟨blk, off, none⟩) zs.length cap] w fun e w' =>
      e = .returned (.tuple #[]) ∧ ∃ n os, w' = Go.Sort.grow (Go.Sort.putRow (Value.int .i64) (Go.Sort.ahead w n) blk off (zs.mergeSort fun x y => decide (x ≤ y)).toArray) os := Go.Proofs.Any.slices_Sort_int laysSort blk off cap zs w hH hblk hsz
def compactRen : Go.Shelf.Ren where
  f := fun x => match x with
    | 20 => 87
    | n => n
  t := fun x => match x with
    | 22 => 22
    | 3 => 3
    | 4 => 4
    | 0 => 0
    | n => n
  g := fun x => x
theorem laysCompact : Go.Proofs.Lays2.n20 Try.prog compactRen := by
  constructor
  all_goals first | kernel_rfl | (intro w; kernel_rfl)
theorem compact_any (blk off cap : Nat) (zs : List Int) (w : World) (hH : Go.Sort.Holds (Value.int .i64) w blk off zs.toArray) (hsz : zs.length ≤ 9223372036854775807) (hcap : zs.length ≤ cap) :
    Calls Try.prog 87 #[.slice (some ⟨blk, off, none⟩) zs.length cap] w fun e w' => e = .returned (.slice (some ⟨blk, off, none⟩) (Go.Lib.compact zs).length cap) ∧ ∃ q, w' = Go.Sort.putRow (Value.int .i64) (Go.Sort.ahead w q) blk off (Go.Lib.compact zs ++ List.replicate (zs.length - (Go.Lib.compact zs).length) 0).toArray := Go.Proofs.Any.slices_Compact_int laysCompact blk off cap zs w hH hsz hcap
end Go.Proofs.Ytbgfhbaaacmndaa
