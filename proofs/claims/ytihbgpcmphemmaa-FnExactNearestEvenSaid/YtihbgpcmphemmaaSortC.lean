/- slices.Sort and slices.Compact at ints: the library's contracts, laid at this program. -/
import Derived.Test.YtihbgpcmphemmaaBas
import Derived.Shelf.Lay
import Derived.Shelf.Sort.Plain
import Derived.Ground.NamesProg
import Derived.Ground.Names2Prog
import Derived.Shelf.Slices.CompactI
namespace Go.Proofs.Ytihbgpcmphemmaa
open Go.RowKit

def sortRen : Go.Shelf.Ren where
  f := fun x => match x with
    | 189 => 89
    | 125 => 96
    | 257 => 95
    | 128 => 106
    | 129 => 107
    | 294 => 97
    | 295 => 98
    | 296 => 99
    | 297 => 100
    | 298 => 101
    | 299 => 102
    | 216 => 103
    | 300 => 104
    | 301 => 105
    | 328 => 108
    | 329 => 109
    | 330 => 110
    | 331 => 111
    | 332 => 112
    | 215 => 113
    | 343 => 114
    | n => n
  t := fun x => match x with
    | 28 => 24
    | 3 => 3
    | 46 => 61
    | 0 => 0
    | 51 => 65
    | 53 => 67
    | 4 => 4
    | 183 => 71
    | 182 => 70
    | 131 => 75
    | 5 => 5
    | 9 => 9
    | 218 => 77
    | 222 => 81
    | 228 => 83
    | 229 => 84
    | n => n
  g := fun x => x
theorem laysSort : Go.Proofs.Lays.n189 Try.prog sortRen := by
  constructor
  all_goals first | kernel_rfl | (intro w; kernel_rfl)
theorem sort_any (blk off cap : Nat) (zs : List Int) (w : World) (hH : Go.Sort.Holds (Value.int .i64) w blk off zs.toArray) (hblk : blk < w.heap.size) (hsz : zs.length < 4611686018427387904) :
    Calls Try.prog 89 #[.slice (some ⟨blk, off, none⟩) zs.length cap] w fun e w' =>
      e = .returned (.tuple #[]) ∧ ∃ n os, w' = Go.Sort.grow (Go.Sort.putRow (Value.int .i64) (Go.Sort.ahead w n) blk off (zs.mergeSort fun x y => decide (x ≤ y)).toArray) os := Go.Proofs.Any.slices_Sort_int laysSort blk off cap zs w hH hblk hsz
def compactRen : Go.Shelf.Ren where
  f := fun x => match x with
    | 20 => 90
    | n => n
  t := fun x => match x with
    | 22 => 24
    | 3 => 3
    | 4 => 4
    | 0 => 0
    | n => n
  g := fun x => x
theorem laysCompact : Go.Proofs.Lays2.n20 Try.prog compactRen := by
  constructor
  all_goals first | kernel_rfl | (intro w; kernel_rfl)
theorem compact_any (blk off cap : Nat) (zs : List Int) (w : World) (hH : Go.Sort.Holds (Value.int .i64) w blk off zs.toArray) (hsz : zs.length ≤ 9223372036854775807) (hcap : zs.length ≤ cap) :
    Calls Try.prog 90 #[.slice (some ⟨blk, off, none⟩) zs.length cap] w fun e w' => e = .returned (.slice (some ⟨blk, off, none⟩) (Go.Lib.compact zs).length cap) ∧ ∃ q, w' = Go.Sort.putRow (Value.int .i64) (Go.Sort.ahead w q) blk off (Go.Lib.compact zs ++ List.replicate (zs.length - (Go.Lib.compact zs).length) 0).toArray := Go.Proofs.Any.slices_Compact_int laysCompact blk off cap zs w hH hsz hcap
end Go.Proofs.Ytihbgpcmphemmaa
