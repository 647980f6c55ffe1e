/- slices.Sort and slices.Compact at ints: the library's contracts, laid at this program. -/
import Derived.Test.YtgfdmjhdfddopaaBas
import Derived.Shelf.Lay
import Derived.Shelf.Sort.Plain
import Derived.Ground.NamesProg
import Derived.Ground.Names2Prog
import Derived.Shelf.Slices.CompactI
namespace Go.Proofs.Ytgfdmjhdfddopaa
open Go.RowKit
set_option maxRecDepth 20000

def sortRen : Go.Shelf.Ren where
  f := fun x => match x with
    | 189 => 89
    | 125 => 92
    | 257 => 91
    | 128 => 102
    | 129 => 103
    | 294 => 93
    | 295 => 94
    | 296 => 95
    | 297 => 96
    | 298 => 97
    | 299 => 98
    | 216 => 99
    | 300 => 100
    | 301 => 101
    | 328 => 104
    | 329 => 105
    | 330 => 106
    | 331 => 107
    | 332 => 108
    | 215 => 109
    | 343 => 110
    | n => n
  t := fun x => match x with
    | 28 => 23
    | 3 => 3
    | 46 => 77
    | 0 => 0
    | 51 => 86
    | 53 => 88
    | 4 => 4
    | 183 => 95
    | 182 => 94
    | 131 => 47
    | 5 => 5
    | 9 => 9
    | 218 => 100
    | 222 => 104
    | 228 => 106
    | 229 => 107
    | n => n
  g := fun x => x
theorem laysSort : Go.Proofs.Lays.n189 Try.prog sortRen := by
  constructor
  all_goals first | kernel_rfl | (intro w; kernel_rfl)
theorem sort_any (blk off cap : Nat) (zs : List Int) (w : World) (hH : Go.Sort.Holds (Value.int .i64) w blk off zs.toArray) (hblk : blk < w.heap.size) (hsz : zs.length < 4611686018427387904) :
    Calls Try.prog 89 #[.slice (some ⟨blk, off, none⟩) zs.length cap] w fun e w' =>
      e = .returned (.tuple #[]) ∧ ∃ n os, w' = Go.Sort.grow (Go.Sort.putRow (Value.int .i64) (Go.Sort.ahead w n) blk off (zs.mergeSort fun x y => decide (x ≤ y)).toArray) os := Go.Proofs.Any.slices_Sort_int laysSort blk off cap zs w hH hblk hsz
def compactRen : Go.Shelf.Ren where
  f := fun x => match x with
    | 20 => 90
    | n => n
  t := fun x => match x with
    | 22 => 23
    | 3 => 3
    | 4 => 4
    | 0 => 0
    | n => n
  g := fun x => x
theorem laysCompact : Go.Proofs.Lays2.n20 Try.prog compactRen := by
  constructor
  all_goals first | kernel_rfl | (intro w; kernel_rfl)
theorem compact_any (blk off cap : Nat) (zs : List Int) (w : World) (hH : Go.Sort.Holds (Value.int .i64) w blk off zs.toArray) (hsz : zs.length ≤ 9223372036854775807) (hcap : zs.length ≤ cap) :
    Calls Try.prog 90 #[.slice (some ⟨blk, off, none⟩) zs.length cap] w fun e w' => e = .returned (.slice (some ⟨blk, off, none⟩) (Go.Lib.compact zs).length cap) ∧ ∃ q, w' = Go.Sort.putRow (Value.int .i64) (Go.Sort.ahead w q) blk off (Go.Lib.compact zs ++ List.replicate (zs.length - (Go.Lib.compact zs).length) 0).toArray := Go.Proofs.Any.slices_Compact_int laysCompact blk off cap zs w hH hsz hcap
end Go.Proofs.Ytgfdmjhdfddopaa
