/- slices.Sort and slices.Compact at ints: the library's contracts, laid at this program. -/
import Derived.Test.YtlgiijibekobfaaBas
import Derived.Shelf.Lay
import Derived.Shelf.Sort.Plain
import Derived.Ground.NamesProg
import Derived.Ground.Names2Prog
import Derived.Shelf.Slices.CompactI
namespace Go.Proofs.Ytlgiijibekobfaa
open Go.RowKit

def sortRen : Go.Shelf.Ren where
  f := fun x => match x with
    | 189 => 105
    | 125 => 114
    | 257 => 113
    | 128 => 124
    | 129 => 125
    | 294 => 115
    | 295 => 116
    | 296 => 117
    | 297 => 118
    | 298 => 119
    | 299 => 120
    | 216 => 121
    | 300 => 122
    | 301 => 123
    | 328 => 126
    | 329 => 127
    | 330 => 128
    | 331 => 129
    | 332 => 130
    | 215 => 131
    | 343 => 132
    | n => n
  t := fun x => match x with
    | 28 => 26
    | 3 => 3
    | 46 => 55
    | 0 => 0
    | 51 => 74
    | 53 => 76
    | 4 => 4
    | 183 => 88
    | 182 => 87
    | 131 => 92
    | 5 => 5
    | 9 => 9
    | 218 => 94
    | 222 => 98
    | 228 => 100
    | 229 => 101
    | n => n
  g := fun x => x
theorem laysSort : Go.Proofs.Lays.n189 Try.prog sortRen := by
  constructor
  all_goals first | kernel_rfl | (intro w; kernel_rfl)
theorem sort_any (blk off cap : Nat) (zs : List Int) (w : World) (hH : Go.Sort.Holds (Value.int .i64) w blk off zs.toArray) (hblk : blk < w.heap.size) (hsz : zs.length < 4611686018427387904) :
    Calls Try.prog 105 #[.slice (some ⟨blk, off, none⟩) zs.length cap] w fun e w' =>
      e = .returned (.tuple #[]) ∧ ∃ n os, w' = Go.Sort.grow (Go.Sort.putRow (Value.int .i64) (Go.Sort.ahead w n) blk off (zs.mergeSort fun x y => decide (x ≤ y)).toArray) os := Go.Proofs.Any.slices_Sort_int laysSort blk off cap zs w hH hblk hsz
def compactRen : Go.Shelf.Ren where
  f := fun x => match x with
    | 20 => 106
    | n => n
  t := fun x => match x with
    | 22 => 26
    | 3 => 3
    | 4 => 4
    | 0 => 0
    | n => n
  g := fun x => x
theorem laysCompact : Go.Proofs.Lays2.n20 Try.prog compactRen := by
  constructor
  all_goals first | kernel_rfl | (intro w; kernel_rfl)
theorem compact_any (blk off cap : Nat) (zs : List Int) (w : World) (hH : Go.Sort.Holds (Value.int .i64) w blk off zs.toArray) (hsz : zs.length ≤ 9223372036854775807) (hcap : zs.length ≤ cap) :
    Calls Try.prog 106 #[.slice (some ⟨blk, off, none⟩) zs.length cap] w fun e w' => e = .returned (.slice (some ⟨blk, off, none⟩) (Go.Lib.compact zs).length cap) ∧ ∃ q, w' = Go.Sort.putRow (Value.int .i64) (Go.Sort.ahead w q) blk off (Go.Lib.compact zs ++ List.replicate (zs.length - (Go.Lib.compact zs).length) 0).toArray := Go.Proofs.Any.slices_Compact_int laysCompact blk off cap zs w hH hsz hcap
end Go.Proofs.Ytlgiijibekobfaa
