/- Numbers in ascending order, each once: the program's collected. -/
import Derived.Test.YtgfdmjhdfddopaaSortC
import Derived.Test.YtgfdmjhdfddopaaDvs
import Derived.Sort.OwnSortedInts
import Derived.Lib.RowBridge
namespace Go.Proofs.Ytgfdmjhdfddopaa
open Go.RowKit
set_option maxRecDepth 20000

theorem io_sorted {w : World} {base c g n : Nat} {xs ts : List Int} {os : Array Obj} (h : IO w base (some ⟨g, 0, none⟩) c xs) (hl : ts.length = xs.length) : IO (Go.Sort.grow (Go.Sort.putRow (Value.int .i64) (Go.Sort.ahead w n) g 0 ts.toArray) os) base (some ⟨g, 0, none⟩) c ts := by
  obtain ⟨hg, cur, hh, hs, ht⟩ := h.blkAt
  have h1 := h.1
  refine ⟨by omega, by have := h.2.1; omega, .inr ⟨g, _, rfl, hg, heap_sortedI _ hh, by simpa [Go.Sort.putCells] using hs, ?_⟩⟩
  exact take_putCellsI cur ts (by omega)
theorem below_sorted {w : World} {base g n : Nat} {os : Array Obj} (d : Array Int) (hb : base ≤ w.heap.size) (hg : base ≤ g) : Below base w (Go.Sort.grow (Go.Sort.putRow (Value.int .i64) (Go.Sort.ahead w n) g 0 d) os) :=
  (Below.refl base w).grown (grownBy_sortedI d) hb (fun k hk => by injection hk with hk; omega)
theorem holds_io {w : World} {base c g : Nat} {xs : List Int} (h : IO w base (some ⟨g, 0, none⟩) c xs) : Go.Sort.Holds (Value.int .i64) w g 0 xs.toArray := by
  obtain ⟨hg, cur, hh, hs, ht⟩ := h.blkAt
  exact holds_of_blockI hh ht
def srt (xs : List Int) : List Int := xs.mergeSort fun x y => decide (x ≤ y)
def coll (xs : List Int) : List Int := Go.Lib.compact (srt xs)
theorem srt_len (xs : List Int) : (srt xs).length = xs.length := List.length_mergeSort _
theorem coll_len (xs : List Int) : (coll xs).length ≤ xs.length := by
  unfold coll
  exact Nat.le_trans (Go.Lib.compact_length_le _) (Nat.le_of_eq (srt_len xs))
theorem sort_io (g c base : Nat) (xs : List Int) (w : World) (hx : IO w base (some ⟨g, 0, none⟩) c xs) (hb : base ≤ w.heap.size) (hl : xs.length ≤ 1000000) :
    Calls Try.prog 89 #[.slice (some ⟨g, 0, none⟩) xs.length c] w fun e w' => e = .returned (.tuple #[]) ∧ IO w' base (some ⟨g, 0, none⟩) c (srt xs) ∧ Below base w w' := by
  refine (sort_any g 0 c xs w (holds_io hx) hx.ltAt (by omega)).mono ?_
  rintro e w' ⟨rfl, n, os, rfl⟩
  exact ⟨rfl, io_sorted hx (srt_len xs), below_sorted _ hb (hx.ge _ rfl)⟩
theorem compact_io (g c base : Nat) (xs : List Int) (w : World) (hx : IO w base (some ⟨g, 0, none⟩) c xs) (hb : base ≤ w.heap.size) (hl : xs.length ≤ 1000000) :
    Calls Try.prog 90 #[.slice (some ⟨g, 0, none⟩) xs.length c] w fun e w' => e = .returned (.slice (some ⟨g, 0, none⟩) (Go.Lib.compact xs).length c) ∧ IO w' base (some ⟨g, 0, none⟩) c (Go.Lib.compact xs) ∧ Below base w w' := by
  refine (compact_any g 0 c xs w (holds_io hx) (by omega) hx.1).mono ?_
  rintro e w' ⟨rfl, q, rfl⟩
  have hle := Go.Lib.compact_length_le xs
  have h1 := io_sorted (n := q) (os := #[]) (ts := Go.Lib.compact xs ++ List.replicate (xs.length - (Go.Lib.compact xs).length) 0) hx (by simp; omega)
  have h2 := below_sorted (w := w) (n := q) (os := #[]) (g := g) (base := base) (Go.Lib.compact xs ++ List.replicate (xs.length - (Go.Lib.compact xs).length) 0).toArray hb (hx.ge _ rfl)
  rw [Go.Sort.grow_empty] at h1 h2
  refine ⟨rfl, ?_, h2⟩
  have h3 := h1.take (n := (Go.Lib.compact xs).length) (c' := c) (by have := hx.1; omega) (Nat.le_refl _)
  rwa [List.take_left] at h3
set_option maxHeartbeats 400000 in
theorem collected_some (b p c : Nat) (xs : List Int) (w : World) (hx : IR w (some ⟨b, p, none⟩) xs) (hl : xs.length ≤ 1000000) :
    Calls Try.prog 86 #[.slice (some ⟨b, p, none⟩) xs.length c] w (GivesIS w (coll xs)) := by
  go_enter Try.func86, Try.ntmps86
  go_wp2_with fail
  refine (clone_some _ _ _ _ _ (by exact hx) hl).mono ?_
  rintro e w1 ⟨g, c1, rfl, io1, b1⟩
  have hz1 := b1.size
  have HI1 := Bx.mk io1
  have HB1 := Bx.mk b1
  clear io1 b1 hx
  go_wp2_with fail
  refine (sort_io g c1 w.heap.size xs w1 HI1.out hz1 hl).mono ?_
  rintro e w2 ⟨rfl, io2, b2⟩
  have hsl := srt_len xs
  obtain ⟨ys, hys⟩ : ∃ ys, ys = srt xs := ⟨_, rfl⟩
  have HR : Bx (coll xs = Go.Lib.compact ys) := ⟨by rw [hys]; rfl⟩
  have hyl : ys.length = xs.length := by rw [hys]; exact hsl
  rw [← hys] at io2
  have HI2 := Bx.mk io2
  have hz2 := b2.size
  have HB2 := Bx.mk (HB1.out.trans b2)
  have hyl2 : ys.length ≤ 1000000 := by omega
  have hcc := compact_io g c1 w.heap.size ys w2 HI2.out (by omega) hyl2
  rw [hyl] at hcc
  have HCC := Bx.mk hcc
  clear io2 b2 hys hsl hcc hyl
  go_wp2_with fail
  refine HCC.out.mono ?_
  rintro e w3 ⟨rfl, io3, b3⟩
  rw [← HR.out] at io3 ⊢
  go_wp2_with fail
  go_ret
  exact ⟨g, c1, rfl, io3, HB2.out.trans b3⟩
end Go.Proofs.Ytgfdmjhdfddopaa
