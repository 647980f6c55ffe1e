/- Words that many parts of the proof share. -/
import Derived.Test.YtpejnhcmelkmeaaBas
import Derived.Test.YtpejnhcmelkmeaaDvs
import Derived.Test.YtpejnhcmelkmeaaTls
import Derived.Shelf.Lay
import Derived.Shelf.Sort.Plain
import Derived.Ground.NamesProg
import Derived.Ground.Names2Prog
import Derived.Shelf.Slices.CompactI
import Derived.Sort.OwnSortedInts
import Derived.Lib.RowBridge
import Derived.Shelf.Slices.In.SortNone
import Derived.Deep.RegionHeld3
import Derived.Deep.DeepCutAuto
import Derived.Deep.RegionWith
namespace Go.Proofs.Ytpejnhcmelkmeaa
open Go.RowKit

/- slices.Sort and slices.Compact at ints: the library's contracts, laid at this program. -/
def sortRen : Go.Shelf.Ren where
  f := fun x => match x with
    | 189 => 50
    | 125 => 58
    | 257 => 57
    | 128 => 68
    | 129 => 69
    | 294 => 59
    | 295 => 60
    | 296 => 61
    | 297 => 62
    | 298 => 63
    | 299 => 64
    | 216 => 65
    | 300 => 66
    | 301 => 67
    | 328 => 70
    | 329 => 71
    | 330 => 72
    | 331 => 73
    | 332 => 74
    | 215 => 75
    | 343 => 76
    | n => n
  t := fun x => match x with
    | 28 => 24
    | 3 => 3
    | 46 => 55
    | 0 => 0
    | 51 => 77
    | 53 => 79
    | 4 => 4
    | 183 => 69
    | 182 => 68
    | 131 => 74
    | 5 => 5
    | 9 => 9
    | 218 => 80
    | 222 => 84
    | 228 => 86
    | 229 => 87
    | n => n
  g := fun x => x
theorem laysSort : Go.Proofs.Lays.n189 Try.prog sortRen := by
  constructor
  all_goals first | kernel_rfl | (intro w; kernel_rfl)
theorem sort_any (blk off cap : Nat) (zs : List Int) (w : World) (hH : Go.Sort.Holds (Value.int .i64) w blk off zs.toArray) (hblk : blk < w.heap.size) (hsz : zs.length < 4611686018427387904) :
    Calls Try.prog 50 #[.slice (some ⟨blk, off, none⟩) zs.length cap] w fun e w' =>
      e = .returned (.tuple #[]) ∧ ∃ n os, w' = Go.Sort.grow (Go.Sort.putRow (Value.int .i64) (Go.Sort.ahead w n) blk off (zs.mergeSort fun x y => decide (x ≤ y)).toArray) os := Go.Proofs.Any.slices_Sort_int laysSort blk off cap zs w hH hblk hsz
def compactRen : Go.Shelf.Ren where
  f := fun x => match x with
    | 20 => 51
    | n => n
  t := fun x => match x with
    | 22 => 24
    | 3 => 3
    | 4 => 4
    | 0 => 0
    | n => n
  g := fun x => x
theorem laysCompact : Go.Proofs.Lays2.n20 Try.prog compactRen := by
  constructor
  all_goals first | kernel_rfl | (intro w; kernel_rfl)
theorem compact_any (blk off cap : Nat) (zs : List Int) (w : World) (hH : Go.Sort.Holds (Value.int .i64) w blk off zs.toArray) (hsz : zs.length ≤ 9223372036854775807) (hcap : zs.length ≤ cap) :
    Calls Try.prog 51 #[.slice (some ⟨blk, off, none⟩) zs.length cap] w fun e w' => e = .returned (.slice (some ⟨blk, off, none⟩) (Go.Lib.compact zs).length cap) ∧ ∃ q, w' = Go.Sort.putRow (Value.int .i64) (Go.Sort.ahead w q) blk off (Go.Lib.compact zs ++ List.replicate (zs.length - (Go.Lib.compact zs).length) 0).toArray := Go.Proofs.Any.slices_Compact_int laysCompact blk off cap zs w hH hsz hcap

/- Numbers in ascending order, each once: the program's collected. -/
theorem io_sorted {w : World} {base c g n : Nat} {xs ts : List Int} {os : Array Obj} (h : IO w base (some ⟨g, 0, none⟩) c xs) (hl : ts.length = xs.length) : IO (Go.Sort.grow (Go.Sort.putRow (Value.int .i64) (Go.Sort.ahead w n) g 0 ts.toArray) os) base (some ⟨g, 0, none⟩) c ts := by
  obtain ⟨hg, cur, hh, hs, ht⟩ := h.blkAt
  have h1 := h.1
  refine ⟨by omega, by have := h.2.1; omega, .inr ⟨g, _, rfl, hg, heap_sortedI _ hh, by simpa [Go.Sort.putCells] using hs, ?_⟩⟩
  exact take_putCellsI cur ts (by omega)
theorem below_sorted {w : World} {base g n : Nat} {os : Array Obj} (d : Array Int) (hb : base ≤ w.heap.size) (hg : base ≤ g) : Below base w (Go.Sort.grow (Go.Sort.putRow (Value.int .i64) (Go.Sort.ahead w n) g 0 d) os) :=
  (Below.refl base w).grown (grownBy_sortedI d) hb (fun k hk => by injection hk with hk; omega)
theorem holds_io {w : World} {base c g : Nat} {xs : List Int} (h : IO w base (some ⟨g, 0, none⟩) c xs) : Go.Sort.Holds (Value.int .i64) w g 0 xs.toArray := by
  obtain ⟨hg, cur, hh, hs, ht⟩ := h.blkAt
  exact holds_of_blockI hh ht
def srt (xs : List Int) : List Int := xs.mergeSort fun x y => decide (x ≤ y)
def coll (xs : List Int) : List Int := Go.Lib.compact (srt xs)
theorem srt_len (xs : List Int) : (srt xs).length = xs.length := List.length_mergeSort _
theorem coll_len (xs : List Int) : (coll xs).length ≤ xs.length := by
  unfold coll
  exact Nat.le_trans (Go.Lib.compact_length_le _) (Nat.le_of_eq (srt_len xs))
theorem sort_io (g c base : Nat) (xs : List Int) (w : World) (hx : IO w base (some ⟨g, 0, none⟩) c xs) (hb : base ≤ w.heap.size) (hl : xs.length ≤ 1000000) :
    Calls Try.prog 50 #[.slice (some ⟨g, 0, none⟩) xs.length c] w fun e w' => e = .returned (.tuple #[]) ∧ IO w' base (some ⟨g, 0, none⟩) c (srt xs) ∧ Below base w w' := by
  refine (sort_any g 0 c xs w (holds_io hx) hx.ltAt (by omega)).mono ?_
  rintro e w' ⟨rfl, n, os, rfl⟩
  exact ⟨rfl, io_sorted hx (srt_len xs), below_sorted _ hb (hx.ge _ rfl)⟩
theorem compact_io (g c base : Nat) (xs : List Int) (w : World) (hx : IO w base (some ⟨g, 0, none⟩) c xs) (hb : base ≤ w.heap.size) (hl : xs.length ≤ 1000000) :
    Calls Try.prog 51 #[.slice (some ⟨g, 0, none⟩) xs.length c] w fun e w' => e = .returned (.slice (some ⟨g, 0, none⟩) (Go.Lib.compact xs).length c) ∧ IO w' base (some ⟨g, 0, none⟩) c (Go.Lib.compact xs) ∧ Below base w w' := by
  refine (compact_any g 0 c xs w (holds_io hx) (by omega) hx.1).mono ?_
  rintro e w' ⟨rfl, q, rfl⟩
  have hle := Go.Lib.compact_length_le xs
  have h1 := io_sorted (n := q) (os := #[]) (ts := Go.Lib.compact xs ++ List.replicate (xs.length - (Go.Lib.compact xs).length) 0) hx (by simp; omega)
  have h2 := below_sorted (w := w) (n := q) (os := #[]) (g := g) (base := base) (Go.Lib.compact xs ++ List.replicate (xs.length - (Go.Lib.compact xs).length) 0).toArray hb (hx.ge _ rfl)
  rw [Go.Sort.grow_empty] at h1 h2
  refine ⟨rfl, ?_, h2⟩
  have h3 := h1.take (n := (Go.Lib.compact xs).length) (c' := c) (by have := hx.1; omega) (Nat.le_refl _)
  rwa [List.take_left] at h3
set_option maxHeartbeats 400000 in
theorem collected_some (b p c : Nat) (xs : List Int) (w : World) (hx : IR w (some ⟨b, p, none⟩) xs) (hl : xs.length ≤ 1000000) :
    Calls Try.prog 38 #[.slice (some ⟨b, p, none⟩) xs.length c] w (GivesIS w (coll xs)) := by
  go_enter Try.func38, Try.ntmps38
  go_wp2_with fail
  refine (clone_some _ _ _ _ _ (by exact hx) hl).mono ?_
  rintro e w1 ⟨g, c1, rfl, io1, b1⟩
  have hz1 := b1.size
  have HI1 := Bx.mk io1
  have HB1 := Bx.mk b1
  clear io1 b1 hx
  go_wp2_with fail
  refine (sort_io g c1 w.heap.size xs w1 HI1.out hz1 hl).mono ?_
  rintro e w2 ⟨rfl, io2, b2⟩
  have hsl := srt_len xs
  obtain ⟨ys, hys⟩ : ∃ ys, ys = srt xs := ⟨_, rfl⟩
  have HR : Bx (coll xs = Go.Lib.compact ys) := ⟨by rw [hys]; rfl⟩
  have hyl : ys.length = xs.length := by rw [hys]; exact hsl
  rw [← hys] at io2
  have HI2 := Bx.mk io2
  have hz2 := b2.size
  have HB2 := Bx.mk (HB1.out.trans b2)
  have hyl2 : ys.length ≤ 1000000 := by omega
  have hcc := compact_io g c1 w.heap.size ys w2 HI2.out (by omega) hyl2
  rw [hyl] at hcc
  have HCC := Bx.mk hcc
  clear io2 b2 hys hsl hcc hyl
  go_wp2_with fail
  refine HCC.out.mono ?_
  rintro e w3 ⟨rfl, io3, b3⟩
  rw [← HR.out] at io3 ⊢
  go_wp2_with fail
  go_ret
  exact ⟨g, c1, rfl, io3, HB2.out.trans b3⟩

/- Numbers in ascending order, each once: which they are. -/
theorem arr_at {zs : List Int} {m : Nat} (h : m < zs.length) : zs.toArray[m]! = zs[m] := by
  simp [h]
theorem compact_spec {zs : List Int} (hs : zs.Pairwise (· ≤ ·)) : ∀ m, m ≤ zs.length → (Go.Lib.compactUpTo zs.toArray m).Pairwise (· < ·) ∧ ∀ x, x ∈ Go.Lib.compactUpTo zs.toArray m ↔ x ∈ zs.take m := by
  intro m
  induction m with
  | zero => intro _; simp [Go.Lib.compactUpTo]
  | succ m ih =>
    intro hm
    obtain ⟨h1, h2⟩ := ih (by omega)
    have hml : m < zs.length := hm
    have hz : zs[m]? = some zs[m] := List.getElem?_eq_getElem hml
    rw [Go.Lib.compactUpTo_succ, List.take_add_one, hz, Option.toList_some]
    by_cases hk : Go.Lib.keeps zs.toArray m = true
    · rw [if_pos hk, arr_at hml]
      refine ⟨List.pairwise_append.2 ⟨h1, by simp, fun a ha b hb => ?_⟩, fun x => by rw [List.mem_append, List.mem_append, h2 x]⟩
      simp only [List.mem_singleton] at hb
      subst hb
      obtain ⟨j, hj, rfl⟩ := List.getElem_of_mem ((h2 a).1 ha)
      rw [List.length_take] at hj
      rw [List.getElem_take]
      have hjm : j < m := by omega
      have hk2 : m = 0 ∨ zs.toArray[m]! ≠ zs.toArray[m - 1]! := by simpa [Go.Lib.keeps] using hk
      have hne : zs[m] ≠ zs[m - 1] := by
        rcases hk2 with h0 | h0
        · omega
        · rwa [arr_at hml, arr_at (show m - 1 < zs.length by omega)] at h0
      have hp := List.pairwise_iff_getElem.1 hs
      have c1 : zs[m - 1] ≤ zs[m] := hp (m - 1) m (by omega) hml (by omega)
      have c2 : zs[j] ≤ zs[m - 1] := by
        by_cases e : j = m - 1
        · subst e; exact Int.le_refl _
        · exact hp j (m - 1) (by omega) (by omega) (by omega)
      omega
    · rw [if_neg hk, List.append_nil]
      refine ⟨h1, fun x => ?_⟩
      rw [h2 x, List.mem_append, List.mem_singleton]
      constructor
      · exact .inl
      · rintro (h | h)
        · exact h
        · have hk2 : ¬ (m = 0 ∨ zs.toArray[m]! ≠ zs.toArray[m - 1]!) := fun h0 => hk (by simpa [Go.Lib.keeps] using h0)
          have h0 : m ≠ 0 := fun e => hk2 (.inl e)
          have he : zs.toArray[m]! = zs.toArray[m - 1]! := by
            by_cases e : zs.toArray[m]! = zs.toArray[m - 1]!
            · exact e
            · exact absurd (.inr e) hk2
          rw [arr_at hml, arr_at (show m - 1 < zs.length by omega)] at he
          rw [h, he]
          have : (zs.take m)[m - 1]? = some zs[m - 1] := by rw [List.getElem?_take_of_lt (by omega)]; exact List.getElem?_eq_getElem _
          exact List.mem_of_getElem? this
theorem asc_ext : ∀ {xs ys : List Int}, xs.Pairwise (· < ·) → ys.Pairwise (· < ·) → (∀ x, x ∈ xs ↔ x ∈ ys) → xs = ys
  | [], [], _, _, _ => rfl
  | [], y :: r, _, _, h => absurd ((h y).2 List.mem_cons_self) (by simp)
  | x :: r, [], _, _, h => absurd ((h x).1 List.mem_cons_self) (by simp)
  | x :: r, y :: q, hx, hy, h => by
    rw [List.pairwise_cons] at hx hy
    have e : x = y := by
      have h1 := (h x).1 List.mem_cons_self
      have h2 := (h y).2 List.mem_cons_self
      rcases List.mem_cons.1 h1 with h1 | h1
      · exact h1
      · rcases List.mem_cons.1 h2 with h2 | h2
        · exact h2.symm
        · have := hx.1 y h2; have := hy.1 x h1; omega
    subst e
    rw [asc_ext hx.2 hy.2 fun z => ?_]
    constructor
    · intro hz
      have := hx.1 z hz
      rcases List.mem_cons.1 ((h z).1 (List.mem_cons_of_mem _ hz)) with e | e
      · omega
      · exact e
    · intro hz
      have := hy.1 z hz
      rcases List.mem_cons.1 ((h z).2 (List.mem_cons_of_mem _ hz)) with e | e
      · omega
      · exact e
theorem srt_asc (xs : List Int) : (srt xs).Pairwise (· ≤ ·) := by
  have := List.pairwise_mergeSort (le := fun x y : Int => decide (x ≤ y)) (by intro a b c h1 h2; simp at *; omega) (by intro a b; simp; omega) xs
  unfold srt
  exact this.imp (fun h => by simpa using h)
theorem coll_asc (xs : List Int) : (coll xs).Pairwise (· < ·) := (compact_spec (srt_asc xs) _ (Nat.le_refl _)).1
theorem coll_mem (xs : List Int) (x : Int) : x ∈ coll xs ↔ x ∈ xs := by
  have := (compact_spec (srt_asc xs) _ (Nat.le_refl _)).2 x
  rw [List.take_length] at this
  unfold coll Go.Lib.compact
  rw [this]
  unfold srt
  exact List.mem_mergeSort
/-- of numbers in a range: those that are in the list, one after another -/
theorem coll_sel {xs : List Int} {n : Nat} (h : ∀ x ∈ xs, 0 ≤ x ∧ x < n) : coll xs = selTo (memB xs) n := by
  refine asc_ext (coll_asc xs) (selTo_asc _ _) fun x => ?_
  rw [coll_mem, selTo_mem]
  constructor
  · intro hx
    have := h x hx
    exact ⟨x.toNat, by omega, by omega, memB_iff.2 (by rw [show ((x.toNat : Nat) : Int) = x by omega]; exact hx)⟩
  · rintro ⟨i, _, rfl, hi⟩
    exact memB_iff.1 hi

/- The rhythm of some numbers. -/
theorem sort_nil (A : Option Addr) (c : Nat) (w : World) : Calls Try.prog 50 #[.slice A 0 c] w fun e w' => e = .returned (.tuple #[]) ∧ w' = w := Go.Proofs.Any.slices_Sort_int_none laysSort A c w
theorem compact_nil (A : Option Addr) (c : Nat) (w : World) : Calls Try.prog 51 #[.slice A 0 c] w fun e w' => e = .returned (.slice A 0 c) ∧ w' = w := Go.Proofs.Any.slices_Compact_int_empty laysCompact A c w
theorem eql_nil_nil (n c : Nat) (w : World) : Sem.run Try.prog (binOp BinOp.eql 24 (.slice none n c) (.slice none 0 0)) w = .ok (.bool true) w := by kernel_rfl
theorem clone_nil (w : World) : Calls Try.prog 49 #[.slice none 0 0] w fun e w' => e = .returned (.slice none 0 0) ∧ w = w' := by
  have hq := eql_nil_nil 0 0 w
  go_enter Try.func49, Try.ntmps49
  go_wp2_with fail
  go_ret
  exact ⟨rfl, rfl⟩
theorem coll_nil : coll [] = [] := List.eq_nil_of_length_eq_zero (Nat.le_zero.1 (coll_len []))
set_option maxHeartbeats 400000 in
theorem collected_nil (w : World) : Calls Try.prog 38 #[.slice none 0 0] w fun e w' => e = .returned (.slice none 0 0) ∧ w = w' := by
  go_enter Try.func38, Try.ntmps38
  go_wp2_with fail
  refine (clone_nil _).mono ?_
  rintro e w1 ⟨rfl, rfl⟩
  go_wp2_with fail
  refine (sort_nil _ _ _).mono ?_
  rintro e w1 ⟨rfl, rfl⟩
  go_wp2_with fail
  refine (compact_nil _ _ _).mono ?_
  rintro e w1 ⟨rfl, rfl⟩
  go_wp2_with fail
  go_ret
  exact ⟨rfl, rfl⟩
theorem collected_row (v : Value) (base : Nat) (xs : List Int) (w : World) (hx : Row w base v xs) (hl : xs.length ≤ 1000000) :
    Calls Try.prog 38 #[v] w (GivesInts w (coll xs)) := by
  rcases hx.2 with ⟨rfl, h0⟩ | ⟨g, cap, cur, rfl, _⟩
  · have : xs = [] := List.eq_nil_of_length_eq_zero h0
    subst this
    refine (collected_nil w).mono ?_
    rintro e w' ⟨rfl, rfl⟩
    rw [coll_nil]
    exact ⟨none, 0, rfl, IO.nil _ _, Below.refl _ _⟩
  · obtain ⟨A, c, e, io⟩ := hx.io (by omega)
    injection e with e1 e2 e3
    subst e1 e3
    refine (collected_some g 0 _ xs w io.reads hl).mono ?_
    rintro e w' ⟨g', c', rfl, io', b'⟩
    exact ⟨_, c', rfl, io', b'⟩
def modL (s : Int) (xs : List Int) : List Int := xs.map (· % s)
theorem modL_take {s : Int} {xs : List Int} {k : Nat} {x : Int} (hx : xs[k]? = some x) : modL s (xs.take (k + 1)) = modL s (xs.take k) ++ [x % s] := by
  unfold modL
  rw [List.take_add_one, hx, Option.toList_some, List.map_append]; rfl
theorem modL_len (s : Int) (xs : List Int) (k : Nat) : (modL s (xs.take k)).length ≤ xs.length := by
  unfold modL; rw [List.length_map, List.length_take]; omega
set_option maxHeartbeats 1000000 in
theorem rhythmOf_any (s : Int) (A : Option Addr) (c : Nat) (xs : List Int) (w : World) (hs : 1 ≤ s ∧ s ≤ 24) (hb : ∀ x ∈ xs, -1000000000000 ≤ x ∧ x ≤ 1000000000000) (hl : xs.length ≤ 100000) (hx : IR w A xs) :
    Calls Try.prog 26 #[.int .i64 s, .slice A xs.length c] w (GivesRh w s (coll (modL s xs))) := by
  obtain ⟨hs1, hs2⟩ := hs
  have HBD := Bx.mk hb
  obtain ⟨W0, hW0⟩ : ∃ W0, W0 = w.alloc (.cells #[.int .i64 0, .slice none 0 0] 26) := ⟨_, rfl⟩
  have bw : Below w.heap.size w W0 := by rw [hW0]; exact below_alloc _ _
  have hz : w.heap.size < W0.heap.size := by rw [hW0]; simp
  have R0 : Blk W0 w.heap.size 26 #[.int .i64 0, .slice none 0 0] := by rw [hW0]; exact Blk.new w _ _
  have HX := Bx.mk (hx.below bw)
  clear hx hb
  go_enter Try.func26, Try.ntmps26
  go_wp2_with fail
  rw [← hW0]
  clear hW0
  go_loopw [5, 10] (fun v i wr => ∃ k : Nat, k ≤ xs.length ∧ i = .int .i64 k ∧ Row wr W0.heap.size v (modL s (xs.take k)) ∧ Below W0.heap.size W0 wr) (fun _ i _ => xs.length - (intOf i).toNat)
  case atStart => exact ⟨0, by omega, rfl, Row.nil _ _, Below.refl _ _⟩
  case round =>
    obtain ⟨k, hk, rfl, hrow, hbb⟩ := hrel
    have hlen := modL_len s xs k
    have hzr := hbb.size
    by_cases hlt : k < xs.length
    · obtain ⟨b, o, x, rfl, hbk, c1, H3⟩ := (HX.out.below hbb).one hlt
      have H4 := Bx.mk H3.out
      clear H3
      have hki : (k : Int) < (xs.length : Int) := by omega
      obtain ⟨hx1, hx2⟩ := HBD.out x (List.mem_of_getElem? H4.out)
      have HN := Bx.mk (modL_take (s := s) H4.out)
      have HO := Bx.mk hrow
      have HB := Bx.mk hbb
      clear hrow hbb
      go_wp2_with fail
      refine (remainder_any _ _ hs1 (by omega) ⟨by omega, by omega⟩ _).mono ?_
      rintro e w2 ⟨rfl, rfl⟩
      go_wp2_with (at_builtin; go_must (refine wpList_app1 rfl _ _ rfl W0.heap.size _ (modL s (xs.take k)) (x % s) rfl rfl (by exact HO.out) (by omega) (by exact hzr) ?_); intro v1 w4 hown1 hb1)
      have R := Bx.mk (And.intro hown1 (HB.out.trans hb1))
      clear hown1 hb1
      go_wp2_with fail
      go_roundw
      case rel => exact ⟨k + 1, by omega, by go_num, by rw [HN.out]; exact R.out.1, R.out.2⟩
      case measure => simp [intOf]; omega
    · have hkl : k = xs.length := by omega
      have HO : Bx (Row wr W0.heap.size _ (modL s xs)) := ⟨by have := hrow; rwa [hkl, List.take_length] at this⟩
      have hml : (modL s xs).length ≤ 1000000 := by unfold modL; rw [List.length_map]; omega
      have HB := Bx.mk hbb
      replace R0 := R0.below hbb hz
      clear hrow hbb hkl
      go_wp2_with fail
      refine (collected_row _ _ _ _ HO.out hml).mono ?_
      rintro e w2 ⟨A2, c2, rfl, io, b⟩
      obtain ⟨ys, hys⟩ : ∃ ys, ys = coll (modL s xs) := ⟨_, rfl⟩
      rw [← hys] at io ⊢
      have HYS := Bx.mk hys
      clear hys
      replace R0 := R0.below b (by omega)
      have cr0 := R0.at_ (i := 0) rfl
      have cr1 := R0.at_ (i := 1) rfl
      have fr0 := R0.frozen 0
      have fr1 := R0.frozen 1
      have bw2 := (bw.trans (HB.out.mono bw.size)).trans (b.mono (by omega))
      have RF := Bx.mk ((R0.set 0 (.int .i64 s)).set 1 (.slice A2 ys.length c2))
      have BF := Bx.mk ((bw2.setCell (p := ⟨w.heap.size, 0, none⟩) (show w.heap.size ≤ w.heap.size by omega) (.int .i64 s)).setCell (p := ⟨w.heap.size, 1, none⟩) (show w.heap.size ≤ w.heap.size by omega) (.slice A2 ys.length c2))
      have hlow : w.heap.size < wr.heap.size := by omega
      have HIO := Bx.mk (((io.setLow (p := ⟨w.heap.size, 0, none⟩) hlow (.int .i64 s)).setLow (p := ⟨w.heap.size, 1, none⟩) hlow (.slice A2 ys.length c2)).mono (show w.heap.size ≤ wr.heap.size by omega))
      clear R0 b io bw2
      go_wp2_with fail
      refine bodyPost_ret (v := .agg #[.int .i64 s, .slice A2 ys.length c2]) (by simp [results, Try.results26, go_sem, RF.out.at_ (i := 0) rfl, RF.out.at_ (i := 1) rfl]) rfl ?_
      rw [← HYS.out]
      exact ⟨A2, c2, rfl, HIO.out, BF.out⟩

/- The rotations of a rhythm. -/
def addL (k : Int) (xs : List Int) : List Int := xs.map (· + k)
def rotL (s : Int) (xs : List Int) (k : Int) : List Int := coll (modL s (addL k xs))
theorem addL_take {k : Int} {xs : List Int} {j : Nat} {x : Int} (hx : xs[j]? = some x) : addL k (xs.take (j + 1)) = addL k (xs.take j) ++ [x + k] := by
  unfold addL
  rw [List.take_add_one, hx, Option.toList_some, List.map_append]; rfl
theorem addL_len (k : Int) (xs : List Int) (j : Nat) : (addL k (xs.take j)).length ≤ xs.length := by
  unfold addL; rw [List.length_map, List.length_take]; omega
theorem rotClos (p k : Int) (g : Nat) (w : World) (hp : -1000 ≤ p ∧ p ≤ 1000) (hk : -1000000 ≤ k ∧ k ≤ 1000000) (k0 : w.cell? ⟨g, 0, none⟩ = some (.int .i64 k)) :
    Calls Try.prog 55 #[.int .i64 p, .pointer (some ⟨g, 0, none⟩)] w fun e w' => e = .returned (.int .i64 (p + k)) ∧ w = w' := by
  obtain ⟨hp1, hp2⟩ := hp
  obtain ⟨hk1, hk2⟩ := hk
  go_enter Try.func55, Try.ntmps55
  go_wp2
  go_ret
  exact ⟨rfl, rfl⟩
set_option maxHeartbeats 1000000 in
theorem moved_any (s : Int) (A : Option Addr) (c : Nat) (xs : List Int) (k : Int) (g : Nat) (w : World) (hs : 1 ≤ s ∧ s ≤ 24) (hb : ∀ x ∈ xs, 0 ≤ x ∧ x < 24) (hl : xs.length ≤ 1000) (hk : -1000000 ≤ k ∧ k ≤ 1000000) (hg : g < w.heap.size) (kg : w.cell? ⟨g, 0, none⟩ = some (.int .i64 k)) (hx : IR w A xs) :
    Calls Try.prog 54 #[.agg #[.int .i64 s, .slice A xs.length c], .func (.func 55) #[] #[.pointer (some ⟨g, 0, none⟩)]] w (GivesRh w s (rotL s xs k)) := by
  have HBD := Bx.mk hb
  have HS := Bx.mk hs
  have HK := Bx.mk hk
  obtain ⟨W0, hW0⟩ : ∃ W0, W0 = (w.alloc (.cells #[.int .i64 s, .slice A xs.length c] 26)).alloc (.cells #[.int .i64 0, .slice none 0 0] 26) := ⟨_, rfl⟩
  have bw : Below w.heap.size w W0 := by rw [hW0]; exact (below_alloc _ _).alloc (by simp) _
  have hz : w.heap.size + 2 ≤ W0.heap.size := by rw [hW0]; simp
  have k0 : W0.cell? ⟨w.heap.size, 0, none⟩ = some (.int .i64 s) := by rw [hW0]; simp [go_sem]
  have k1 : W0.cell? ⟨w.heap.size, 1, none⟩ = some (.slice A xs.length c) := by rw [hW0]; simp [go_sem]
  have R0 : Blk W0 (w.heap.size + 1) 26 #[.int .i64 0, .slice none 0 0] := by rw [hW0]; have := Blk.new (w.alloc (.cells #[.int .i64 s, .slice A xs.length c] 26)) 26 #[.int .i64 0, .slice none 0 0]; simpa using this
  have kg0 := ((bcell bw).1 _ _ hg).trans kg
  have HX := Bx.mk (hx.below bw)
  clear hx hb hs hk kg
  go_enter Try.func54, Try.ntmps54
  go_wp2_with fail
  rw [← hW0]
  clear hW0
  go_loopw [5, 11] (fun v i wr => ∃ j : Nat, j ≤ xs.length ∧ i = .int .i64 j ∧ Row wr W0.heap.size v (addL k (xs.take j)) ∧ Below W0.heap.size W0 wr) (fun _ i _ => xs.length - (intOf i).toNat)
  case atStart => exact ⟨0, by omega, rfl, Row.nil _ _, Below.refl _ _⟩
  case round =>
    obtain ⟨j, hj, rfl, hrow, hbb⟩ := hrel
    have hlen := addL_len k xs j
    have hzr := hbb.size
    have q0 := ((bcell hbb).1 _ _ (by omega)).trans k0
    have q1 := ((bcell hbb).1 _ _ (by omega)).trans k1
    have qg := Bx.mk (((bcell hbb).1 _ _ (by omega)).trans kg0)
    by_cases hlt : j < xs.length
    · obtain ⟨b, o, x, rfl, hbk, c1, H3⟩ := (HX.out.below hbb).one hlt
      have H4 := Bx.mk H3.out
      clear H3
      have hki : (j : Int) < (xs.length : Int) := by omega
      obtain ⟨hx1, hx2⟩ := HBD.out x (List.mem_of_getElem? H4.out)
      have HN := Bx.mk (addL_take (k := k) H4.out)
      have HO := Bx.mk hrow
      have HB := Bx.mk hbb
      clear hrow hbb
      go_wp2_with fail
      refine (rotClos _ _ _ _ ⟨by omega, by omega⟩ HK.out qg.out).mono ?_
      rintro e w2 ⟨rfl, rfl⟩
      go_wp2_with (at_builtin; go_must (refine wpList_app1 rfl _ _ rfl W0.heap.size _ (addL k (xs.take j)) (x + k) rfl rfl (by exact HO.out) (by omega) (by exact hzr) ?_); intro v1 w4 hown1 hb1)
      have R := Bx.mk (And.intro hown1 (HB.out.trans hb1))
      clear hown1 hb1
      go_wp2_with fail
      go_roundw
      case rel => exact ⟨j + 1, by omega, by go_num, by rw [HN.out]; exact R.out.1, R.out.2⟩
      case measure => simp [intOf]; omega
    · have hkl : j = xs.length := by omega
      obtain ⟨A1, cc1, e1, io1⟩ := hrow.io (by omega)
      subst e1
      obtain ⟨zs, hzs⟩ : ∃ zs, zs = addL k (xs.take j) := ⟨_, rfl⟩
      have hzs2 : zs = addL k xs := by rw [hzs, hkl, List.take_length]
      have HZB : Bx (∀ x ∈ zs, -1000000000000 ≤ x ∧ x ≤ 1000000000000) := ⟨fun x hx => by
        rw [hzs2] at hx
        unfold addL at hx
        obtain ⟨y, hy, rfl⟩ := List.mem_map.1 hx
        have := HBD.out y hy
        have := HK.out
        omega⟩
      have hzl : zs.length ≤ 100000 := by rw [hzs]; omega
      have HR : Bx (rotL s xs k = coll (modL s zs)) := ⟨by rw [hzs2]; rfl⟩
      rw [← hzs] at io1 ⊢
      have HI1 := Bx.mk io1.reads
      have HB := Bx.mk hbb
      replace R0 := R0.below hbb (by omega)
      clear hrow hbb hkl io1 hzs hzs2
      go_wp2_with fail
      refine (rhythmOf_any _ _ _ _ _ HS.out HZB.out hzl (by exact HI1.out)).mono ?_
      rintro e w2 ⟨A2, c2, rfl, io, b⟩
      rw [← HR.out] at io ⊢
      obtain ⟨ys, hys⟩ : ∃ ys, ys = rotL s xs k := ⟨_, rfl⟩
      rw [← hys] at io ⊢
      have HYS := Bx.mk hys
      clear hys
      replace R0 := R0.below b (by omega)
      have cr0 := R0.at_ (i := 0) rfl
      have cr1 := R0.at_ (i := 1) rfl
      have fr0 := R0.frozen 0
      have fr1 := R0.frozen 1
      have bw2 := (bw.trans (HB.out.mono bw.size)).trans (b.mono (by omega))
      have RF := Bx.mk ((R0.set 0 (.int .i64 s)).set 1 (.slice A2 ys.length c2))
      have BF := Bx.mk ((bw2.setCell (p := ⟨w.heap.size + 1, 0, none⟩) (show w.heap.size ≤ w.heap.size + 1 by omega) (.int .i64 s)).setCell (p := ⟨w.heap.size + 1, 1, none⟩) (show w.heap.size ≤ w.heap.size + 1 by omega) (.slice A2 ys.length c2))
      have hlow : w.heap.size + 1 < wr.heap.size := by omega
      have HIO := Bx.mk (((io.setLow (p := ⟨w.heap.size + 1, 0, none⟩) hlow (.int .i64 s)).setLow (p := ⟨w.heap.size + 1, 1, none⟩) hlow (.slice A2 ys.length c2)).mono (show w.heap.size ≤ wr.heap.size by omega))
      clear R0 b io bw2
      go_wp2_with fail
      refine bodyPost_ret (v := .agg #[.int .i64 s, .slice A2 ys.length c2]) (by simp [results, Try.results54, go_sem, RF.out.at_ (i := 0) rfl, RF.out.at_ (i := 1) rfl]) rfl ?_
      rw [← HYS.out]
      exact ⟨A2, c2, rfl, HIO.out, BF.out⟩
set_option maxHeartbeats 1000000 in
theorem rotated_any (s : Int) (A : Option Addr) (c : Nat) (xs : List Int) (k : Int) (w : World) (hs : 1 ≤ s ∧ s ≤ 24) (hb : ∀ x ∈ xs, 0 ≤ x ∧ x < 24) (hl : xs.length ≤ 1000) (hk : -1000000 ≤ k ∧ k ≤ 1000000) (hx : IR w A xs) :
    Calls Try.prog 45 #[.agg #[.int .i64 s, .slice A xs.length c], .int .i64 k] w (GivesRh w s (rotL s xs k)) := by
  have HBD := Bx.mk hb
  obtain ⟨W0, hW0⟩ : ∃ W0, W0 = ((w.alloc (.cells #[.int .i64 s, .slice A xs.length c] 26)).alloc (.cells #[.int .i64 k] 3)).alloc (.cells #[.int .i64 0, .slice none 0 0] 26) := ⟨_, rfl⟩
  have bw : Below w.heap.size w W0 := by rw [hW0]; exact ((below_alloc _ _).alloc (by simp) _).alloc (by simp <;> omega) _
  have hz : w.heap.size + 3 ≤ W0.heap.size := by rw [hW0]; simp
  have k0 : W0.cell? ⟨w.heap.size, 0, none⟩ = some (.int .i64 s) := by rw [hW0]; simp [go_sem]
  have k1 : W0.cell? ⟨w.heap.size, 1, none⟩ = some (.slice A xs.length c) := by rw [hW0]; simp [go_sem]
  have kg : W0.cell? ⟨w.heap.size + 1, 0, none⟩ = some (.int .i64 k) := by rw [hW0]; simp [go_sem]
  have R0 : Blk W0 (w.heap.size + 1 + 1) 26 #[.int .i64 0, .slice none 0 0] := by rw [hW0]; have := Blk.new ((w.alloc (.cells #[.int .i64 s, .slice A xs.length c] 26)).alloc (.cells #[.int .i64 k] 3)) 26 #[.int .i64 0, .slice none 0 0]; simpa using this
  have HX := Bx.mk (hx.below bw)
  clear hx hb
  go_enter Try.func45, Try.ntmps45
  go_wp2_with fail
  rw [← hW0]
  clear hW0
  refine (moved_any _ _ _ _ k _ _ hs HBD.out hl hk (by omega) kg (by exact HX.out)).mono ?_
  rintro e w2 ⟨A2, c2, rfl, io, b⟩
  obtain ⟨ys, hys⟩ : ∃ ys, ys = rotL s xs k := ⟨_, rfl⟩
  rw [← hys] at io ⊢
  have HYS := Bx.mk hys
  clear hys
  replace R0 := R0.below b (by omega)
  have cr0 := R0.at_ (i := 0) rfl
  have cr1 := R0.at_ (i := 1) rfl
  have fr0 := R0.frozen 0
  have fr1 := R0.frozen 1
  have bw2 := bw.trans (b.mono bw.size)
  have RF := Bx.mk ((R0.set 0 (.int .i64 s)).set 1 (.slice A2 ys.length c2))
  have BF := Bx.mk ((bw2.setCell (p := ⟨w.heap.size + 1 + 1, 0, none⟩) (show w.heap.size ≤ w.heap.size + 1 + 1 by omega) (.int .i64 s)).setCell (p := ⟨w.heap.size + 1 + 1, 1, none⟩) (show w.heap.size ≤ w.heap.size + 1 + 1 by omega) (.slice A2 ys.length c2))
  have hlow : w.heap.size + 1 + 1 < W0.heap.size := by omega
  have HIO := Bx.mk (((io.setLow (p := ⟨w.heap.size + 1 + 1, 0, none⟩) hlow (.int .i64 s)).setLow (p := ⟨w.heap.size + 1 + 1, 1, none⟩) hlow (.slice A2 ys.length c2)).mono (show w.heap.size ≤ W0.heap.size by omega))
  clear R0 b io bw2
  go_wp2_with fail
  refine bodyPost_ret (v := .agg #[.int .i64 s, .slice A2 ys.length c2]) (by simp [results, Try.results45, go_sem, RF.out.at_ (i := 0) rfl, RF.out.at_ (i := 1) rfl]) rfl ?_
  rw [← HYS.out]
  exact ⟨A2, c2, rfl, HIO.out, BF.out⟩

/- Whether two lists of ints are one. -/
set_option maxHeartbeats 400000 in
theorem slEqual_any (A B : Option Addr) (c d : Nat) (xs ys : List Int) (w : World) (hx : IR w A xs) (hy : IR w B ys) :
    Calls Try.prog 56 #[.slice A xs.length c, .slice B ys.length d] w fun e w' => e = .returned (.bool (decide (xs = ys))) ∧ ∃ k, w' = w.drewN k := by
  have hlx := hx.len
  have hly := hy.len
  by_cases hl : xs.length = ys.length
  · have HL := Lib.hid hl
    have hlb : (((xs.length : Int) != (ys.length : Int))) = false := by simp [hl]
    have hge : ys.length ≥ xs.length := by omega
    clear hl
    go_enter Try.func56, Try.ntmps56
    go_wp2
    go_loopw [13] (fun i wr => ∃ k n : Nat, k ≤ xs.length ∧ i = .int .i64 k ∧ wr = w.drewN n ∧ xs.take k = ys.take k) (fun i _ => xs.length - (intOf i).toNat)
    case atStart => exact ⟨0, 0, by omega, rfl, rfl, rfl⟩
    case round =>
      obtain ⟨k, n, hk, rfl, rfl, ht⟩ := hrel
      have HT := Lib.hid ht
      clear ht
      by_cases hlt : k < xs.length
      · obtain ⟨b, o, x, rfl, hb, c1, H1⟩ := hx.one hlt
        obtain ⟨b', o', y, rfl, hb', c2, H2⟩ := hy.one (k := k) (by omega)
        have hkl : (k : Int) < xs.length := by omega
        have hkl' : (k : Int) < ys.length := by omega
        go_wp2
        go_quiet (fail)
        go_wp2
        · have hne : (x != y) = true := by assumption
          go_ret
          exact ⟨ret_bool (ne_of_at H1.out H2.out (by simpa using hne)).symm, ex_drewN _ _ _⟩
        · have hne : (x != y) = false := by assumption
          go_roundw
          case rel => exact ⟨k + 1, _, by omega, by go_num, rfl, take_eq_of HT.out H1.out H2.out (by simpa using hne)⟩
          case measure => simp [intOf]; omega
      · go_wp2
        go_ret
        exact ⟨ret_bool (eq_of_take HT.out HL.out (by omega)).symm, n, rfl⟩
  · have hlb : (((xs.length : Int) != (ys.length : Int))) = true := by simp; omega
    have hne : decide (xs = ys) = false := by simp; rintro rfl; exact hl rfl
    have HN := Lib.hid hne
    clear hne
    go_enter Try.func56, Try.ntmps56
    go_wp2
    go_ret
    exact ⟨ret_bool HN.out.symm, 0, rfl⟩
def eqRh (s : Int) (xs : List Int) (t : Int) (ys : List Int) : Bool := (s == t) && decide (xs = ys)
set_option maxHeartbeats 400000 in
theorem equals_any (s : Int) (A B : Option Addr) (c d : Nat) (xs ys : List Int) (w : World) (hx : IR w A xs) (hy : IR w B ys) :
    Calls Try.prog 46 #[.agg #[.int .i64 s, .slice A xs.length c], .agg #[.int .i64 s, .slice B ys.length d]] w fun e w' => e = .returned (.bool (decide (xs = ys))) ∧ Below w.heap.size w w' := by
  obtain ⟨W0, hW0⟩ : ∃ W0, W0 = (w.alloc (.cells #[.int .i64 s, .slice A xs.length c] 26)).alloc (.cells #[.int .i64 s, .slice B ys.length d] 26) := ⟨_, rfl⟩
  have bw : Below w.heap.size w W0 := by rw [hW0]; exact (below_alloc _ _).alloc (by simp) _
  have HX := Bx.mk (hx.below bw)
  have HY := Bx.mk (hy.below bw)
  clear hx hy
  go_enter Try.func46, Try.ntmps46
  go_wp2_with fail
  rw [← hW0]
  clear hW0
  refine (slEqual_any _ _ _ _ _ _ _ (by exact HX.out) (by exact HY.out)).mono ?_
  rintro e w1 ⟨rfl, k, rfl⟩
  go_wp2_with fail
  go_ret
  exact ⟨rfl, bw.trans (bdrewN_refl _ _)⟩

/- Whether a rhythm has a beat, in the reference's words. -/
theorem l02Mod_any (k n : Int) (hn : 1 ≤ n) (hn2 : n ≤ 1000000) (w : World) :
    Calls Try.prog 43 #[.int .i64 k, .int .i64 n] w fun e w' => e = .returned (.int .i64 (k % n)) ∧ w = w' := by
  have hr := tmod_rem k n hn
  go_enter Try.func43, Try.ntmps43
  go_wp2
  go_ret
  exact ⟨ret_int hr.1, rfl⟩

/- The rhythm of some numbers, and the map of a rhythm: the reference. -/
set_option maxHeartbeats 1000000 in
theorem l02Of_any (n : Nat) (A : Option Addr) (cx : Nat) (xs : List Int) (w : World) (_hn1 : 1 ≤ n) (hn : n ≤ 24) (hx : IR w A xs) :
    Calls Try.prog 44 #[.int .i64 n, .slice A xs.length cx] w (GivesRh w n (selTo (memB xs) n)) := by
  obtain ⟨W0, hW0⟩ : ∃ W0, W0 = (w.alloc (.cells #[.int .i64 0, .slice none 0 0] 26)).alloc (.cells #[.int .i64 (n : Int), .slice none 0 0] 26) := ⟨_, rfl⟩
  have bw : Below w.heap.size w W0 := by rw [hW0]; exact (below_alloc _ _).alloc (by simp) _
  have hz : w.heap.size + 2 ≤ W0.heap.size := by rw [hW0]; simp
  have HR0 : Blk W0 w.heap.size 26 #[.int .i64 0, .slice none 0 0] := by rw [hW0]; exact (Blk.new w 26 #[.int .i64 0, .slice none 0 0]).alloc (.cells #[.int .i64 (n : Int), .slice none 0 0] 26)
  have HG0 : Blk W0 (w.heap.size + 1) 26 #[.int .i64 n, .slice none 0 0] := by rw [hW0]; have := Blk.new (w.alloc (.cells #[.int .i64 0, .slice none 0 0] 26)) 26 #[.int .i64 (n : Int), .slice none 0 0]; simpa using this
  obtain ⟨g, hg⟩ : ∃ g, g = w.heap.size + 1 := ⟨_, rfl⟩
  obtain ⟨gr, hgr⟩ : ∃ gr, gr = w.heap.size := ⟨_, rfl⟩
  rw [← hg] at HG0
  rw [← hgr] at HR0
  have hg2 : g < W0.heap.size := by omega
  have hg3 : gr < g := by omega
  have hg4 : w.heap.size ≤ gr := by omega
  have HI := Bx.mk ((RB.of_ir hx).below bw (Nat.le_refl _))
  clear hx
  go_enter Try.func44, Try.ntmps44
  go_wp2_with fail
  rw [← hW0, ← hg, ← hgr]
  clear hg hgr hW0
  go_loopw [6] (fun i wr => ∃ (k : Nat) (v : Value), k ≤ n ∧ i = .int .i64 k ∧ Blk wr g 26 #[.int .i64 n, v] ∧ Row wr W0.heap.size v (selTo (memB xs) k) ∧ Only W0 wr (some ⟨g, 0, none⟩)) (fun i _ => n - (intOf i).toNat)
  case atStart => exact ⟨0, _, by omega, rfl, HG0, Row.nil _ _, Only.refl _ _⟩
  case round =>
    obtain ⟨k, v, hk, rfl, hG, hrow, ho⟩ := hrel
    clear HG0
    obtain ⟨A', c', rfl⟩ := hrow.slice
    have hlen := selTo_len (memB xs) k
    have HO := Bx.mk hrow
    have HN := Bx.mk ho
    have HR := Bx.mk (HR0.onlyAt ho (by omega))
    have hzr := ho.size
    have cg0 := hG.at_ (i := 0) rfl
    have cg1 := hG.at_ (i := 1) rfl
    have fg1 := hG.frozen 1
    have HG := Bx.mk hG
    clear hrow ho hG
    by_cases hlt : k < n
    · have hlti : (k : Int) < n := by omega
      have hir := Bx.mk (IR.onlyAt HI.out HN.out (by omega))
      cases hm : memB xs (k : Int) with
      | true =>
        have HH := Bx.mk (selTo_hit (p := memB xs) (k := k) hm)
        go_wp2_with fail
        refine (l02Has_any _ _ _ _ _ (by exact hir.out)).mono ?_
        rw [hm]
        rintro e w2 ⟨rfl, rfl⟩
        go_wp2_with (at_builtin; go_must (refine wpList_app1 rfl _ _ rfl W0.heap.size _ (selTo (memB xs) k) (k : Int) rfl rfl (by exact HO.out) (by omega) (by exact hzr) ?_); intro v1 w4 hown1 hb1; have hG4 := HG.out.below hb1 (by omega); have cq1 := hG4.at_ (i := 1) rfl; have fq1 := hG4.frozen 1; obtain ⟨A5, c5, rfl⟩ := hown1.slice; obtain ⟨n5, hn5⟩ : ∃ n5, n5 = (selTo (memB xs) k ++ [(k : Int)]).length := ⟨_, rfl⟩; rw [← hn5] at hown1; rw [← hn5]; clear hn5)
        have HG5 := Bx.mk (hG4.set 1 (.slice A5 n5 c5))
        have hoo : Only W0 (w4.setCell ⟨g, 1, none⟩ (.slice A5 n5 c5)) (some ⟨g, 0, none⟩) := (HN.out.after hb1).set _
        have HN5 := Bx.mk hoo
        have HO5 := Bx.mk (hown1.onlyAt ((Only.refl w4 (some ⟨g, 0, none⟩)).set (i := 1) (.slice A5 n5 c5)) (by omega))
        clear hoo hown1 hb1 hG4
        go_wp2_with fail
        go_roundw
        case rel => exact ⟨k + 1, _, by omega, by go_num, HG5.out, by rw [HH.out]; exact HO5.out, HN5.out⟩
        case measure => simp [intOf]; omega
      | false =>
        have HH := Bx.mk (selTo_miss (p := memB xs) (k := k) hm)
        go_wp2_with fail
        refine (l02Has_any _ _ _ _ _ (by exact hir.out)).mono ?_
        rw [hm]
        rintro e w2 ⟨rfl, rfl⟩
        go_wp2_with fail
        go_roundw
        case rel => exact ⟨k + 1, _, by omega, by go_num, HG.out, by rw [HH.out]; exact HO.out, HN.out⟩
        case measure => simp [intOf]; omega
    · have hks : k = n := by omega
      have HS2 : Bx (selTo (memB xs) n = selTo (memB xs) k) := ⟨by rw [hks]⟩
      clear hks
      have cr0 := HR.out.at_ (i := 0) rfl
      have cr1 := HR.out.at_ (i := 1) rfl
      have fr0 := HR.out.frozen 0
      have fr1 := HR.out.frozen 1
      have hln2 : (selTo (memB xs) k).length ≤ 17592186044415 := by omega
      have HF := Bx.mk ((HR.out.set 0 (.int .i64 n)).set 1 (.slice A' (selTo (memB xs) k).length c'))
      have HIO := Bx.mk (((HO.out.io' rfl hln2).setLow (p := ⟨gr, 0, none⟩) (show gr < W0.heap.size by omega) (.int .i64 n)).setLow (p := ⟨gr, 1, none⟩) (show gr < W0.heap.size by omega) (.slice A' (selTo (memB xs) k).length c'))
      have hbl : Below w.heap.size w wr := bw.trans (HN.out.below bw.size (by intro x hx; injection hx with hx; subst hx; simp; omega))
      have HBL := Bx.mk ((hbl.setCell (p := ⟨gr, 0, none⟩) hg4 (.int .i64 n)).setCell (p := ⟨gr, 1, none⟩) hg4 (.slice A' (selTo (memB xs) k).length c'))
      have hwm : w.heap.size ≤ W0.heap.size := by omega
      clear hbl
      go_wp2_with fail
      refine bodyPost_ret (v := .agg #[.int .i64 n, .slice A' (selTo (memB xs) k).length c']) (by simp [results, Try.results44, go_sem, HF.out.at_ (i := 0) rfl, HF.out.at_ (i := 1) rfl]) rfl ⟨A', c', ?_, ?_, HBL.out⟩
      · rw [HS2.out]
      · rw [HS2.out]; exact HIO.out.mono hwm

/- The map of a rhythm by a rotation: the reference. -/
theorem rotL_sel {s : Int} (hs : 1 ≤ s) (xs : List Int) (k : Int) : rotL s xs k = selTo (memB (modL s (addL k xs))) s.toNat := by
  unfold rotL
  refine coll_sel fun x hx => ?_
  unfold modL at hx
  obtain ⟨y, _, rfl⟩ := List.mem_map.1 hx
  have h1 := Int.emod_nonneg y (show s ≠ 0 by omega)
  have h2 := Int.emod_lt_of_pos y (show 0 < s by omega)
  omega
def mapT (s k : Int) (xs : List Int) (j : Nat) : List Int := modL s (addL k (xs.take j))
theorem mapT_step {s k : Int} {xs : List Int} {j : Nat} {x : Int} (hx : xs[j]? = some x) : mapT s k xs (j + 1) = mapT s k xs j ++ [(x + k) % s] := by
  unfold mapT
  rw [addL_take hx]
  unfold modL
  rw [List.map_append]; rfl
theorem mapT_len (s k : Int) (xs : List Int) (j : Nat) : (mapT s k xs j).length ≤ xs.length := by
  unfold mapT modL; rw [List.length_map]; exact addL_len k xs j
set_option maxHeartbeats 1000000 in
theorem l02Map_any (s : Int) (A : Option Addr) (c : Nat) (xs : List Int) (k : Int) (w : World) (hs : 1 ≤ s ∧ s ≤ 24) (hb : ∀ x ∈ xs, 0 ≤ x ∧ x < 24) (hl : xs.length ≤ 1000) (hk : -1000000 ≤ k ∧ k ≤ 1000000) (hx : IR w A xs) :
    Calls Try.prog 30 #[.agg #[.int .i64 s, .slice A xs.length c], .int .i64 1, .int .i64 k] w (GivesRh w s (rotL s xs k)) := by
  have HBD := Bx.mk hb
  obtain ⟨hs1, hs2⟩ := hs
  obtain ⟨hk1, hk2⟩ := hk
  obtain ⟨W0, hW0⟩ : ∃ W0, W0 = (w.alloc (.cells #[.int .i64 s, .slice A xs.length c] 26)).alloc (.cells #[.int .i64 0, .slice none 0 0] 26) := ⟨_, rfl⟩
  have bw : Below w.heap.size w W0 := by rw [hW0]; exact (below_alloc _ _).alloc (by simp) _
  have hz : w.heap.size + 2 ≤ W0.heap.size := by rw [hW0]; simp
  have hzE : W0.heap.size = w.heap.size + 1 + 1 := by rw [hW0]; simp
  have k0 : W0.cell? ⟨w.heap.size, 0, none⟩ = some (.int .i64 s) := by rw [hW0]; simp [go_sem]
  have k1 : W0.cell? ⟨w.heap.size, 1, none⟩ = some (.slice A xs.length c) := by rw [hW0]; simp [go_sem]
  have R0 : Blk W0 (w.heap.size + 1) 26 #[.int .i64 0, .slice none 0 0] := by rw [hW0]; have := Blk.new (w.alloc (.cells #[.int .i64 s, .slice A xs.length c] 26)) 26 #[.int .i64 0, .slice none 0 0]; simpa using this
  have HX := Bx.mk ((RB.of_ir hx).below bw (Nat.le_refl _))
  clear hx hb
  have HRW := Bx.mk (Row.empty W0 W0.heap.size (Nat.le_refl _))
  obtain ⟨w1, hw1⟩ : ∃ w1, w1 = W0.alloc (.cells #[] 3) := ⟨_, rfl⟩
  obtain ⟨BB, hBB⟩ : ∃ BB, BB = w.heap.size + 1 + 1 := ⟨_, rfl⟩
  have b : Below BB W0 w1 := by rw [hw1, hBB, ← hzE]; exact below_alloc _ _
  rw [← hw1, hzE, ← hBB] at HRW
  go_enter Try.func30, Try.ntmps30
  go_wp2_with fail
  rw [← hW0, ← hw1, ← hBB]
  replace k0 := ((bcell b).1 _ _ (by omega)).trans k0
  replace k1 := ((bcell b).1 _ _ (by omega)).trans k1
  replace R0 := R0.below b (by omega)
  replace HX := Bx.mk (HX.out.below b (by omega))
  have hw1s := b.size
  have hBB1 : BB ≤ w1.heap.size := by omega
  have hwB : w.heap.size + 1 < BB := by omega
  have HXB : Bx (RB 0 BB w1 A xs) := ⟨⟨HX.out.ir, fun h x hx => by have := HX.out.2 h x hx; omega⟩⟩
  have bw1 := bw.trans (b.mono (by omega))
  clear b bw hz HX hw1 hBB hW0 hw1s hzE
  go_loopw [7, 14] (fun v i wr => ∃ j : Nat, j ≤ xs.length ∧ i = .int .i64 j ∧ Row wr BB v (mapT s k xs j) ∧ Below BB w1 wr) (fun _ i _ => xs.length - (intOf i).toNat)
  case atStart => exact ⟨0, by omega, rfl, HRW.out, Below.refl _ _⟩
  case round =>
    obtain ⟨j, hj, rfl, hrow, hbb⟩ := hrel
    clear HRW
    have hlen := mapT_len s k xs j
    have hzr := hbb.size
    have q0 := ((bcell hbb).1 _ _ (by omega)).trans k0
    have q1 := ((bcell hbb).1 _ _ (by omega)).trans k1
    have HXr := Bx.mk (HXB.out.below hbb (Nat.le_refl _)).ir
    by_cases hlt : j < xs.length
    · obtain ⟨b, o, x, rfl, hbk, c1, H3⟩ := HXr.out.one hlt
      have H4 := Bx.mk H3.out
      clear H3
      have hki : (j : Int) < (xs.length : Int) := by omega
      obtain ⟨hx1, hx2⟩ := HBD.out x (List.mem_of_getElem? H4.out)
      have HN := Bx.mk (mapT_step (s := s) (k := k) H4.out)
      have HO := Bx.mk hrow
      have HB := Bx.mk hbb
      clear hrow hbb
      go_wp2_with fail
      refine (l02Mod_any _ _ hs1 (by omega) _).mono ?_
      rintro e w2 ⟨rfl, rfl⟩
      go_wp2_with (at_builtin; go_must (refine wpList_app1 rfl _ _ rfl BB _ (mapT s k xs j) ((x + k) % s) rfl rfl (by exact HO.out) (by omega) (by omega) ?_); intro v1 w4 hown1 hb1)
      have R := Bx.mk (And.intro hown1 (HB.out.trans hb1))
      clear hown1 hb1
      go_wp2_with fail
      go_roundw
      case rel => exact ⟨j + 1, by omega, by go_num, by rw [HN.out]; exact R.out.1, R.out.2⟩
      case measure => simp [intOf]; omega
    · have hkl : j = xs.length := by omega
      obtain ⟨A1, cc1, e1, io1⟩ := hrow.io (by omega)
      subst e1
      obtain ⟨zs, hzs⟩ : ∃ zs, zs = mapT s k xs j := ⟨_, rfl⟩
      have HR : Bx (rotL s xs k = selTo (memB zs) s.toNat) := ⟨by rw [rotL_sel hs1, hzs, hkl]; unfold mapT; rw [List.take_length]⟩
      rw [← hzs] at io1 ⊢
      have HI1 := Bx.mk io1.reads
      have HB := Bx.mk hbb
      replace R0 := R0.below hbb (by omega)
      clear hrow hbb hkl io1 hzs
      obtain ⟨n, hn⟩ := Int.eq_ofNat_of_zero_le (show 0 ≤ s by omega)
      subst hn
      rw [Int.toNat_natCast] at HR
      go_wp2_with fail
      refine (l02Of_any n _ _ _ _ (by omega) (by omega) (by exact HI1.out)).mono ?_
      rintro e w2 ⟨A2, c2, rfl, io, b⟩
      rw [← HR.out] at io ⊢
      obtain ⟨ys, hys⟩ : ∃ ys, ys = rotL n xs k := ⟨_, rfl⟩
      rw [← hys] at io ⊢
      have HYS := Bx.mk hys
      clear hys
      replace R0 := R0.below b (by omega)
      have cr0 := R0.at_ (i := 0) rfl
      have cr1 := R0.at_ (i := 1) rfl
      have fr0 := R0.frozen 0
      have fr1 := R0.frozen 1
      have bw2 := (bw1.trans (HB.out.mono (by omega))).trans (b.mono (by omega))
      have RF := Bx.mk ((R0.set 0 (.int .i64 n)).set 1 (.slice A2 ys.length c2))
      have BF := Bx.mk ((bw2.setCell (p := ⟨w.heap.size + 1, 0, none⟩) (show w.heap.size ≤ w.heap.size + 1 by omega) (.int .i64 n)).setCell (p := ⟨w.heap.size + 1, 1, none⟩) (show w.heap.size ≤ w.heap.size + 1 by omega) (.slice A2 ys.length c2))
      have hlow : w.heap.size + 1 < wr.heap.size := by omega
      have HIO := Bx.mk (((io.setLow (p := ⟨w.heap.size + 1, 0, none⟩) hlow (.int .i64 n)).setLow (p := ⟨w.heap.size + 1, 1, none⟩) hlow (.slice A2 ys.length c2)).mono (show w.heap.size ≤ wr.heap.size by omega))
      clear R0 b io bw2
      go_wp2_with fail
      refine bodyPost_ret (v := .agg #[.int .i64 n, .slice A2 ys.length c2]) (by simp [results, Try.results30, go_sem, RF.out.at_ (i := 0) rfl, RF.out.at_ (i := 1) rfl]) rfl ?_
      rw [← HYS.out]
      exact ⟨A2, c2, rfl, HIO.out, BF.out⟩

/- The period of a rhythm: the program's loop and the reference's. -/
def perGo (p : Nat → Bool) : Nat → Nat → Nat
  | k, 0 => k
  | k, f + 1 => if p k = true then k else perGo p (k + 1) f
def perP (s : Int) (xs : List Int) (k : Nat) : Bool := decide (rotL s xs (k : Int) = xs)
def perL (s : Int) (xs : List Int) : Nat := perGo (perP s xs) 1 (s.toNat - 1)
theorem perGo_le (p : Nat → Bool) (f : Nat) : ∀ k, k ≤ perGo p k f ∧ perGo p k f ≤ k + f := by
  induction f with
  | zero => intro k; simp [perGo]
  | succ f ih => intro k; have := ih (k + 1); simp only [perGo]; split <;> omega
theorem perGo_hit {p : Nat → Bool} {k n : Nat} (h : p k = true) : perGo p k n = k := by
  cases n with
  | zero => rfl
  | succ n => simp [perGo, h]
theorem perGo_miss {p : Nat → Bool} {k n : Nat} (h : p k = false) (hk : k < n) : perGo p k (n - k) = perGo p (k + 1) (n - (k + 1)) := by
  rw [show n - k = (n - (k + 1)) + 1 by omega]
  simp [perGo, h]
theorem rot_mod {s : Int} {xs : List Int} (h : ∀ x ∈ xs, 0 ≤ x ∧ x < s) : modL s (addL s xs) = xs := by
  unfold modL addL
  rw [List.map_map]
  conv => rhs; rw [← List.map_id xs]
  refine List.map_congr_left fun x hx => ?_
  have := h x hx
  simp only [Function.comp, id]
  rw [Int.add_emod_right, Int.emod_eq_of_lt this.1 this.2]
theorem sel_memB {s : Int} {xs : List Int} (hok : rhOk s xs = true) : selTo (memB xs) s.toNat = xs := by
  obtain ⟨h1, h2, h3⟩ := rhOk_iff.1 hok
  refine asc_ext (selTo_asc _ _) h3 fun x => ?_
  rw [selTo_mem]
  constructor
  · rintro ⟨i, _, rfl, hi⟩
    exact memB_iff.1 hi
  · intro hx
    have := h2 x hx
    exact ⟨x.toNat, by omega, by omega, memB_iff.2 (by rw [show ((x.toNat : Nat) : Int) = x by omega]; exact hx)⟩
theorem perP_full {s : Int} {xs : List Int} (hok : rhOk s xs = true) : perP s xs s.toNat = true := by
  obtain ⟨h1, h2, _⟩ := rhOk_iff.1 hok
  unfold perP
  rw [show ((s.toNat : Nat) : Int) = s by omega, rotL_sel h1.1, rot_mod h2, sel_memB hok]
  simp
theorem field_beatsP (s : Int) (A : Option Addr) (n c : Nat) (w : World) : (Instr.field 26 (.agg #[.int .i64 s, .slice A n c]) 1).run Try.prog w = .ok (.slice A n c) w := by kernel_rfl
theorem lit_b {f : FuncId} {args : Array Value} {w : World} {a b : Bool} (hb : a = b) (h : Calls Try.prog f args w fun e w' => e = .returned (.bool a) ∧ Below w.heap.size w w') :
    Calls Try.prog f args w fun e w' => e = .returned (.bool b) ∧ Below w.heap.size w w' := by rw [← hb]; exact h
theorem eq_lit {a b : Bool} {e : Ending} (hb : a = b) (he : e = .returned (.bool a)) : e = .returned (.bool b) := by rw [← hb]; exact he

/- The least rotation that leads to a rhythm, or none: both sides. -/
def anyTo (p : Nat → Bool) (k : Nat) : Bool := (List.range k).any p
theorem anyTo_succ (p : Nat → Bool) (k : Nat) : anyTo p (k + 1) = (anyTo p k || p k) := by
  unfold anyTo; rw [List.range_succ, List.any_append]; simp
theorem anyTo_hit {p : Nat → Bool} {k n : Nat} (hk : k < n) (h : p k = true) : anyTo p n = true := by
  unfold anyTo; rw [List.any_eq_true]; exact ⟨k, List.mem_range.2 hk, h⟩
def rotP (s : Int) (ys xs : List Int) (k : Nat) : Bool := decide (rotL s ys (k : Int) = xs)
def rotB (s : Int) (ys xs : List Int) : Bool := anyTo (rotP s ys xs) s.toNat
/-- what a search for a rotation answers -/
def GivesRot (w : World) (b : Bool) (e : Ending) (w' : World) : Prop := ∃ r : Int, e = .returned (.int .i64 r) ∧ Bx ((b = true → 0 ≤ r) ∧ (b = false → r = -1)) ∧ Below w.heap.size w w'
theorem GivesRot.hit {w w' : World} {s : Int} {ys xs : List Int} {k n : Nat} (hn : s.toNat = n) (hk : k < n) (h : rotP s ys xs k = true) (b : Below w.heap.size w w') : GivesRot w (rotB s ys xs) (.returned (.int .i64 k)) w' :=
  ⟨k, rfl, Bx.mk (And.intro (fun _ => by omega) (fun h' => by have := anyTo_hit (n := s.toNat) (by omega) h; unfold rotB at h'; rw [this] at h'; cases h')), b⟩
theorem GivesRot.miss {w w' : World} {s : Int} {ys xs : List Int} (h : rotB s ys xs = false) (b : Below w.heap.size w w') : GivesRot w (rotB s ys xs) (.returned (.int .i64 (-1))) w' :=
  ⟨-1, rfl, Bx.mk (And.intro (fun h' => by rw [h] at h'; cases h') (fun _ => rfl)), b⟩
set_option maxHeartbeats 2000000 in
set_option maxRecDepth 20000 in
theorem implRotTo_any (s : Int) (A B : Option Addr) (c d : Nat) (ys xs : List Int) (w : World) (hs : 1 ≤ s ∧ s ≤ 24) (hb : ∀ x ∈ ys, 0 ≤ x ∧ x < 24) (hyl : ys.length ≤ 1000) (hy : IR w A ys) (hx : IR w B xs) :
    Calls Try.prog 32 #[.agg #[.int .i64 s, .slice A ys.length c], .agg #[.int .i64 s, .slice B xs.length d]] w (GivesRot w (rotB s ys xs)) := by
  have HBD := Bx.mk hb
  clear hb
  obtain ⟨W0, hW0⟩ : ∃ W0, W0 = (w.alloc (.cells #[.int .i64 s, .slice A ys.length c] 26)).alloc (.cells #[.int .i64 s, .slice B xs.length d] 26) := ⟨_, rfl⟩
  have bw : Below w.heap.size w W0 := by rw [hW0]; exact (below_alloc _ _).alloc (by simp) _
  have hz : w.heap.size + 2 ≤ W0.heap.size := by rw [hW0]; simp
  have k0 : W0.cell? ⟨w.heap.size, 0, none⟩ = some (.int .i64 s) := by rw [hW0]; simp [go_sem]
  have k1 : W0.cell? ⟨w.heap.size, 1, none⟩ = some (.slice A ys.length c) := by rw [hW0]; simp [go_sem]
  have k2 : W0.cell? ⟨w.heap.size + 1, 0, none⟩ = some (.int .i64 s) := by rw [hW0]; simp [go_sem]
  have k3 : W0.cell? ⟨w.heap.size + 1, 1, none⟩ = some (.slice B xs.length d) := by rw [hW0]; simp [go_sem]
  have HY := Bx.mk ((RB.of_ir hy).below bw (Nat.le_refl _))
  have HX := Bx.mk ((RB.of_ir hx).below bw (Nat.le_refl _))
  have hg1 : w.heap.size + 1 < W0.heap.size := by omega
  clear hx hy
  obtain ⟨hs1, hs2⟩ := hs
  obtain ⟨n, hn⟩ := Int.eq_ofNat_of_zero_le (show 0 ≤ s by omega)
  subst hn
  have hn1 : 1 ≤ n := by omega
  have hn24 : n ≤ 24 := by omega
  have hs12 : 1 ≤ (n : Int) ∧ (n : Int) ≤ 24 := ⟨hs1, hs2⟩
  have HT : Bx (Int.toNat (n : Int) = n) := ⟨Int.toNat_natCast n⟩
  clear hz hs1 hs2
  go_enter Try.func32, Try.ntmps32
  go_wp2_with fail
  rw [← hW0]
  clear hW0
  go_loopw [8] (fun v wr => ∃ k : Nat, k ≤ n ∧ v = .int .i64 k ∧ Bx (anyTo (rotP n ys xs) k = false) ∧ Bx (Below W0.heap.size W0 wr)) (fun v _ => n - (intOf v).toNat)
  case atStart => exact ⟨0, by omega, rfl, ⟨rfl⟩, ⟨Below.refl _ _⟩⟩
  case round =>
    obtain ⟨k, hkn, rfl, HL, HB⟩ := hrel
    have q0 := ((bcell HB.out).1 _ _ (by omega)).trans k0
    have q1 := ((bcell HB.out).1 _ _ (by omega)).trans k1
    have q2 := ((bcell HB.out).1 _ _ (by omega)).trans k2
    have q3 := ((bcell HB.out).1 _ _ (by omega)).trans k3
    by_cases hlt : k < n
    · have hkl : (k : Int) < (n : Int) := by omega
      obtain ⟨bR, hbR⟩ : ∃ bR, bR = rotP n ys xs k := ⟨_, rfl⟩
      obtain ⟨zs, hzs⟩ : ∃ zs, zs = rotL n ys (k : Int) := ⟨_, rfl⟩
      have HRO : Bx (∀ cc W, IR W A ys → Calls Try.prog 45 #[.agg #[.int .i64 n, .slice A ys.length cc], .int .i64 k] W (GivesRh W n zs)) := ⟨fun cc W h => by rw [hzs]; exact rotated_any n A cc ys k W hs12 HBD.out hyl (by omega) h⟩
      have HEQ : Bx (∀ A2 c2 cc W, IR W A2 zs → IR W B xs → Calls Try.prog 46 #[.agg #[.int .i64 n, .slice A2 zs.length c2], .agg #[.int .i64 n, .slice B xs.length cc]] W fun e w' => e = .returned (.bool bR) ∧ Below W.heap.size W w') := ⟨fun A2 c2 cc W h1 h2 => by rw [hbR]; unfold rotP; rw [← hzs]; exact equals_any n A2 B c2 cc zs xs W h1 h2⟩
      have HBR := Bx.mk hbR
      clear hbR hzs
      go_upto_region 4 with (fail)
      go_cut [15] (fun sv wx => sv = .bool bR ∧ Bx (Below W0.heap.size W0 wx))
      case first =>
        have hB0 := HB
        have hBd := bx_drew HB
        go_region_held3 (fun w' => w'.cell? ⟨w.heap.size, 0, none⟩ = some (.int .i64 n) ∧ w'.cell? ⟨w.heap.size, 1, none⟩ = some (.slice A ys.length c) ∧ w'.cell? ⟨w.heap.size + 1, 0, none⟩ = some (.int .i64 n) ∧ w'.cell? ⟨w.heap.size + 1, 1, none⟩ = some (.slice B xs.length d) ∧ Bx (Below W0.heap.size W0 w'))
          ((refine (fun (hK : Bx (Below W0.heap.size W0 _)) => ⟨((bcell hK.out).1 _ _ (by omega)).trans k0, ((bcell hK.out).1 _ _ (by omega)).trans k1, ((bcell hK.out).1 _ _ (by omega)).trans k2, ((bcell hK.out).1 _ _ (by omega)).trans k3, hK⟩) ?_; first | assumption | exact bx_drew (by assumption)))
          (first
            | (go_at_call 45; refine (HRO.out _ _ (HY.out.below (Bx.out (by first | assumption | exact bx_drew (by assumption))) (by omega)).ir).mono ?_; rintro e w2 ⟨A2, c2, rfl, io2, b2⟩; have hBw2 : Bx (Below W0.heap.size W0 w2) := bx_to (by first | assumption | exact bx_drew (by assumption)) b2; have HI2 := Bx.mk io2.reads; clear io2)
            | (go_at_call 46; refine (HEQ.out _ _ _ _ HI2.out (HX.out.below (Bx.out (by first | assumption | exact bx_drew (by assumption))) (by omega)).ir).mono ?_; rintro e w3 ⟨rfl, b3⟩; have hBw3 : Bx (Below W0.heap.size W0 w3) := bx_to (by first | assumption | exact bx_drew (by assumption)) b3))
        all_goals (go_wp2_with fail; go_meet)
        all_goals exact ⟨rfl, hBw3⟩
      case rest =>
        obtain ⟨rfl, HBX⟩ := hcut
        cases bR with
        | true =>
          have HF := Bx.mk (bw.trans (HBX.out.mono bw.size))
          go_wp2_with fail
          go_ret
          exact GivesRot.hit HT.out hlt HBR.out.symm HF.out
        | false =>
          have HN : Bx (anyTo (rotP n ys xs) (k + 1) = false) := ⟨by rw [anyTo_succ, HL.out, ← HBR.out]; rfl⟩
          go_wp2_with fail
          go_roundw
          case rel => exact ⟨k + 1, by omega, by go_num, HN, HBX⟩
          case measure => simp [intOf]; omega
    · have hke : k = n := by omega
      have HR : Bx (rotB n ys xs = false) := ⟨by unfold rotB; rw [HT.out]; have := HL.out; rw [hke] at this; exact this⟩
      have hkl : ¬ (k : Int) < (n : Int) := by omega
      have HF := Bx.mk (bw.trans (HB.out.mono bw.size))
      clear hke
      go_wp2_with fail
      go_ret
      exact GivesRot.miss HR.out HF.out

/- How often a pulse is a sum of two beats, as a count of pairs. -/
def prI (s : Int) (xs ys : List Int) (i : Int) : Nat := (xs.map fun p => (ys.filter fun q => (p + q) % s == i).length).sum
theorem inc_atP (l : List Int) (i j : Nat) : (inc l i)[j]?.getD 0 = if i = j ∧ i < l.length then l[i]?.getD 0 + 1 else l[j]?.getD 0 := by
  unfold inc
  by_cases hij : i = j
  · subst hij
    by_cases hl : i < l.length
    · rw [List.getElem?_set_self hl, if_pos ⟨rfl, hl⟩]; rfl
    · rw [if_neg (fun h => hl h.2), List.set_eq_of_length_le (by omega)]
  · rw [List.getElem?_set_ne hij, if_neg (fun h => hij h.1)]
theorem filter_take_snoc {ys : List Int} {b : Nat} {x : Int} (f : Int → Bool) (h : ys[b]? = some x) : ((ys.take (b + 1)).filter f).length = ((ys.take b).filter f).length + (if f x = true then 1 else 0) := by
  rw [List.take_add_one, h, List.filter_append, List.length_append]
  congr 1
  simp only [Option.toList_some]
  by_cases e : f x = true
  · rw [if_pos e, List.filter_cons_of_pos e]; rfl
  · rw [if_neg e, List.filter_cons_of_neg e]; rfl
theorem inC_at {s p : Int} {ys l : List Int} (hs : 1 ≤ s) (hl : l.length = s.toNat) (j : Nat) (hj : j < s.toNat) : ∀ b, b ≤ ys.length →
    (inC s p ys l b)[j]?.getD 0 = l[j]?.getD 0 + (((ys.take b).filter fun q => (p + q) % s == (j : Int)).length : Int) := by
  intro b
  induction b with
  | zero => intro _; simp [inC]
  | succ b ih =>
    intro hb
    have hx := List.getElem?_eq_getElem (l := ys) (i := b) (by omega)
    rw [filter_take_snoc _ hx]
    simp only [inC]
    rw [inc_atP, inC_len, hl, hx]
    simp only [Option.getD_some]
    have hm1 := Int.emod_nonneg (p + ys[b]) (show s ≠ 0 by omega)
    have hm2 := Int.emod_lt_of_pos (p + ys[b]) (show 0 < s by omega)
    have ih := ih (by omega)
    by_cases e : (p + ys[b]) % s = (j : Int)
    · have he : ((p + ys[b]) % s).toNat = j := by omega
      rw [he, if_pos ⟨rfl, hj⟩, ih, if_pos (by rw [beq_iff_eq]; exact e)]
      omega
    · rw [if_neg (fun h => e (by omega)), ih, if_neg (by rw [beq_iff_eq]; exact e)]
      omega
theorem outC_at {s : Int} {xs ys : List Int} (hs : 1 ≤ s) (j : Nat) (hj : j < s.toNat) : ∀ a, a ≤ xs.length → (outC s xs ys a)[j]?.getD 0 = ((prI s (xs.take a) ys j : Nat) : Int) := by
  intro a
  induction a with
  | zero => intro _; simp [outC, prI, hj]
  | succ a ih =>
    intro ha
    have hx := List.getElem?_eq_getElem (l := xs) (i := a) (by omega)
    simp only [outC]
    rw [inC_at hs (outC_len _ _ _ _) j hj _ (Nat.le_refl _), List.take_length, ih (by omega), hx]
    unfold prI
    rw [List.take_add_one, hx, List.map_append, List.sum_append]
    simp
theorem sumC_at {s : Int} {xs ys : List Int} (hs : 1 ≤ s) {j : Nat} (hj : j < s.toNat) : (sumC s xs ys)[j]?.getD 0 = ((prI s xs ys j : Nat) : Int) := by
  unfold sumC
  rw [outC_at hs j hj _ (Nat.le_refl _), List.take_length]
theorem sum_zero (ys : List Int) : (ys.map fun _ => 0).sum = 0 := by
  induction ys with
  | nil => rfl
  | cons y r ih => rw [List.map_cons, List.sum_cons, ih]
theorem sum_add (f g : Int → Nat) (ys : List Int) : (ys.map fun q => f q + g q).sum = (ys.map f).sum + (ys.map g).sum := by
  induction ys with
  | nil => rfl
  | cons y r ih => simp only [List.map_cons, List.sum_cons, ih]; omega
theorem filter_sum (f : Int → Bool) (ys : List Int) : (ys.filter f).length = (ys.map fun q => if f q = true then 1 else 0).sum := by
  induction ys with
  | nil => rfl
  | cons y r ih =>
    by_cases e : f y = true
    · simp [List.filter_cons_of_pos e, ih, e]; omega
    · simp [List.filter_cons_of_neg e, ih, e]
/-- pairs are counted from either side -/
theorem pairs_swap (f : Int → Int → Bool) (xs ys : List Int) : (xs.map fun p => (ys.filter fun q => f p q).length).sum = (ys.map fun q => (xs.filter fun p => f p q).length).sum := by
  induction xs with
  | nil => simp [sum_zero]
  | cons x r ih =>
    simp only [List.map_cons, List.sum_cons, ih]
    rw [filter_sum (fun q => f x q), ← sum_add]
    congr 1
    refine List.map_congr_left fun q _ => ?_
    by_cases e : f x q = true
    · rw [if_pos e, List.filter_cons_of_pos (by exact e), List.length_cons]; omega
    · rw [if_neg e, List.filter_cons_of_neg (by exact e)]; omega
theorem prI_swap (s : Int) (xs ys : List Int) (i : Int) : prI s xs ys i = (ys.map fun q => (xs.filter fun p => (p + q) % s == i).length).sum := pairs_swap (fun p q => (p + q) % s == i) xs ys
theorem prI_comm (s : Int) (xs ys : List Int) (i : Int) : prI s xs ys i = prI s ys xs i := by
  rw [prI_swap]
  unfold prI
  congr 1
  refine List.map_congr_left fun q _ => ?_
  congr 2
  funext p
  rw [Int.add_comm]
/-- a beat of xs is carried to i by q -/
def hit (s : Int) (xs : List Int) (i q : Int) : Bool := xs.any fun p => (p + q) % s == i
theorem filter_one {s : Int} {xs : List Int} {i q : Int} (hb : ∀ x ∈ xs, 0 ≤ x ∧ x < s) (ha : xs.Pairwise (· < ·)) : (xs.filter fun p => (p + q) % s == i).length = if hit s xs i q = true then 1 else 0 := by
  induction xs with
  | nil => rfl
  | cons x r ih =>
    have hr := ih (fun y hy => hb y (List.mem_cons_of_mem _ hy)) (List.pairwise_cons.1 ha).2
    have hxb := hb x List.mem_cons_self
    by_cases e : ((x + q) % s == i) = true
    · rw [List.filter_cons_of_pos (by exact e), List.length_cons, hr]
      have h0 : hit s r i q = false := by
        rw [Bool.eq_false_iff]
        intro h
        obtain ⟨y, hy, h2⟩ := List.any_eq_true.1 h
        have hyb := hb y (List.mem_cons_of_mem _ hy)
        have hlt := (List.pairwise_cons.1 ha).1 y hy
        rw [beq_iff_eq] at e h2
        have : (y + q) % s = (x + q) % s := by rw [h2, e]
        have h3 : s ∣ (y + q) - (x + q) := Int.dvd_of_emod_eq_zero (by rw [Int.sub_emod, this]; simp)
        rw [show (y + q) - (x + q) = y - x by omega] at h3
        have := Int.le_of_dvd (by omega) h3
        omega
      rw [h0, if_neg (by simp), if_pos (by unfold hit; rw [List.any_cons, e]; rfl)]
    · rw [List.filter_cons_of_neg (by exact e), hr]
      have : hit s (x :: r) i q = hit s r i q := by unfold hit; rw [List.any_cons, Bool.eq_false_iff.2 e, Bool.false_or]
      rw [this]
theorem prI_hit {s : Int} {xs ys : List Int} {i : Int} (hb : ∀ x ∈ xs, 0 ≤ x ∧ x < s) (ha : xs.Pairwise (· < ·)) : prI s xs ys i = (ys.filter fun q => hit s xs i q).length := by
  rw [prI_swap, filter_sum]
  congr 1
  exact List.map_congr_left fun q _ => filter_one hb ha

/- The sum of two rhythms and whether it is there. -/
def sumRs (s : Int) (xs : List Int) (t : Int) (ys : List Int) : Int := if twoOk s xs t ys = true then s else 0
def sumRl (s : Int) (xs : List Int) (t : Int) (ys : List Int) : List Int := if twoOk s xs t ys = true then sumL s xs ys else []
theorem sumL_len {s : Int} {xs ys : List Int} (h : rhOk s xs = true) : (sumL s xs ys).length ≤ 24 := by
  have := (rhOk_iff.1 h).1
  have := selTo_len (sumP (sumC s xs ys)) s.toNat
  unfold sumL
  omega

/- Sums of rhythms: the plain laws of FnSums. -/
/-- how often i is a difference of two beats -/
def dfI (s : Int) (xs : List Int) (i : Int) : Nat := (xs.map fun p => (xs.filter fun q => (p - q) % s == i).length).sum
theorem pr_nonneg (n : Nat) (xs ys : List Int) (i : Nat) (hi : i < n) (h1 : 1 ≤ n) : (sumC n xs ys)[i]?.getD 0 = ((prI n xs ys i : Nat) : Int) := sumC_at (by omega) (by rw [Int.toNat_natCast]; exact hi)
theorem ext_getD {a b : List Int} (hl : a.length = b.length) (h : ∀ i : Nat, i < a.length → a[i]?.getD 0 = b[i]?.getD 0) : a = b := by
  refine List.ext_getElem hl fun i h1 h2 => ?_
  have := h i h1
  rw [List.getElem?_eq_getElem h1, List.getElem?_eq_getElem h2] at this
  exact this
theorem sumC_comm {n : Nat} (h1 : 1 ≤ n) (xs ys : List Int) : sumC n xs ys = sumC n ys xs := by
  refine ext_getD (by rw [sumC_len, sumC_len]) fun i hi => ?_
  rw [sumC_len, Int.toNat_natCast] at hi
  rw [pr_nonneg n xs ys i hi h1, pr_nonneg n ys xs i hi h1, prI_comm]
theorem sumL_comm {n : Nat} (h1 : 1 ≤ n) (xs ys : List Int) : sumL n xs ys = sumL n ys xs := by
  unfold sumL; rw [sumC_comm h1]
/-- a selection and the selection of the rest -/
theorem sel_rest (p q : Int → Bool) (k : Nat) (h : ∀ i : Nat, i < k → p (i : Int) = !q (i : Int)) : (selTo p k).length + (selTo q k).length = k := by
  induction k with
  | zero => rfl
  | succ k ih =>
    have ih := ih fun i hi => h i (by omega)
    have hk := h k (by omega)
    cases hq : q (k : Int) with
    | true =>
      rw [hq] at hk
      rw [selTo_miss (by rw [hk]; rfl), selTo_hit hq, List.length_append]
      simp; omega
    | false =>
      rw [hq] at hk
      rw [selTo_hit (by rw [hk]; rfl), selTo_miss hq, List.length_append]
      simp; omega
theorem gaps_rest {n : Nat} (h1 : 1 ≤ n) (xs ys : List Int) : (selTo (gapP (sumC n xs ys)) n).length + (selTo (sumP (sumC n xs ys)) n).length = n := by
  refine sel_rest _ _ n fun i hi => ?_
  unfold gapP sumP
  rw [Int.toNat_natCast, pr_nonneg n xs ys i hi h1]
  rw [Bool.eq_iff_iff]
  simp
theorem sum_pos (f : Int → Nat) (xs : List Int) : 0 < (xs.map f).sum ↔ ∃ p ∈ xs, 0 < f p := by
  induction xs with
  | nil => simp
  | cons x r ih =>
    rw [List.map_cons, List.sum_cons]
    constructor
    · intro h
      by_cases hx : 0 < f x
      · exact ⟨x, List.mem_cons_self, hx⟩
      · obtain ⟨p, hp, h2⟩ := ih.1 (by omega)
        exact ⟨p, List.mem_cons_of_mem _ hp, h2⟩
    · rintro ⟨p, hp, h⟩
      rcases List.mem_cons.1 hp with rfl | hp
      · omega
      · have := ih.2 ⟨p, hp, h⟩
        omega
theorem filter_pos (f : Int → Bool) (xs : List Int) : 0 < (xs.filter f).length ↔ ∃ p ∈ xs, f p = true := by
  constructor
  · intro h
    obtain ⟨x, hx⟩ := List.exists_mem_of_ne_nil _ (List.length_pos_iff.1 h)
    obtain ⟨h1, h2⟩ := List.mem_filter.1 hx
    exact ⟨x, h1, h2⟩
  · rintro ⟨x, hx, hf⟩
    exact List.length_pos_iff.2 (List.ne_nil_of_mem (List.mem_filter.2 ⟨hx, hf⟩))
theorem prI_pos {s : Int} {xs ys : List Int} {i : Int} : 0 < prI s xs ys i ↔ ∃ p ∈ xs, ∃ q ∈ ys, (p + q) % s = i := by
  unfold prI
  rw [sum_pos]
  constructor
  · rintro ⟨p, hp, h⟩
    obtain ⟨q, hq, e⟩ := (filter_pos _ _).1 h
    exact ⟨p, hp, q, hq, by simpa using e⟩
  · rintro ⟨p, hp, q, hq, e⟩
    exact ⟨p, hp, (filter_pos _ _).2 ⟨q, hq, by simpa using e⟩⟩
theorem dfI_pos {s : Int} {xs : List Int} {i : Int} : 0 < dfI s xs i ↔ ∃ p ∈ xs, ∃ q ∈ xs, (p - q) % s = i := by
  unfold dfI
  rw [sum_pos]
  constructor
  · rintro ⟨p, hp, h⟩
    obtain ⟨q, hq, e⟩ := (filter_pos _ _).1 h
    exact ⟨p, hp, q, hq, by simpa using e⟩
  · rintro ⟨p, hp, q, hq, e⟩
    exact ⟨p, hp, (filter_pos _ _).2 ⟨q, hq, by simpa using e⟩⟩
theorem sumP_iff {n : Nat} {xs ys : List Int} (h1 : 1 ≤ n) {i : Nat} (hi : i < n) : sumP (sumC n xs ys) (i : Int) = true ↔ ∃ p ∈ xs, ∃ q ∈ ys, (p + q) % (n : Int) = (i : Int) := by
  unfold sumP
  rw [Int.toNat_natCast, pr_nonneg n xs ys i hi h1, ← prI_pos]
  simp
theorem mem_sumL {n : Nat} {xs ys : List Int} (h1 : 1 ≤ n) {x : Int} : x ∈ sumL n xs ys ↔ (0 ≤ x ∧ x < n) ∧ ∃ p ∈ xs, ∃ q ∈ ys, (p + q) % (n : Int) = x := by
  unfold sumL
  rw [Int.toNat_natCast, selTo_mem]
  constructor
  · rintro ⟨i, hi, rfl, hp⟩
    exact ⟨by omega, (sumP_iff h1 hi).1 hp⟩
  · rintro ⟨hb, h⟩
    obtain ⟨i, rfl⟩ := Int.eq_ofNat_of_zero_le hb.1
    exact ⟨i, by omega, rfl, (sumP_iff h1 (by omega)).2 h⟩
theorem asc_extS {a b : List Int} (ha : a.Pairwise (· < ·)) (hb : b.Pairwise (· < ·)) (h : ∀ x, x ∈ a ↔ x ∈ b) : a = b := by
  induction a generalizing b with
  | nil =>
    cases b with
    | nil => rfl
    | cons y r => exact absurd ((h y).2 List.mem_cons_self) (by simp)
  | cons x r ih =>
    cases b with
    | nil => exact absurd ((h x).1 List.mem_cons_self) (by simp)
    | cons y s =>
      have h1 := List.pairwise_cons.1 ha
      have h2 := List.pairwise_cons.1 hb
      have hxy : x = y := by
        rcases List.mem_cons.1 ((h x).1 List.mem_cons_self) with e | e
        · exact e
        · rcases List.mem_cons.1 ((h y).2 List.mem_cons_self) with e2 | e2
          · exact e2.symm
          · have := h2.1 x e
            have := h1.1 y e2
            omega
      subst hxy
      congr 1
      refine ih h1.2 h2.2 fun z => ?_
      constructor
      · intro hz
        rcases List.mem_cons.1 ((h z).1 (List.mem_cons_of_mem _ hz)) with e | e
        · have := h1.1 z hz; omega
        · exact e
      · intro hz
        rcases List.mem_cons.1 ((h z).2 (List.mem_cons_of_mem _ hz)) with e | e
        · have := h2.1 z hz; omega
        · exact e
theorem rot_mem' {s k x : Int} {xs : List Int} : x ∈ rotL s xs k ↔ ∃ p ∈ xs, (p + k) % s = x := by
  unfold rotL
  rw [coll_mem]
  unfold modL addL
  simp only [List.mem_map]
  constructor
  · rintro ⟨_, ⟨p, hp, rfl⟩, rfl⟩; exact ⟨p, hp, rfl⟩
  · rintro ⟨p, hp, rfl⟩; exact ⟨_, ⟨p, hp, rfl⟩, rfl⟩
/-- the sum moves with the first rhythm -/
theorem sum_rot {n : Nat} (h1 : 1 ≤ n) (xs ys : List Int) (k : Int) : sumL n (rotL n xs k) ys = rotL n (sumL n xs ys) k := by
  refine asc_extS (selTo_asc _ _) (coll_asc _) fun x => ?_
  rw [mem_sumL h1, rot_mem']
  constructor
  · rintro ⟨hb, p, hp, q, hq, e⟩
    obtain ⟨r, hr, rfl⟩ := rot_mem'.1 hp
    refine ⟨(r + q) % n, (mem_sumL h1).2 ⟨⟨Int.emod_nonneg _ (by omega), Int.emod_lt_of_pos _ (by omega)⟩, r, hr, q, hq, rfl⟩, ?_⟩
    rw [← e, Int.emod_add_emod, Int.emod_add_emod]
    congr 1; omega
  · rintro ⟨y, hy, e⟩
    obtain ⟨_, p, hp, q, hq, e2⟩ := (mem_sumL h1).1 hy
    subst e
    refine ⟨⟨Int.emod_nonneg _ (by omega), Int.emod_lt_of_pos _ (by omega)⟩, (p + k) % n, rot_mem'.2 ⟨p, hp, rfl⟩, q, hq, ?_⟩
    rw [← e2, Int.emod_add_emod, Int.emod_add_emod]
    congr 1; omega
theorem btw_all {n : Nat} {xs ys : List Int} (hx : rhOk n xs = true) (hy : rhOk n ys = true) (lo hi : Int) : btw n xs n ys lo hi = (sumC n xs ys).all fun v => inB v lo hi := by
  unfold btw
  rw [twoOk_iff.2 ⟨hx, hy, rfl⟩, Bool.true_and]
/-- a sum is direct if no difference is common -/
def apartB (n : Nat) (xs ys : List Int) : Nat → Bool
  | 0 => true
  | i + 1 => apartB n xs ys i && (dfI n xs ((i : Nat) : Int) == 0 || dfI n ys ((i : Nat) : Int) == 0 || i == 0)
theorem apartB_iff {n : Nat} {xs ys : List Int} : ∀ m, apartB n xs ys m = true ↔ ∀ i : Nat, 1 ≤ i → i < m → dfI n xs i = 0 ∨ dfI n ys i = 0 := by
  intro m
  induction m with
  | zero => simp [apartB]
  | succ m ih =>
    simp only [apartB, Bool.and_eq_true, ih, Bool.or_eq_true, beq_iff_eq]
    constructor
    · rintro ⟨h1, h2⟩ i hi him
      by_cases e : i = m
      · subst e
        rcases h2 with h2 | h2
        · exact h2
        · omega
      · exact h1 i hi (by omega)
    · intro h
      refine ⟨fun i hi him => h i hi (by omega), ?_⟩
      by_cases e : m = 0
      · exact .inr e
      · exact .inl (h m (by omega) (by omega))
theorem direct_iff {n : Nat} {xs ys : List Int} (hx : rhOk n xs = true) (hy : rhOk n ys = true) : btw n xs n ys 0 1 = true ↔ ∀ i : Nat, i < n → prI n xs ys i ≤ 1 := by
  have hn := (rhOk_iff.1 hx).1.1
  rw [btw_all hx hy, List.all_eq_true]
  constructor
  · intro h i hi
    have hl : i < (sumC n xs ys).length := by rw [sumC_len, Int.toNat_natCast]; exact hi
    have h2 := inB_iff.1 (h _ (List.getElem_mem hl))
    have h3 := pr_nonneg n xs ys i hi (by omega)
    rw [List.getElem?_eq_getElem hl] at h3
    simp only [Option.getD_some] at h3
    omega
  · intro h v hv
    obtain ⟨i, hl, rfl⟩ := List.getElem_of_mem hv
    have hi : i < n := by rw [sumC_len, Int.toNat_natCast] at hl; exact hl
    have h3 := pr_nonneg n xs ys i hi (by omega)
    rw [List.getElem?_eq_getElem hl] at h3
    simp only [Option.getD_some] at h3
    have := h i hi
    exact inB_yes (by omega)
/-- two in an ascending selection -/
theorem two_of {ys : List Int} (f : Int → Bool) (ha : ys.Pairwise (· < ·)) : 2 ≤ (ys.filter f).length ↔ ∃ p ∈ ys, ∃ q ∈ ys, p < q ∧ f p = true ∧ f q = true := by
  constructor
  · intro h
    have hs := ha.filter f
    generalize hz : ys.filter f = zs at *
    match zs, h with
    | a :: b :: r, _ =>
      have h1 := (List.pairwise_cons.1 hs).1 b (by simp)
      have hma : a ∈ ys.filter f := by rw [hz]; simp
      have hmb : b ∈ ys.filter f := by rw [hz]; simp
      exact ⟨a, (List.mem_filter.1 hma).1, b, (List.mem_filter.1 hmb).1, h1, (List.mem_filter.1 hma).2, (List.mem_filter.1 hmb).2⟩
  · rintro ⟨p, hp, q, hq, hlt, fp, fq⟩
    have h1 : p ∈ ys.filter f := List.mem_filter.2 ⟨hp, fp⟩
    have h2 : q ∈ ys.filter f := List.mem_filter.2 ⟨hq, fq⟩
    generalize hz : ys.filter f = zs at *
    match zs with
    | [] => cases h1
    | [a] =>
      rw [List.mem_singleton] at h1 h2
      omega
    | a :: b :: r => simp
theorem mod_eq_iff {n : Nat} (_h1 : 1 ≤ n) {a b : Int} : a % (n : Int) = b % n ↔ (a - b) % (n : Int) = 0 := by
  rw [Int.emod_eq_emod_iff_emod_sub_eq_zero]
theorem direct_apart {n : Nat} {xs ys : List Int} (hx : rhOk n xs = true) (hy : rhOk n ys = true) : btw n xs n ys 0 1 = apartB n xs ys n := by
  obtain ⟨hn, hxb, hxa⟩ := rhOk_iff.1 hx
  obtain ⟨_, hyb, hya⟩ := rhOk_iff.1 hy
  rw [Bool.eq_iff_iff, direct_iff hx hy, apartB_iff]
  constructor
  · intro h j hj1 hjn
    refine Classical.byContradiction fun hc => ?_
    have ha : 0 < dfI n xs j := by omega
    have hb : 0 < dfI n ys j := by omega
    obtain ⟨p, hp, p', hp', e1⟩ := dfI_pos.1 ha
    obtain ⟨q, hq, q', hq', e2⟩ := dfI_pos.1 hb
    -- p + q' and p' + q are one pulse
    have heq : (p + q') % (n : Int) = (p' + q) % n := by
      rw [mod_eq_iff (by omega)]
      have : (p + q') - (p' + q) = (p - p') - (q - q') := by omega
      rw [this, Int.sub_emod, e1, e2]
      simp
    have hqq : q ≠ q' := fun e => by
      subst e
      rw [Int.sub_self] at e2
      simp at e2
      omega
    have hi := Int.emod_nonneg (p + q') (show (n : Int) ≠ 0 by omega)
    have hi2 := Int.emod_lt_of_pos (p + q') (show 0 < (n : Int) by omega)
    obtain ⟨i, hie⟩ := Int.eq_ofNat_of_zero_le hi
    have hc1 := h i (by omega)
    rw [prI_hit (fun x hx => by have := hxb x hx; omega) hxa] at hc1
    have h2 : 2 ≤ (ys.filter fun q => hit n xs i q).length := by
      rw [two_of _ hya]
      have f1 : hit n xs i q' = true := List.any_eq_true.2 ⟨p, hp, by rw [beq_iff_eq]; exact hie⟩
      have f2 : hit n xs i q = true := List.any_eq_true.2 ⟨p', hp', by rw [beq_iff_eq, ← heq]; exact hie⟩
      rcases Int.lt_or_gt_of_ne hqq with hl | hl
      · exact ⟨q, hq, q', hq', hl, f2, f1⟩
      · exact ⟨q', hq', q, hq, hl, f1, f2⟩
    omega
  · intro h i hi
    rw [prI_hit (fun x hx => by have := hxb x hx; omega) hxa]
    refine Classical.byContradiction fun hc => ?_
    obtain ⟨q, hq, q', hq', hlt, f1, f2⟩ := (two_of _ hya).1 (show 2 ≤ (ys.filter fun q => hit n xs i q).length by omega)
    obtain ⟨p, hp, e1⟩ := List.any_eq_true.1 f1
    obtain ⟨p', hp', e2⟩ := List.any_eq_true.1 f2
    rw [beq_iff_eq] at e1 e2
    -- the difference q' - q
    have hqb := hyb q hq
    have hqb' := hyb q' hq'
    obtain ⟨j, hj⟩ := Int.eq_ofNat_of_zero_le (show 0 ≤ q' - q by omega)
    have hy2 : 0 < dfI n ys j := dfI_pos.2 ⟨q', hq', q, hq, by rw [hj, Int.emod_eq_of_lt (by omega) (by omega)]⟩
    have hx2 : 0 < dfI n xs j := dfI_pos.2 ⟨p, hp, p', hp', by
      have : (p + q) % (n : Int) = (p' + q') % n := by rw [e1, e2]
      rw [mod_eq_iff (by omega)] at this
      have h3 : (p - p' - (j : Int)) % (n : Int) = 0 := by rw [← hj, show p - p' - (q' - q) = p + q - (p' + q') by omega]; exact this
      have h4 := (mod_eq_iff (n := n) (by omega)).2 h3
      rw [h4, Int.emod_eq_of_lt (by omega) (by omega)]⟩
    have := h j (by omega) (by omega)
    omega
theorem tile_direct {n : Nat} {xs ys : List Int} (hx : rhOk n xs = true) (hy : rhOk n ys = true) : btw n xs n ys 1 1 = (btw n xs n ys 0 1 && decide ((selTo (gapP (sumC n xs ys)) n).length = 0)) := by
  have hn := (rhOk_iff.1 hx).1.1
  have hg : (selTo (gapP (sumC n xs ys)) n).length = 0 ↔ ∀ v ∈ sumC n xs ys, v ≠ 0 := by
    rw [List.length_eq_zero_iff, List.eq_nil_iff_forall_not_mem]
    constructor
    · intro h v hv e
      obtain ⟨i, hl, rfl⟩ := List.getElem_of_mem hv
      have hi : i < n := by rw [sumC_len, Int.toNat_natCast] at hl; exact hl
      refine h (i : Int) (selTo_mem.2 ⟨i, hi, rfl, ?_⟩)
      unfold gapP
      rw [Int.toNat_natCast, List.getElem?_eq_getElem hl]
      simpa using e
    · intro h x hx
      obtain ⟨i, hi, rfl, hp⟩ := selTo_mem.1 hx
      have hl : i < (sumC n xs ys).length := by rw [sumC_len, Int.toNat_natCast]; exact hi
      unfold gapP at hp
      rw [Int.toNat_natCast, List.getElem?_eq_getElem hl] at hp
      exact h _ (List.getElem_mem hl) (by simpa using hp)
  rw [btw_all hx hy, btw_all hx hy, Bool.eq_iff_iff, Bool.and_eq_true, decide_eq_true_iff, hg, List.all_eq_true, List.all_eq_true]
  constructor
  · intro h
    exact ⟨fun v hv => by have := inB_iff.1 (h v hv); exact inB_yes (by omega), fun v hv => by have := inB_iff.1 (h v hv); omega⟩
  · rintro ⟨h1, h2⟩ v hv
    have := inB_iff.1 (h1 v hv)
    have := h2 v hv
    exact inB_yes (by omega)
theorem pos_le_sum {l : List Int} (h : ∀ x ∈ l, 0 ≤ x) : ((l.filter fun x => decide (0 < x)).length : Int) ≤ l.sum := by
  induction l with
  | nil => simp
  | cons x r ih =>
    have h1 := h x List.mem_cons_self
    have h2 := ih fun y hy => h y (List.mem_cons_of_mem _ hy)
    rw [List.sum_cons]
    by_cases e : 0 < x
    · rw [List.filter_cons_of_pos (by simpa using e), List.length_cons]; omega
    · rw [List.filter_cons_of_neg (by simpa using e)]; omega
theorem pos_eq_sum {l : List Int} (h : ∀ x ∈ l, 0 ≤ x) : ((l.filter fun x => decide (0 < x)).length : Int) = l.sum ↔ ∀ x ∈ l, x ≤ 1 := by
  induction l with
  | nil => simp
  | cons x r ih =>
    have h1 := h x List.mem_cons_self
    have hr := fun y hy => h y (List.mem_cons_of_mem x hy)
    have h2 := ih hr
    have h3 := pos_le_sum hr
    rw [List.sum_cons]
    by_cases e : 0 < x
    · rw [List.filter_cons_of_pos (by simpa using e), List.length_cons]
      constructor
      · intro he
        have h4 := h2.1 (by omega)
        intro y hy
        rcases List.mem_cons.1 hy with rfl | hy
        · omega
        · exact h4 y hy
      · intro he
        have := he x List.mem_cons_self
        have := h2.2 fun y hy => he y (List.mem_cons_of_mem _ hy)
        omega
    · rw [List.filter_cons_of_neg (by simpa using e)]
      constructor
      · intro he
        have h4 := h2.1 (by omega)
        intro y hy
        rcases List.mem_cons.1 hy with rfl | hy
        · omega
        · exact h4 y hy
      · intro he
        have := h2.2 fun y hy => he y (List.mem_cons_of_mem _ hy)
        omega
/-- the selection's length is the number of the counts that are wanted -/
theorem sel_filter (L : List Int) (f : Int → Bool) : ∀ k, k ≤ L.length → (selTo (fun p => f (L[p.toNat]?.getD 0)) k).length = ((L.take k).filter f).length := by
  intro k
  induction k with
  | zero => intro _; rfl
  | succ k ih =>
    intro hk
    have ih := ih (by omega)
    have hx := List.getElem?_eq_getElem (l := L) (i := k) (by omega)
    rw [filter_take_snoc f hx]
    by_cases e : f L[k] = true
    · rw [if_pos e, selTo_hit (by rw [Int.toNat_natCast, hx]; exact e), List.length_append, ih]; rfl
    · rw [if_neg e, selTo_miss (by rw [Int.toNat_natCast, hx]; simpa using e), ih]; rfl
theorem direct_len {n : Nat} {xs ys : List Int} (hx : rhOk n xs = true) (hy : rhOk n ys = true) : btw n xs n ys 0 1 = decide (((sumL n xs ys).length : Int) = (xs.length : Int) * (ys.length : Int)) := by
  have hn := (rhOk_iff.1 hx).1.1
  have hnn : ∀ v ∈ sumC n xs ys, 0 ≤ v := fun v hv => by
    obtain ⟨i, hl, rfl⟩ := List.getElem_of_mem hv
    have hi : i < n := by rw [sumC_len, Int.toNat_natCast] at hl; exact hl
    have h3 := pr_nonneg n xs ys i hi (by omega)
    rw [List.getElem?_eq_getElem hl] at h3
    simp only [Option.getD_some] at h3
    omega
  have hl : (sumL n xs ys).length = ((sumC n xs ys).filter fun x => decide (0 < x)).length := by
    have := sel_filter (sumC n xs ys) (fun x => decide (0 < x)) n (by rw [sumC_len, Int.toNat_natCast]; exact Nat.le_refl _)
    rw [List.take_of_length_le (by rw [sumC_len, Int.toNat_natCast]; exact Nat.le_refl _)] at this
    rw [← this]
    unfold sumL
    rw [Int.toNat_natCast]
    rfl
  have hs := sumC_sum (s := (n : Int)) (xs := xs) (ys := ys) hn
  rw [btw_all hx hy, Bool.eq_iff_iff, decide_eq_true_iff, hl, ← Int.natCast_mul, ← hs, pos_eq_sum hnn, List.all_eq_true]
  constructor
  · intro h v hv; exact (inB_iff.1 (h v hv)).2
  · intro h v hv; exact inB_yes ⟨hnn v hv, h v hv⟩

/- Euler's function: the program's count and the reference's are one number. -/
def totTo (n : Int) : Nat → Int
  | 0 => 0
  | k + 1 => totTo n k + (if gcdI ((k : Int) + 1) n = 1 then 1 else 0)
theorem totTo_bd (n : Int) (k : Nat) : 0 ≤ totTo n k ∧ totTo n k ≤ k := by
  induction k with
  | zero => simp [totTo]
  | succ k ih => simp only [totTo]; split <;> omega
theorem totTo_hit (n : Int) (k : Nat) (h : gcdI ((k : Int) + 1) n = 1) : totTo n (k + 1) = totTo n k + 1 := by simp [totTo, h]
theorem totTo_miss (n : Int) (k : Nat) (h : gcdI ((k : Int) + 1) n ≠ 1) : totTo n (k + 1) = totTo n k := by simp [totTo, h]
def tot (n : Int) : Int := if inB n 1 1000 = true then totTo n n.toNat else 0
end Go.Proofs.Ytpejnhcmelkmeaa
