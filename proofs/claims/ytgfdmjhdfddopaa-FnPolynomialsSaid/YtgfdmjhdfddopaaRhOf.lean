/- The rhythm of some numbers. -/
import Derived.Test.YtgfdmjhdfddopaaCollPlain
import Derived.Test.YtgfdmjhdfddopaaBas
import Derived.Test.YtgfdmjhdfddopaaTls
import Derived.Shelf.Slices.In.SortNone
namespace Go.Proofs.Ytgfdmjhdfddopaa
open Go.RowKit
set_option maxRecDepth 20000

theorem sort_nil (A : Option Addr) (c : Nat) (w : World) : Calls Try.prog 89 #[.slice A 0 c] w fun e w' => e = .returned (.tuple #[]) ∧ w' = w := Go.Proofs.Any.slices_Sort_int_none laysSort A c w
theorem compact_nil (A : Option Addr) (c : Nat) (w : World) : Calls Try.prog 90 #[.slice A 0 c] w fun e w' => e = .returned (.slice A 0 c) ∧ w' = w := Go.Proofs.Any.slices_Compact_int_empty laysCompact A c w
theorem eql_nil_nil (n c : Nat) (w : World) : Sem.run Try.prog (binOp BinOp.eql 23 (.slice none n c) (.slice none 0 0)) w = .ok (.bool true) w := by kernel_rfl
theorem clone_nil (w : World) : Calls Try.prog 72 #[.slice none 0 0] w fun e w' => e = .returned (.slice none 0 0) ∧ w = w' := by
  have hq := eql_nil_nil 0 0 w
  go_enter Try.func72, Try.ntmps72
  go_wp2_with fail
  go_ret
  exact ⟨rfl, rfl⟩
theorem coll_nil : coll [] = [] := List.eq_nil_of_length_eq_zero (Nat.le_zero.1 (coll_len []))
set_option maxHeartbeats 400000 in
theorem collected_nil (w : World) : Calls Try.prog 86 #[.slice none 0 0] w fun e w' => e = .returned (.slice none 0 0) ∧ w = w' := by
  go_enter Try.func86, Try.ntmps86
  go_wp2_with fail
  refine (clone_nil _).mono ?_
  rintro e w1 ⟨rfl, rfl⟩
  go_wp2_with fail
  refine (sort_nil _ _ _).mono ?_
  rintro e w1 ⟨rfl, rfl⟩
  go_wp2_with fail
  refine (compact_nil _ _ _).mono ?_
  rintro e w1 ⟨rfl, rfl⟩
  go_wp2_with fail
  go_ret
  exact ⟨rfl, rfl⟩
theorem collected_row (v : Value) (base : Nat) (xs : List Int) (w : World) (hx : Row w base v xs) (hl : xs.length ≤ 1000000) :
    Calls Try.prog 86 #[v] w (GivesInts w (coll xs)) := by
  rcases hx.2 with ⟨rfl, h0⟩ | ⟨g, cap, cur, rfl, _⟩
  · have : xs = [] := List.eq_nil_of_length_eq_zero h0
    subst this
    refine (collected_nil w).mono ?_
    rintro e w' ⟨rfl, rfl⟩
    rw [coll_nil]
    exact ⟨none, 0, rfl, IO.nil _ _, Below.refl _ _⟩
  · obtain ⟨A, c, e, io⟩ := hx.io (by omega)
    injection e with e1 e2 e3
    subst e1 e3
    refine (collected_some g 0 _ xs w io.reads hl).mono ?_
    rintro e w' ⟨g', c', rfl, io', b'⟩
    exact ⟨_, c', rfl, io', b'⟩
def modL (s : Int) (xs : List Int) : List Int := xs.map (· % s)
theorem modL_take {s : Int} {xs : List Int} {k : Nat} {x : Int} (hx : xs[k]? = some x) : modL s (xs.take (k + 1)) = modL s (xs.take k) ++ [x % s] := by
  unfold modL
  rw [List.take_add_one, hx, Option.toList_some, List.map_append]; rfl
theorem modL_len (s : Int) (xs : List Int) (k : Nat) : (modL s (xs.take k)).length ≤ xs.length := by
  unfold modL; rw [List.length_map, List.length_take]; omega
set_option maxHeartbeats 1000000 in
theorem rhythmOf_any (s : Int) (A : Option Addr) (c : Nat) (xs : List Int) (w : World) (hs : 1 ≤ s ∧ s ≤ 24) (hb : ∀ x ∈ xs, -1000000000000 ≤ x ∧ x ≤ 1000000000000) (hl : xs.length ≤ 100000) (hx : IR w A xs) :
    Calls Try.prog 84 #[.int .i64 s, .slice A xs.length c] w (GivesRh w s (coll (modL s xs))) := by
  obtain ⟨hs1, hs2⟩ := hs
  have HBD := Bx.mk hb
  obtain ⟨W0, hW0⟩ : ∃ W0, W0 = w.alloc (.cells #[.int .i64 0, .slice none 0 0] 25) := ⟨_, rfl⟩
  have bw : Below w.heap.size w W0 := by rw [hW0]; exact below_alloc _ _
  have hz : w.heap.size < W0.heap.size := by rw [hW0]; simp
  have R0 : Blk W0 w.heap.size 25 #[.int .i64 0, .slice none 0 0] := by rw [hW0]; exact Blk.new w _ _
  have HX := Bx.mk (hx.below bw)
  clear hx hb
  go_enter Try.func84, Try.ntmps84
  go_wp2_with fail
  rw [← hW0]
  clear hW0
  go_loopw [5, 10] (fun v i wr => ∃ k : Nat, k ≤ xs.length ∧ i = .int .i64 k ∧ Row wr W0.heap.size v (modL s (xs.take k)) ∧ Below W0.heap.size W0 wr) (fun _ i _ => xs.length - (intOf i).toNat)
  case atStart => exact ⟨0, by omega, rfl, Row.nil _ _, Below.refl _ _⟩
  case round =>
    obtain ⟨k, hk, rfl, hrow, hbb⟩ := hrel
    have hlen := modL_len s xs k
    have hzr := hbb.size
    by_cases hlt : k < xs.length
    · obtain ⟨b, o, x, rfl, hbk, c1, H3⟩ := (HX.out.below hbb).one hlt
      have H4 := Bx.mk H3.out
      clear H3
      have hki : (k : Int) < (xs.length : Int) := by omega
      obtain ⟨hx1, hx2⟩ := HBD.out x (List.mem_of_getElem? H4.out)
      have HN := Bx.mk (modL_take (s := s) H4.out)
      have HO := Bx.mk hrow
      have HB := Bx.mk hbb
      clear hrow hbb
      go_wp2_with fail
      refine (remainder_any _ _ hs1 (by omega) ⟨by omega, by omega⟩ _).mono ?_
      rintro e w2 ⟨rfl, rfl⟩
      go_wp2_with (at_builtin; go_must (refine wpList_app1 rfl _ _ rfl W0.heap.size _ (modL s (xs.take k)) (x % s) rfl rfl (by exact HO.out) (by omega) (by exact hzr) ?_); intro v1 w4 hown1 hb1)
      have R := Bx.mk (And.intro hown1 (HB.out.trans hb1))
      clear hown1 hb1
      go_wp2_with fail
      go_roundw
      case rel => exact ⟨k + 1, by omega, by go_num, by rw [HN.out]; exact R.out.1, R.out.2⟩
      case measure => simp [intOf]; omega
    · have hkl : k = xs.length := by omega
      have HO : Bx (Row wr W0.heap.size _ (modL s xs)) := ⟨by have := hrow; rwa [hkl, List.take_length] at this⟩
      have hml : (modL s xs).length ≤ 1000000 := by unfold modL; rw [List.length_map]; omega
      have HB := Bx.mk hbb
      replace R0 := R0.below hbb hz
      clear hrow hbb hkl
      go_wp2_with fail
      refine (collected_row _ _ _ _ HO.out hml).mono ?_
      rintro e w2 ⟨A2, c2, rfl, io, b⟩
      obtain ⟨ys, hys⟩ : ∃ ys, ys = coll (modL s xs) := ⟨_, rfl⟩
      rw [← hys] at io ⊢
      have HYS := Bx.mk hys
      clear hys
      replace R0 := R0.below b (by omega)
      have cr0 := R0.at_ (i := 0) rfl
      have cr1 := R0.at_ (i := 1) rfl
      have fr0 := R0.frozen 0
      have fr1 := R0.frozen 1
      have bw2 := (bw.trans (HB.out.mono bw.size)).trans (b.mono (by omega))
      have RF := Bx.mk ((R0.set 0 (.int .i64 s)).set 1 (.slice A2 ys.length c2))
      have BF := Bx.mk ((bw2.setCell (p := ⟨w.heap.size, 0, none⟩) (show w.heap.size ≤ w.heap.size by omega) (.int .i64 s)).setCell (p := ⟨w.heap.size, 1, none⟩) (show w.heap.size ≤ w.heap.size by omega) (.slice A2 ys.length c2))
      have hlow : w.heap.size < wr.heap.size := by omega
      have HIO := Bx.mk (((io.setLow (p := ⟨w.heap.size, 0, none⟩) hlow (.int .i64 s)).setLow (p := ⟨w.heap.size, 1, none⟩) hlow (.slice A2 ys.length c2)).mono (show w.heap.size ≤ wr.heap.size by omega))
      clear R0 b io bw2
      go_wp2_with fail
      refine bodyPost_ret (v := .agg #[.int .i64 s, .slice A2 ys.length c2]) (by simp [results, Try.results84, go_sem, RF.out.at_ (i := 0) rfl, RF.out.at_ (i := 1) rfl]) rfl ?_
      rw [← HYS.out]
      exact ⟨A2, c2, rfl, HIO.out, BF.out⟩
end Go.Proofs.Ytgfdmjhdfddopaa
