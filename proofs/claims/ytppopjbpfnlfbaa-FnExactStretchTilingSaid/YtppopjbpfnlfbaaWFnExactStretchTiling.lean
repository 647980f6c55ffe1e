/- The law on StretchTiling, walked. -/
import Derived.Test.YtppopjbpfnlfbaaStr
import Derived.Test.YtppopjbpfnlfbaaLawRR
import Derived.Test.YtppopjbpfnlfbaaLawRh
import Derived.Test.YtppopjbpfnlfbaaFinRh
import Derived.Test.YtppopjbpfnlfbaaBas
import Derived.Test.YtppopjbpfnlfbaaLawCn
import Derived.Deep.RegionHeld3
import Derived.Deep.DeepCutAuto
namespace Go.Proofs.Ytppopjbpfnlfbaa
open Go.RowKit

set_option maxHeartbeats 16000000 in
set_option maxRecDepth 20000 in
theorem walkFnExactStretchTiling (w : World) (s0 : Int) (hs0 : -9223372036854775808 ≤ s0 ∧ s0 ≤ 9223372036854775807) (A0 : Option Addr) (c0 : Nat) (xs0 : List Int) (ha0 : AR .i64 w A0 xs0) (_hf0 : Fits xs0) (s1 : Int) (hs1 : -9223372036854775808 ≤ s1 ∧ s1 ≤ 9223372036854775807) (A1 : Option Addr) (c1 : Nat) (xs1 : List Int) (ha1 : AR .i64 w A1 xs1) (_hf1 : Fits xs1) (d2 : Int) (_hd2 : -9223372036854775808 ≤ d2 ∧ d2 ≤ 9223372036854775807) :
    Calls Try.prog 3 #[.agg #[.int .i64 s0, .slice A0 xs0.length c0], .agg #[.int .i64 s1, .slice A1 xs1.length c1], .int .i64 d2] w fun e w' => e = .returned (.bool true) ∧ Below w.heap.size w w' := by
  obtain ⟨W0, hW0⟩ : ∃ W0, W0 = ((w.alloc (.cells #[.int .i64 s0, .slice A0 xs0.length c0] 24)).alloc (.cells #[.int .i64 s1, .slice A1 xs1.length c1] 24)) := ⟨_, rfl⟩
  have bw : Below w.heap.size w W0 := by rw [hW0]; exact ((Below.refl _ _).alloc (by simp <;> omega) _).alloc (by simp <;> omega) _
  have zW0 : w.heap.size + 2 ≤ W0.heap.size := by rw [hW0]; simp
  have ka0_0 : W0.cell? ⟨w.heap.size, 0, none⟩ = some (.int .i64 s0) := by rw [hW0]; simp [go_sem]
  have ka0_1 : W0.cell? ⟨w.heap.size, 1, none⟩ = some (.slice A0 xs0.length c0) := by rw [hW0]; simp [go_sem]
  have ka1_0 : W0.cell? ⟨w.heap.size + 1, 0, none⟩ = some (.int .i64 s1) := by rw [hW0]; simp [go_sem]
  have ka1_1 : W0.cell? ⟨w.heap.size + 1, 1, none⟩ = some (.slice A1 xs1.length c1) := by rw [hW0]; simp [go_sem]
  have hml0 := ha0.1
  have hml1 := ha1.1
  by_cases h0 : (xs0.length : Int) ≤ (1048576 : Int)
  rotate_left
  · have HN : Bx ((1048576 : Int) < (xs0.length : Int)) := ⟨by omega⟩
    go_enter Try.func3, Try.ntmps3
    go_wp2_with fail
    rw [← hW0]
    clear hW0
    refine (szRhythm_no _ _ _ _ hml0 _ (by omega) HN.out _).mono ?_
    rintro e w1 ⟨rfl, b⟩
    replace bw := bw.trans (b.mono bw.size)
    go_wp2_with fail
    go_ret
    exact ⟨rfl, bw⟩
  by_cases h1 : (xs1.length : Int) ≤ (1048576 - (xs0.length : Int))
  rotate_left
  · have HN : Bx ((1048576 - (xs0.length : Int)) < (xs1.length : Int)) := ⟨by omega⟩
    go_enter Try.func3, Try.ntmps3
    go_wp2_with fail
    rw [← hW0]
    clear hW0
    refine (szRhythm_yes _ _ _ _ hml0 _ (by omega) h0 _).mono ?_
    rintro e w1 ⟨rfl, b⟩
    have zw1 := b.size
    replace bw := bw.trans (b.mono bw.size)
    replace ka0_0 := ((bcell b).1 _ _ (by omega)).trans ka0_0
    replace ka0_1 := ((bcell b).1 _ _ (by omega)).trans ka0_1
    replace ka1_0 := ((bcell b).1 _ _ (by omega)).trans ka1_0
    replace ka1_1 := ((bcell b).1 _ _ (by omega)).trans ka1_1
    clear b
    go_wp2_with fail
    refine (szRhythm_no _ _ _ _ hml1 _ (by omega) HN.out _).mono ?_
    rintro e w2 ⟨rfl, b⟩
    replace bw := bw.trans (b.mono bw.size)
    go_wp2_with fail
    go_ret
    exact ⟨rfl, bw⟩
  have HX0 := Bx.mk ((RB.of_ir (ha0.ir (by omega))).below bw (Nat.le_refl _))
  have HS0 := Bx.mk hs0
  clear ha0 hs0
  have HX1 := Bx.mk ((RB.of_ir (ha1.ir (by omega))).below bw (Nat.le_refl _))
  have HS1 := Bx.mk hs1
  clear ha1 hs1
  go_enter Try.func3, Try.ntmps3
  go_wp2_with fail
  rw [← hW0]
  clear hW0
  refine (szRhythm_yes _ _ _ _ hml0 _ (by omega) h0 _).mono ?_
  rintro e w1 ⟨rfl, b⟩
  have zw1 := b.size
  replace bw := bw.trans (b.mono bw.size)
  replace ka0_0 := ((bcell b).1 _ _ (by omega)).trans ka0_0
  replace ka0_1 := ((bcell b).1 _ _ (by omega)).trans ka0_1
  replace ka1_0 := ((bcell b).1 _ _ (by omega)).trans ka1_0
  replace ka1_1 := ((bcell b).1 _ _ (by omega)).trans ka1_1
  replace HX0 := Bx.mk (HX0.out.below b (by omega))
  replace HX1 := Bx.mk (HX1.out.below b (by omega))
  clear b
  go_wp2_with fail
  refine (szRhythm_yes _ _ _ _ hml1 _ (by omega) h1 _).mono ?_
  rintro e w2 ⟨rfl, b⟩
  have zw2 := b.size
  replace bw := bw.trans (b.mono bw.size)
  replace ka0_0 := ((bcell b).1 _ _ (by omega)).trans ka0_0
  replace ka0_1 := ((bcell b).1 _ _ (by omega)).trans ka0_1
  replace ka1_0 := ((bcell b).1 _ _ (by omega)).trans ka1_0
  replace ka1_1 := ((bcell b).1 _ _ (by omega)).trans ka1_1
  replace HX0 := Bx.mk (HX0.out.below b (by omega))
  replace HX1 := Bx.mk (HX1.out.below b (by omega))
  clear b
  go_upto_region 8 with (fail)
  go_cut [8, 9, 10] (fun s8 s9 sv wx => ∃ (g h : Nat) (A : Option Addr) (c : Nat) (A' : Option Addr) (c' m : Nat), s8 = .pointer (some ⟨g, 0, none⟩) ∧ s9 = .pointer (some ⟨h, 0, none⟩) ∧ sv = .bool ((strOk s0 xs0 s1 xs1 d2)) ∧ Bx (Blk wx g 26 #[.int .i64 ((strS s0 xs0 s1 xs1 d2)), .slice A ((strA s0 xs0 s1 xs1 d2)).length c] ∧ Blk wx h 26 #[.int .i64 ((strS s0 xs0 s1 xs1 d2)), .slice A' ((strB s0 xs0 s1 xs1 d2)).length c'] ∧ (w2.heap.size ≤ g ∧ w2.heap.size ≤ h ∧ g < wx.heap.size ∧ h < wx.heap.size ∧ w2.heap.size ≤ m ∧ m ≤ wx.heap.size) ∧ OB w2.heap.size m wx A c ((strA s0 xs0 s1 xs1 d2)) ∧ OB m wx.heap.size wx A' c' ((strB s0 xs0 s1 xs1 d2)) ∧ Below w2.heap.size w2 wx))
  case first => as_aux_lemma =>
    have hB : Bx (Below w2.heap.size w2 w2.drew) := ⟨(Below.refl _ _).drew⟩
    have hB0 : Bx (Below w2.heap.size w2 w2) := ⟨Below.refl _ _⟩
    have ka0_0_d : w2.drew.cell? _ = _ := ka0_0
    have ka0_1_d : w2.drew.cell? _ = _ := ka0_1
    have ka1_0_d : w2.drew.cell? _ = _ := ka1_0
    have ka1_1_d : w2.drew.cell? _ = _ := ka1_1
    go_region_held3 (fun w' => w'.cell? ⟨w.heap.size, 0, none⟩ = some (.int .i64 s0) ∧ w'.cell? ⟨w.heap.size, 1, none⟩ = some (.slice A0 xs0.length c0) ∧ w'.cell? ⟨w.heap.size + 1, 0, none⟩ = some (.int .i64 s1) ∧ w'.cell? ⟨w.heap.size + 1, 1, none⟩ = some (.slice A1 xs1.length c1) ∧ Bx (Below w2.heap.size w2 w'))
      ((refine (fun (hK : Bx (Below w2.heap.size w2 _)) => ⟨((bcell hK.out).1 _ _ (by omega)).trans ka0_0, ((bcell hK.out).1 _ _ (by omega)).trans ka0_1, ((bcell hK.out).1 _ _ (by omega)).trans ka1_0, ((bcell hK.out).1 _ _ (by omega)).trans ka1_1, hK⟩) ?_; repeat' (first | with_reducible assumption | with_reducible refine bx_alloc ?_ _ | with_reducible refine bx_drew ?_ | with_reducible refine bx_setb ?_ ?_ _ _ | with_reducible exact Nat.le_refl _ | with_reducible exact Nat.le_succ_of_le (by with_reducible assumption) | with_reducible exact Nat.le_succ_of_le (Nat.le_refl _) | with_reducible exact Nat.le_succ_of_le (Nat.le_succ_of_le (by with_reducible assumption)) | with_reducible exact bx_size (by with_reducible assumption) | omega | assumption | (simp; done) | (simp; omega))))
      (first
        | (go_at_call_of 6 (c0); refine (toRhythm_any _ _ _ _ _ (by exact HX0.out.ir.below (Bx.out (by repeat' (first | with_reducible assumption | with_reducible refine bx_alloc ?_ _ | with_reducible refine bx_drew ?_ | with_reducible refine bx_setb ?_ ?_ _ _ | with_reducible exact Nat.le_refl _ | with_reducible exact Nat.le_succ_of_le (by with_reducible assumption) | with_reducible exact Nat.le_succ_of_le (Nat.le_refl _) | with_reducible exact Nat.le_succ_of_le (Nat.le_succ_of_le (by with_reducible assumption)) | with_reducible exact bx_size (by with_reducible assumption) | omega | assumption | (simp; done) | (simp; omega)))))).mono ?_; rintro e w3 ⟨w3A, w3c, rfl, w3io, bw3⟩; have hBw3 : Bx (Below w2.heap.size w2 w3) := bx_to (by repeat' (first | with_reducible assumption | with_reducible refine bx_alloc ?_ _ | with_reducible refine bx_drew ?_ | with_reducible refine bx_setb ?_ ?_ _ _ | with_reducible exact Nat.le_refl _ | with_reducible exact Nat.le_succ_of_le (by with_reducible assumption) | with_reducible exact Nat.le_succ_of_le (Nat.le_refl _) | with_reducible exact Nat.le_succ_of_le (Nat.le_succ_of_le (by with_reducible assumption)) | with_reducible exact bx_size (by with_reducible assumption) | omega | assumption | (simp; done) | (simp; omega))) bw3; obtain ⟨hclw3, hfrw3⟩ := bcell bw3; have hzw3 := bw3.size; (try simp at hzw3); have hyw3 := bx_size hBw3; have ltaw3 : w.heap.size < w3.heap.size := (by have := bx_size hBw3; omega); have ltbw3 : w.heap.size + 1 < w3.heap.size := (by have := bx_size hBw3; omega); (try have ltw2w3 : w2.heap.size < w3.heap.size := (by omega)); (try have luw2w3 : w2.heap.size + 1 < w3.heap.size := (by omega)); skip)
        | (go_at_call_of 6 (c1); refine (toRhythm_any _ _ _ _ _ (by exact HX1.out.ir.below (Bx.out (by repeat' (first | with_reducible assumption | with_reducible refine bx_alloc ?_ _ | with_reducible refine bx_drew ?_ | with_reducible refine bx_setb ?_ ?_ _ _ | with_reducible exact Nat.le_refl _ | with_reducible exact Nat.le_succ_of_le (by with_reducible assumption) | with_reducible exact Nat.le_succ_of_le (Nat.le_refl _) | with_reducible exact Nat.le_succ_of_le (Nat.le_succ_of_le (by with_reducible assumption)) | with_reducible exact bx_size (by with_reducible assumption) | omega | assumption | (simp; done) | (simp; omega)))))).mono ?_; rintro e w4 ⟨w4A, w4c, rfl, w4io, bw4⟩; have hBw4 : Bx (Below w2.heap.size w2 w4) := bx_to (by repeat' (first | with_reducible assumption | with_reducible refine bx_alloc ?_ _ | with_reducible refine bx_drew ?_ | with_reducible refine bx_setb ?_ ?_ _ _ | with_reducible exact Nat.le_refl _ | with_reducible exact Nat.le_succ_of_le (by with_reducible assumption) | with_reducible exact Nat.le_succ_of_le (Nat.le_refl _) | with_reducible exact Nat.le_succ_of_le (Nat.le_succ_of_le (by with_reducible assumption)) | with_reducible exact bx_size (by with_reducible assumption) | omega | assumption | (simp; done) | (simp; omega))) bw4; obtain ⟨hclw4, hfrw4⟩ := bcell bw4; have hzw4 := bw4.size; (try simp at hzw4); have hyw4 := bx_size hBw4; have ltaw4 : w.heap.size < w4.heap.size := (by have := bx_size hBw4; omega); have ltbw4 : w.heap.size + 1 < w4.heap.size := (by have := bx_size hBw4; omega); (try have ltw2w4 : w2.heap.size < w4.heap.size := (by omega)); (try have luw2w4 : w2.heap.size + 1 < w4.heap.size := (by omega)); (try have ltw3w4 : w3.heap.size < w4.heap.size := (by omega)); (try have luw3w4 : w3.heap.size + 1 < w4.heap.size := (by omega)); skip)
        | (go_at_call 5; refine (specStr_any _ _ _ _ _ _ _ _ _ _ HS0.out HS1.out _hd2 (by repeat' (first | exact w3io.reads | refine IR.below ?_ bw4 | refine IR.alloc ?_ _)) (by repeat' (first | exact w4io.reads | refine IR.alloc ?_ _))).mono ?_; rintro e w5 ⟨w5A, w5c, w5A', w5c', w5m, rfl, w5hm, w5ob, w5io, bw5⟩; have hBw5 : Bx (Below w2.heap.size w2 w5) := bx_to (by repeat' (first | with_reducible assumption | with_reducible refine bx_alloc ?_ _ | with_reducible refine bx_drew ?_ | with_reducible refine bx_setb ?_ ?_ _ _ | with_reducible exact Nat.le_refl _ | with_reducible exact Nat.le_succ_of_le (by with_reducible assumption) | with_reducible exact Nat.le_succ_of_le (Nat.le_refl _) | with_reducible exact Nat.le_succ_of_le (Nat.le_succ_of_le (by with_reducible assumption)) | with_reducible exact bx_size (by with_reducible assumption) | omega | assumption | (simp; done) | (simp; omega))) bw5; obtain ⟨hclw5, hfrw5⟩ := bcell bw5; have hzw5 := bw5.size; (try simp at hzw5); have hyw5 := bx_size hBw5; have ltaw5 : w.heap.size < w5.heap.size := (by have := bx_size hBw5; omega); have ltbw5 : w.heap.size + 1 < w5.heap.size := (by have := bx_size hBw5; omega); (try have ltw2w5 : w2.heap.size < w5.heap.size := (by omega)); (try have luw2w5 : w2.heap.size + 1 < w5.heap.size := (by omega)); (try have ltw3w5 : w3.heap.size < w5.heap.size := (by omega)); (try have luw3w5 : w3.heap.size + 1 < w5.heap.size := (by omega)); (try have ltw4w5 : w4.heap.size < w5.heap.size := (by omega)); (try have luw4w5 : w4.heap.size + 1 < w5.heap.size := (by omega)); skip))
    all_goals obtain ⟨w5hl, w5hh⟩ := w5hm
    all_goals have w5hs := (show _ ≤ w5m from w5hl)
    all_goals (try simp at w5hs)
    all_goals (go_wp2_with fail; go_meet)
    all_goals refine ⟨_, _, w5A, w5c, w5A', w5c', w5m, rfl, rfl, rfl, ⟨⟨?_, ?_, ⟨?_, ?_, ?_, ?_, ?_, ?_⟩, ob_fin w5ob ?_ ?_ ?_, ob_fin (OB.of w5io (Nat.le_refl _)) ?_ ?_ ?_, ?_⟩⟩⟩
    all_goals (try intro _io)
    all_goals repeat' (first
      | with_reducible exact _io
      | with_reducible exact hBw5.out
      | with_reducible exact Nat.le_refl _
      | with_reducible exact bx_size hBw3
      | with_reducible exact bx_size hBw4
      | with_reducible exact bx_size hBw5
      | with_reducible refine io_alloc' ?_ _
      | with_reducible refine io_setLowb ?_ ?_ _ _
      | with_reducible refine (io_drew' ?_)
      | with_reducible refine blk_fill2 ?_
      | (with_reducible refine blk_other2 ?_ ?_; rotate_left; focus (first | omega | (simp; done) | (simp; omega)))
      | (with_reducible refine blk_eq ?_; focus (first | rfl | omega | (simp; done) | (simp; omega)))
      | with_reducible refine Blk.alloc ?_ _
      | with_reducible refine blk_undrew ?_
      | (with_reducible refine Blk.below ?_ bw5 ?_; rotate_left; focus (first | omega | (simp; done) | (simp; omega)))
      | (with_reducible refine Blk.below ?_ bw4 ?_; rotate_left; focus (first | omega | (simp; done) | (simp; omega)))
      | (with_reducible refine Blk.below ?_ bw3 ?_; rotate_left; focus (first | omega | (simp; done) | (simp; omega)))
      | with_reducible refine bl_alloc' ?_ ?_ _
      | with_reducible refine bl_setb ?_ ?_ _ _
      | with_reducible refine bl_drew' ?_
      | omega
      | exact _io
      | exact hBw5.out
      | (simp; done)
      | (simp; omega))
  case rest =>
    obtain ⟨gw6, hw6, w6A, w6c, w6A', w6c', w6m, rfl, rfl, rfl, HC⟩ := hcut
    rename World => w6
    obtain ⟨⟨kbw6, kdw6, ⟨hglw6, hhlw6, hghw6, hhhw6, hmlw6, hmhw6⟩, oaw6, obw6, b⟩⟩ := HC
    have kHWa0 := kbw6.at_ (i := 0) rfl
    have kHWa1 := kbw6.at_ (i := 1) rfl
    have kHWb0 := kdw6.at_ (i := 0) rfl
    have kHWb1 := kdw6.at_ (i := 1) rfl
    clear kbw6 kdw6
    have HWa := Bx.mk oaw6
    have HWb := Bx.mk obw6
    clear oaw6 obw6
    have zw6 := b.size
    replace bw := bw.trans (b.mono bw.size)
    replace ka0_0 := ((bcell b).1 _ _ (by omega)).trans ka0_0
    replace ka0_1 := ((bcell b).1 _ _ (by omega)).trans ka0_1
    replace ka1_0 := ((bcell b).1 _ _ (by omega)).trans ka1_0
    replace ka1_1 := ((bcell b).1 _ _ (by omega)).trans ka1_1
    replace HX0 := Bx.mk (HX0.out.below b (by omega))
    replace HX1 := Bx.mk (HX1.out.below b (by omega))
    clear b
    go_wp2_with fail
    refine (toRhythm_any _ _ _ _ _ (by exact HX0.out.ir)).mono ?_
    rintro e w7 ⟨w7A, w7c, rfl, w7io, b⟩
    have zw7 := b.size
    replace bw := bw.trans (b.mono bw.size)
    replace ka0_0 := ((bcell b).1 _ _ (by omega)).trans ka0_0
    replace ka0_1 := ((bcell b).1 _ _ (by omega)).trans ka0_1
    replace ka1_0 := ((bcell b).1 _ _ (by omega)).trans ka1_0
    replace ka1_1 := ((bcell b).1 _ _ (by omega)).trans ka1_1
    replace kHWa0 := ((bcell b).1 _ _ (by omega)).trans kHWa0
    replace kHWa1 := ((bcell b).1 _ _ (by omega)).trans kHWa1
    replace kHWb0 := ((bcell b).1 _ _ (by omega)).trans kHWb0
    replace kHWb1 := ((bcell b).1 _ _ (by omega)).trans kHWb1
    replace HX0 := Bx.mk (HX0.out.below b (by omega))
    replace HX1 := Bx.mk (HX1.out.below b (by omega))
    replace HWa := Bx.mk (HWa.out.below b (by omega))
    replace HWb := Bx.mk (HWb.out.below b (by omega))
    clear b
    have HC0 := Bx.mk (OB.of (w7io.mono (by first | omega | (simp <;> omega) : w6.heap.size ≤ _)) (Nat.le_refl _))
    clear w7io
    have ltw7_0 : gw6 < w7.heap.size := by omega
    have ltw7_1 : hw6 < w7.heap.size := by omega
    have ltw7_2 : w.heap.size < w7.heap.size := by omega
    have ltw7_3 : w.heap.size + 1 < w7.heap.size := by omega
    go_wp2_with fail
    clear ltw7_0
    clear ltw7_1
    clear ltw7_2
    clear ltw7_3
    refine (toRhythm_any _ _ _ _ _ (by exact HX1.out.ir.alloc _)).mono ?_
    rintro e w8 ⟨w8A, w8c, rfl, w8io, b⟩
    have b' : Below w7.heap.size w7 w8 := (below_alloc _ _).trans (b.mono (by simp <;> omega))
    have kx0_0 : w8.cell? ⟨w7.heap.size, 0, none⟩ = some (.int .i64 s0) := ((bcell b).1 _ _ (by simp <;> omega)).trans (by simp [go_sem])
    have kx0_1 : w8.cell? ⟨w7.heap.size, 1, none⟩ = some (.slice w7A xs0.length w7c) := ((bcell b).1 _ _ (by simp <;> omega)).trans (by simp [go_sem])
    have zw8 : w7.heap.size + 1 ≤ w8.heap.size := by have := b.size; simp at this; omega
    replace bw := bw.trans (b'.mono bw.size)
    replace ka0_0 := ((bcell b').1 _ _ (by omega)).trans ka0_0
    replace ka0_1 := ((bcell b').1 _ _ (by omega)).trans ka0_1
    replace ka1_0 := ((bcell b').1 _ _ (by omega)).trans ka1_0
    replace ka1_1 := ((bcell b').1 _ _ (by omega)).trans ka1_1
    replace kHWa0 := ((bcell b').1 _ _ (by omega)).trans kHWa0
    replace kHWa1 := ((bcell b').1 _ _ (by omega)).trans kHWa1
    replace kHWb0 := ((bcell b').1 _ _ (by omega)).trans kHWb0
    replace kHWb1 := ((bcell b').1 _ _ (by omega)).trans kHWb1
    replace HX0 := Bx.mk (HX0.out.below b' (by omega))
    replace HX1 := Bx.mk (HX1.out.below b' (by omega))
    replace HWa := Bx.mk (HWa.out.below b' (by omega))
    replace HWb := Bx.mk (HWb.out.below b' (by omega))
    replace HC0 := Bx.mk (HC0.out.below b' (by omega))
    clear b b'
    have HC1 := Bx.mk (OB.of (w8io.mono (by first | omega | (simp <;> omega) : w7.heap.size + 1 ≤ _)) (Nat.le_refl _))
    clear w8io
    have ltw8_0 : gw6 < w8.heap.size := by omega
    have ltw8_1 : hw6 < w8.heap.size := by omega
    have ltw8_2 : w.heap.size < w8.heap.size := by omega
    have ltw8_3 : w.heap.size + 1 < w8.heap.size := by omega
    have ltw8_4 : w7.heap.size < w8.heap.size := by omega
    go_wp2_with fail
    clear ltw8_0
    clear ltw8_1
    clear ltw8_2
    clear ltw8_3
    clear ltw8_4
    refine (implStr_any _ _ _ _ _ _ _ _ _ _ HS0.out HS1.out _hd2 (by exact HC0.out.ir.alloc _) (by exact HC1.out.ir.alloc _)).mono ?_
    rintro e w9 ⟨w9A, w9c, w9A', w9c', w9m, rfl, w9hm, w9ob, w9io, b⟩
    have b' : Below w8.heap.size w8 w9 := (below_alloc _ _).trans (b.mono (by simp <;> omega))
    have kx1_0 : w9.cell? ⟨w8.heap.size, 0, none⟩ = some (.int .i64 s1) := ((bcell b).1 _ _ (by simp <;> omega)).trans (by simp [go_sem])
    have kx1_1 : w9.cell? ⟨w8.heap.size, 1, none⟩ = some (.slice w8A xs1.length w8c) := ((bcell b).1 _ _ (by simp <;> omega)).trans (by simp [go_sem])
    have zw9 : w8.heap.size + 1 ≤ w9.heap.size := by have := b.size; simp at this; omega
    replace bw := bw.trans (b'.mono bw.size)
    replace ka0_0 := ((bcell b').1 _ _ (by omega)).trans ka0_0
    replace ka0_1 := ((bcell b').1 _ _ (by omega)).trans ka0_1
    replace ka1_0 := ((bcell b').1 _ _ (by omega)).trans ka1_0
    replace ka1_1 := ((bcell b').1 _ _ (by omega)).trans ka1_1
    replace kHWa0 := ((bcell b').1 _ _ (by omega)).trans kHWa0
    replace kHWa1 := ((bcell b').1 _ _ (by omega)).trans kHWa1
    replace kHWb0 := ((bcell b').1 _ _ (by omega)).trans kHWb0
    replace kHWb1 := ((bcell b').1 _ _ (by omega)).trans kHWb1
    replace kx0_0 := ((bcell b').1 _ _ (by omega)).trans kx0_0
    replace kx0_1 := ((bcell b').1 _ _ (by omega)).trans kx0_1
    replace HX0 := Bx.mk (HX0.out.below b' (by omega))
    replace HX1 := Bx.mk (HX1.out.below b' (by omega))
    replace HWa := Bx.mk (HWa.out.below b' (by omega))
    replace HWb := Bx.mk (HWb.out.below b' (by omega))
    replace HC0 := Bx.mk (HC0.out.below b' (by omega))
    replace HC1 := Bx.mk (HC1.out.below b' (by omega))
    clear b b'
    obtain ⟨w9hl, w9hh⟩ := w9hm
    have HGa := Bx.mk (w9ob.mono0 (by first | omega | (simp <;> omega) : w8.heap.size + 1 ≤ _))
    have HGb := Bx.mk (OB.of w9io (Nat.le_refl _))
    clear w9ob w9io
    have w9hs : w8.heap.size + 1 ≤ w9m := by first | omega | (simp at w9hl; omega)
    have ltw9_0 : gw6 < w9.heap.size := by omega
    have ltw9_1 : hw6 < w9.heap.size := by omega
    have ltw9_2 : w.heap.size < w9.heap.size := by omega
    have ltw9_3 : w.heap.size + 1 < w9.heap.size := by omega
    have ltw9_4 : w7.heap.size < w9.heap.size := by omega
    have ltw9_5 : w8.heap.size < w9.heap.size := by omega
    go_wp2_with fail
    clear ltw9_0
    clear ltw9_1
    clear ltw9_2
    clear ltw9_3
    clear ltw9_4
    clear ltw9_5
    refine (eqRhythm_any _ _ _ _ _ _ _ _ _ (by exact ((HGa.out.ir.alloc _).alloc _)) (by exact ((HWa.out.ir.alloc _).alloc _))).mono ?_
    rintro e w10 ⟨rfl, b⟩
    have b' : Below w9.heap.size w9 w10 := ((below_alloc _ _).alloc (by simp <;> omega) _).trans (b.mono (by simp <;> omega))
    have kHGa0 : w10.cell? ⟨w9.heap.size, 0, none⟩ = some (.int .i64 ((strS s0 xs0 s1 xs1 d2))) := ((bcell b).1 _ _ (by simp <;> omega)).trans (by simp [go_sem])
    have kHGa1 : w10.cell? ⟨w9.heap.size, 1, none⟩ = some (.slice w9A ((strA s0 xs0 s1 xs1 d2)).length w9c) := ((bcell b).1 _ _ (by simp <;> omega)).trans (by simp [go_sem])
    have kHGb0 : w10.cell? ⟨w9.heap.size + 1, 0, none⟩ = some (.int .i64 ((strS s0 xs0 s1 xs1 d2))) := ((bcell b).1 _ _ (by simp <;> omega)).trans (by simp [go_sem])
    have kHGb1 : w10.cell? ⟨w9.heap.size + 1, 1, none⟩ = some (.slice w9A' ((strB s0 xs0 s1 xs1 d2)).length w9c') := ((bcell b).1 _ _ (by simp <;> omega)).trans (by simp [go_sem])
    have zw10 : w9.heap.size + 2 ≤ w10.heap.size := by have := b.size; simp at this; omega
    replace bw := bw.trans (b'.mono bw.size)
    replace ka0_0 := ((bcell b').1 _ _ (by omega)).trans ka0_0
    replace ka0_1 := ((bcell b').1 _ _ (by omega)).trans ka0_1
    replace ka1_0 := ((bcell b').1 _ _ (by omega)).trans ka1_0
    replace ka1_1 := ((bcell b').1 _ _ (by omega)).trans ka1_1
    replace kHWa0 := ((bcell b').1 _ _ (by omega)).trans kHWa0
    replace kHWa1 := ((bcell b').1 _ _ (by omega)).trans kHWa1
    replace kHWb0 := ((bcell b').1 _ _ (by omega)).trans kHWb0
    replace kHWb1 := ((bcell b').1 _ _ (by omega)).trans kHWb1
    replace kx0_0 := ((bcell b').1 _ _ (by omega)).trans kx0_0
    replace kx0_1 := ((bcell b').1 _ _ (by omega)).trans kx0_1
    replace kx1_0 := ((bcell b').1 _ _ (by omega)).trans kx1_0
    replace kx1_1 := ((bcell b').1 _ _ (by omega)).trans kx1_1
    replace HX0 := Bx.mk (HX0.out.below b' (by omega))
    replace HX1 := Bx.mk (HX1.out.below b' (by omega))
    replace HWa := Bx.mk (HWa.out.below b' (by omega))
    replace HWb := Bx.mk (HWb.out.below b' (by omega))
    replace HC0 := Bx.mk (HC0.out.below b' (by omega))
    replace HC1 := Bx.mk (HC1.out.below b' (by omega))
    replace HGa := Bx.mk (HGa.out.below b' (by omega))
    replace HGb := Bx.mk (HGb.out.below b' (by omega))
    clear b b'
    go_wp2_with fail
    refine (eqRhythm_any _ _ _ _ _ _ _ _ _ (by exact HGb.out.ir) (by exact HWb.out.ir)).mono ?_
    rintro e w11 ⟨rfl, b⟩
    have zw11 := b.size
    replace bw := bw.trans (b.mono bw.size)
    replace ka0_0 := ((bcell b).1 _ _ (by omega)).trans ka0_0
    replace ka0_1 := ((bcell b).1 _ _ (by omega)).trans ka0_1
    replace ka1_0 := ((bcell b).1 _ _ (by omega)).trans ka1_0
    replace ka1_1 := ((bcell b).1 _ _ (by omega)).trans ka1_1
    replace kHWa0 := ((bcell b).1 _ _ (by omega)).trans kHWa0
    replace kHWa1 := ((bcell b).1 _ _ (by omega)).trans kHWa1
    replace kHWb0 := ((bcell b).1 _ _ (by omega)).trans kHWb0
    replace kHWb1 := ((bcell b).1 _ _ (by omega)).trans kHWb1
    replace kx0_0 := ((bcell b).1 _ _ (by omega)).trans kx0_0
    replace kx0_1 := ((bcell b).1 _ _ (by omega)).trans kx0_1
    replace kx1_0 := ((bcell b).1 _ _ (by omega)).trans kx1_0
    replace kx1_1 := ((bcell b).1 _ _ (by omega)).trans kx1_1
    replace kHGa0 := ((bcell b).1 _ _ (by omega)).trans kHGa0
    replace kHGa1 := ((bcell b).1 _ _ (by omega)).trans kHGa1
    replace kHGb0 := ((bcell b).1 _ _ (by omega)).trans kHGb0
    replace kHGb1 := ((bcell b).1 _ _ (by omega)).trans kHGb1
    replace HX0 := Bx.mk (HX0.out.below b (by omega))
    replace HX1 := Bx.mk (HX1.out.below b (by omega))
    replace HWa := Bx.mk (HWa.out.below b (by omega))
    replace HWb := Bx.mk (HWb.out.below b (by omega))
    replace HC0 := Bx.mk (HC0.out.below b (by omega))
    replace HC1 := Bx.mk (HC1.out.below b (by omega))
    replace HGa := Bx.mk (HGa.out.below b (by omega))
    replace HGb := Bx.mk (HGb.out.below b (by omega))
    clear b
    go_wp2_with fail
    have hB : Bx (Below w11.heap.size w11 w11.drew) := ⟨(Below.refl _ _).drew⟩
    have ka0_0_d : w11.drew.cell? _ = _ := ka0_0
    have ka0_1_d : w11.drew.cell? _ = _ := ka0_1
    have ka1_0_d : w11.drew.cell? _ = _ := ka1_0
    have ka1_1_d : w11.drew.cell? _ = _ := ka1_1
    have kHWa0_d : w11.drew.cell? _ = _ := kHWa0
    have kHWa1_d : w11.drew.cell? _ = _ := kHWa1
    have kHWb0_d : w11.drew.cell? _ = _ := kHWb0
    have kHWb1_d : w11.drew.cell? _ = _ := kHWb1
    have kx0_0_d : w11.drew.cell? _ = _ := kx0_0
    have kx0_1_d : w11.drew.cell? _ = _ := kx0_1
    have kx1_0_d : w11.drew.cell? _ = _ := kx1_0
    have kx1_1_d : w11.drew.cell? _ = _ := kx1_1
    have kHGa0_d : w11.drew.cell? _ = _ := kHGa0
    have kHGa1_d : w11.drew.cell? _ = _ := kHGa1
    have kHGb0_d : w11.drew.cell? _ = _ := kHGb0
    have kHGb1_d : w11.drew.cell? _ = _ := kHGb1
    go_region_held3 (fun w' => w'.cell? ⟨w.heap.size, 0, none⟩ = some (.int .i64 s0) ∧ w'.cell? ⟨w.heap.size, 1, none⟩ = some (.slice A0 xs0.length c0) ∧ w'.cell? ⟨w.heap.size + 1, 0, none⟩ = some (.int .i64 s1) ∧ w'.cell? ⟨w.heap.size + 1, 1, none⟩ = some (.slice A1 xs1.length c1) ∧ w'.cell? ⟨gw6, 0, none⟩ = some (.int .i64 ((strS s0 xs0 s1 xs1 d2))) ∧ w'.cell? ⟨gw6, 1, none⟩ = some (.slice w6A ((strA s0 xs0 s1 xs1 d2)).length w6c) ∧ w'.cell? ⟨hw6, 0, none⟩ = some (.int .i64 ((strS s0 xs0 s1 xs1 d2))) ∧ w'.cell? ⟨hw6, 1, none⟩ = some (.slice w6A' ((strB s0 xs0 s1 xs1 d2)).length w6c') ∧ w'.cell? ⟨w7.heap.size, 0, none⟩ = some (.int .i64 s0) ∧ w'.cell? ⟨w7.heap.size, 1, none⟩ = some (.slice w7A xs0.length w7c) ∧ w'.cell? ⟨w8.heap.size, 0, none⟩ = some (.int .i64 s1) ∧ w'.cell? ⟨w8.heap.size, 1, none⟩ = some (.slice w8A xs1.length w8c) ∧ w'.cell? ⟨w9.heap.size, 0, none⟩ = some (.int .i64 ((strS s0 xs0 s1 xs1 d2))) ∧ w'.cell? ⟨w9.heap.size, 1, none⟩ = some (.slice w9A ((strA s0 xs0 s1 xs1 d2)).length w9c) ∧ w'.cell? ⟨w9.heap.size + 1, 0, none⟩ = some (.int .i64 ((strS s0 xs0 s1 xs1 d2))) ∧ w'.cell? ⟨w9.heap.size + 1, 1, none⟩ = some (.slice w9A' ((strB s0 xs0 s1 xs1 d2)).length w9c') ∧ Bx (Below w11.heap.size w11 w'))
      (exact ⟨by assumption, by assumption, by assumption, by assumption, by assumption, by assumption, by assumption, by assumption, by assumption, by assumption, by assumption, by assumption, by assumption, by assumption, by assumption, by assumption, by assumption⟩)
      (first
        | (go_at_call 6; refine (toRhythm_any _ _ _ _ _ (by exact HX0.out.ir.below (Bx.out (by assumption)))).mono ?_; rintro e w12 ⟨w12A, w12c, rfl, w12io, bw12⟩; have hBw12 : Bx (Below w11.heap.size w11 w12) := ⟨Below.trans (Bx.out (by assumption)) (bw12.mono (by simp))⟩; have ka0_0_w12 := ((bcell hBw12.out).1 _ _ (by omega)).trans ka0_0; have ka0_1_w12 := ((bcell hBw12.out).1 _ _ (by omega)).trans ka0_1; have ka1_0_w12 := ((bcell hBw12.out).1 _ _ (by omega)).trans ka1_0; have ka1_1_w12 := ((bcell hBw12.out).1 _ _ (by omega)).trans ka1_1; have kHWa0_w12 := ((bcell hBw12.out).1 _ _ (by omega)).trans kHWa0; have kHWa1_w12 := ((bcell hBw12.out).1 _ _ (by omega)).trans kHWa1; have kHWb0_w12 := ((bcell hBw12.out).1 _ _ (by omega)).trans kHWb0; have kHWb1_w12 := ((bcell hBw12.out).1 _ _ (by omega)).trans kHWb1; have kx0_0_w12 := ((bcell hBw12.out).1 _ _ (by omega)).trans kx0_0; have kx0_1_w12 := ((bcell hBw12.out).1 _ _ (by omega)).trans kx0_1; have kx1_0_w12 := ((bcell hBw12.out).1 _ _ (by omega)).trans kx1_0; have kx1_1_w12 := ((bcell hBw12.out).1 _ _ (by omega)).trans kx1_1; have kHGa0_w12 := ((bcell hBw12.out).1 _ _ (by omega)).trans kHGa0; have kHGa1_w12 := ((bcell hBw12.out).1 _ _ (by omega)).trans kHGa1; have kHGb0_w12 := ((bcell hBw12.out).1 _ _ (by omega)).trans kHGb0; have kHGb1_w12 := ((bcell hBw12.out).1 _ _ (by omega)).trans kHGb1)
        | (go_at_call 8; refine (eqRhythm_any _ _ _ _ _ _ _ _ _ (by exact HC0.out.ir.below hBw12.out) (by exact w12io.reads)).mono ?_; rintro e w13 ⟨rfl, bw13⟩; have hBw13 : Bx (Below w11.heap.size w11 w13) := ⟨Below.trans hBw12.out (bw13.mono hBw12.out.size)⟩; have ka0_0_w13 := ((bcell hBw13.out).1 _ _ (by omega)).trans ka0_0; have ka0_1_w13 := ((bcell hBw13.out).1 _ _ (by omega)).trans ka0_1; have ka1_0_w13 := ((bcell hBw13.out).1 _ _ (by omega)).trans ka1_0; have ka1_1_w13 := ((bcell hBw13.out).1 _ _ (by omega)).trans ka1_1; have kHWa0_w13 := ((bcell hBw13.out).1 _ _ (by omega)).trans kHWa0; have kHWa1_w13 := ((bcell hBw13.out).1 _ _ (by omega)).trans kHWa1; have kHWb0_w13 := ((bcell hBw13.out).1 _ _ (by omega)).trans kHWb0; have kHWb1_w13 := ((bcell hBw13.out).1 _ _ (by omega)).trans kHWb1; have kx0_0_w13 := ((bcell hBw13.out).1 _ _ (by omega)).trans kx0_0; have kx0_1_w13 := ((bcell hBw13.out).1 _ _ (by omega)).trans kx0_1; have kx1_0_w13 := ((bcell hBw13.out).1 _ _ (by omega)).trans kx1_0; have kx1_1_w13 := ((bcell hBw13.out).1 _ _ (by omega)).trans kx1_1; have kHGa0_w13 := ((bcell hBw13.out).1 _ _ (by omega)).trans kHGa0; have kHGa1_w13 := ((bcell hBw13.out).1 _ _ (by omega)).trans kHGa1; have kHGb0_w13 := ((bcell hBw13.out).1 _ _ (by omega)).trans kHGb0; have kHGb1_w13 := ((bcell hBw13.out).1 _ _ (by omega)).trans kHGb1))
    have b := hBw13.out
    have zw13 := b.size
    replace bw := bw.trans (b.mono bw.size)
    replace ka0_0 := ((bcell b).1 _ _ (by omega)).trans ka0_0
    replace ka0_1 := ((bcell b).1 _ _ (by omega)).trans ka0_1
    replace ka1_0 := ((bcell b).1 _ _ (by omega)).trans ka1_0
    replace ka1_1 := ((bcell b).1 _ _ (by omega)).trans ka1_1
    replace kHWa0 := ((bcell b).1 _ _ (by omega)).trans kHWa0
    replace kHWa1 := ((bcell b).1 _ _ (by omega)).trans kHWa1
    replace kHWb0 := ((bcell b).1 _ _ (by omega)).trans kHWb0
    replace kHWb1 := ((bcell b).1 _ _ (by omega)).trans kHWb1
    replace kx0_0 := ((bcell b).1 _ _ (by omega)).trans kx0_0
    replace kx0_1 := ((bcell b).1 _ _ (by omega)).trans kx0_1
    replace kx1_0 := ((bcell b).1 _ _ (by omega)).trans kx1_0
    replace kx1_1 := ((bcell b).1 _ _ (by omega)).trans kx1_1
    replace kHGa0 := ((bcell b).1 _ _ (by omega)).trans kHGa0
    replace kHGa1 := ((bcell b).1 _ _ (by omega)).trans kHGa1
    replace kHGb0 := ((bcell b).1 _ _ (by omega)).trans kHGb0
    replace kHGb1 := ((bcell b).1 _ _ (by omega)).trans kHGb1
    replace HX0 := Bx.mk (HX0.out.below b (by omega))
    replace HX1 := Bx.mk (HX1.out.below b (by omega))
    replace HWa := Bx.mk (HWa.out.below b (by omega))
    replace HWb := Bx.mk (HWb.out.below b (by omega))
    replace HC0 := Bx.mk (HC0.out.below b (by omega))
    replace HC1 := Bx.mk (HC1.out.below b (by omega))
    replace HGa := Bx.mk (HGa.out.below b (by omega))
    replace HGb := Bx.mk (HGb.out.below b (by omega))
    clear b
    go_wp2_with fail
    have hB : Bx (Below w13.heap.size w13 w13.drew) := ⟨(Below.refl _ _).drew⟩
    have ka0_0_d : w13.drew.cell? _ = _ := ka0_0
    have ka0_1_d : w13.drew.cell? _ = _ := ka0_1
    have ka1_0_d : w13.drew.cell? _ = _ := ka1_0
    have ka1_1_d : w13.drew.cell? _ = _ := ka1_1
    have kHWa0_d : w13.drew.cell? _ = _ := kHWa0
    have kHWa1_d : w13.drew.cell? _ = _ := kHWa1
    have kHWb0_d : w13.drew.cell? _ = _ := kHWb0
    have kHWb1_d : w13.drew.cell? _ = _ := kHWb1
    have kx0_0_d : w13.drew.cell? _ = _ := kx0_0
    have kx0_1_d : w13.drew.cell? _ = _ := kx0_1
    have kx1_0_d : w13.drew.cell? _ = _ := kx1_0
    have kx1_1_d : w13.drew.cell? _ = _ := kx1_1
    have kHGa0_d : w13.drew.cell? _ = _ := kHGa0
    have kHGa1_d : w13.drew.cell? _ = _ := kHGa1
    have kHGb0_d : w13.drew.cell? _ = _ := kHGb0
    have kHGb1_d : w13.drew.cell? _ = _ := kHGb1
    go_region_held3 (fun w' => w'.cell? ⟨w.heap.size, 0, none⟩ = some (.int .i64 s0) ∧ w'.cell? ⟨w.heap.size, 1, none⟩ = some (.slice A0 xs0.length c0) ∧ w'.cell? ⟨w.heap.size + 1, 0, none⟩ = some (.int .i64 s1) ∧ w'.cell? ⟨w.heap.size + 1, 1, none⟩ = some (.slice A1 xs1.length c1) ∧ w'.cell? ⟨gw6, 0, none⟩ = some (.int .i64 ((strS s0 xs0 s1 xs1 d2))) ∧ w'.cell? ⟨gw6, 1, none⟩ = some (.slice w6A ((strA s0 xs0 s1 xs1 d2)).length w6c) ∧ w'.cell? ⟨hw6, 0, none⟩ = some (.int .i64 ((strS s0 xs0 s1 xs1 d2))) ∧ w'.cell? ⟨hw6, 1, none⟩ = some (.slice w6A' ((strB s0 xs0 s1 xs1 d2)).length w6c') ∧ w'.cell? ⟨w7.heap.size, 0, none⟩ = some (.int .i64 s0) ∧ w'.cell? ⟨w7.heap.size, 1, none⟩ = some (.slice w7A xs0.length w7c) ∧ w'.cell? ⟨w8.heap.size, 0, none⟩ = some (.int .i64 s1) ∧ w'.cell? ⟨w8.heap.size, 1, none⟩ = some (.slice w8A xs1.length w8c) ∧ w'.cell? ⟨w9.heap.size, 0, none⟩ = some (.int .i64 ((strS s0 xs0 s1 xs1 d2))) ∧ w'.cell? ⟨w9.heap.size, 1, none⟩ = some (.slice w9A ((strA s0 xs0 s1 xs1 d2)).length w9c) ∧ w'.cell? ⟨w9.heap.size + 1, 0, none⟩ = some (.int .i64 ((strS s0 xs0 s1 xs1 d2))) ∧ w'.cell? ⟨w9.heap.size + 1, 1, none⟩ = some (.slice w9A' ((strB s0 xs0 s1 xs1 d2)).length w9c') ∧ Bx (Below w13.heap.size w13 w'))
      (exact ⟨by assumption, by assumption, by assumption, by assumption, by assumption, by assumption, by assumption, by assumption, by assumption, by assumption, by assumption, by assumption, by assumption, by assumption, by assumption, by assumption, by assumption⟩)
      (first
        | (go_at_call 6; refine (toRhythm_any _ _ _ _ _ (by exact HX1.out.ir.below (Bx.out (by assumption)))).mono ?_; rintro e w14 ⟨w14A, w14c, rfl, w14io, bw14⟩; have hBw14 : Bx (Below w13.heap.size w13 w14) := ⟨Below.trans (Bx.out (by assumption)) (bw14.mono (by simp))⟩; have ka0_0_w14 := ((bcell hBw14.out).1 _ _ (by omega)).trans ka0_0; have ka0_1_w14 := ((bcell hBw14.out).1 _ _ (by omega)).trans ka0_1; have ka1_0_w14 := ((bcell hBw14.out).1 _ _ (by omega)).trans ka1_0; have ka1_1_w14 := ((bcell hBw14.out).1 _ _ (by omega)).trans ka1_1; have kHWa0_w14 := ((bcell hBw14.out).1 _ _ (by omega)).trans kHWa0; have kHWa1_w14 := ((bcell hBw14.out).1 _ _ (by omega)).trans kHWa1; have kHWb0_w14 := ((bcell hBw14.out).1 _ _ (by omega)).trans kHWb0; have kHWb1_w14 := ((bcell hBw14.out).1 _ _ (by omega)).trans kHWb1; have kx0_0_w14 := ((bcell hBw14.out).1 _ _ (by omega)).trans kx0_0; have kx0_1_w14 := ((bcell hBw14.out).1 _ _ (by omega)).trans kx0_1; have kx1_0_w14 := ((bcell hBw14.out).1 _ _ (by omega)).trans kx1_0; have kx1_1_w14 := ((bcell hBw14.out).1 _ _ (by omega)).trans kx1_1; have kHGa0_w14 := ((bcell hBw14.out).1 _ _ (by omega)).trans kHGa0; have kHGa1_w14 := ((bcell hBw14.out).1 _ _ (by omega)).trans kHGa1; have kHGb0_w14 := ((bcell hBw14.out).1 _ _ (by omega)).trans kHGb0; have kHGb1_w14 := ((bcell hBw14.out).1 _ _ (by omega)).trans kHGb1)
        | (go_at_call 8; refine (eqRhythm_any _ _ _ _ _ _ _ _ _ (by exact HC1.out.ir.below hBw14.out) (by exact w14io.reads)).mono ?_; rintro e w15 ⟨rfl, bw15⟩; have hBw15 : Bx (Below w13.heap.size w13 w15) := ⟨Below.trans hBw14.out (bw15.mono hBw14.out.size)⟩; have ka0_0_w15 := ((bcell hBw15.out).1 _ _ (by omega)).trans ka0_0; have ka0_1_w15 := ((bcell hBw15.out).1 _ _ (by omega)).trans ka0_1; have ka1_0_w15 := ((bcell hBw15.out).1 _ _ (by omega)).trans ka1_0; have ka1_1_w15 := ((bcell hBw15.out).1 _ _ (by omega)).trans ka1_1; have kHWa0_w15 := ((bcell hBw15.out).1 _ _ (by omega)).trans kHWa0; have kHWa1_w15 := ((bcell hBw15.out).1 _ _ (by omega)).trans kHWa1; have kHWb0_w15 := ((bcell hBw15.out).1 _ _ (by omega)).trans kHWb0; have kHWb1_w15 := ((bcell hBw15.out).1 _ _ (by omega)).trans kHWb1; have kx0_0_w15 := ((bcell hBw15.out).1 _ _ (by omega)).trans kx0_0; have kx0_1_w15 := ((bcell hBw15.out).1 _ _ (by omega)).trans kx0_1; have kx1_0_w15 := ((bcell hBw15.out).1 _ _ (by omega)).trans kx1_0; have kx1_1_w15 := ((bcell hBw15.out).1 _ _ (by omega)).trans kx1_1; have kHGa0_w15 := ((bcell hBw15.out).1 _ _ (by omega)).trans kHGa0; have kHGa1_w15 := ((bcell hBw15.out).1 _ _ (by omega)).trans kHGa1; have kHGb0_w15 := ((bcell hBw15.out).1 _ _ (by omega)).trans kHGb0; have kHGb1_w15 := ((bcell hBw15.out).1 _ _ (by omega)).trans kHGb1))
    have b := hBw15.out
    have zw15 := b.size
    replace bw := bw.trans (b.mono bw.size)
    replace ka0_0 := ((bcell b).1 _ _ (by omega)).trans ka0_0
    replace ka0_1 := ((bcell b).1 _ _ (by omega)).trans ka0_1
    replace ka1_0 := ((bcell b).1 _ _ (by omega)).trans ka1_0
    replace ka1_1 := ((bcell b).1 _ _ (by omega)).trans ka1_1
    replace kHWa0 := ((bcell b).1 _ _ (by omega)).trans kHWa0
    replace kHWa1 := ((bcell b).1 _ _ (by omega)).trans kHWa1
    replace kHWb0 := ((bcell b).1 _ _ (by omega)).trans kHWb0
    replace kHWb1 := ((bcell b).1 _ _ (by omega)).trans kHWb1
    replace kx0_0 := ((bcell b).1 _ _ (by omega)).trans kx0_0
    replace kx0_1 := ((bcell b).1 _ _ (by omega)).trans kx0_1
    replace kx1_0 := ((bcell b).1 _ _ (by omega)).trans kx1_0
    replace kx1_1 := ((bcell b).1 _ _ (by omega)).trans kx1_1
    replace kHGa0 := ((bcell b).1 _ _ (by omega)).trans kHGa0
    replace kHGa1 := ((bcell b).1 _ _ (by omega)).trans kHGa1
    replace kHGb0 := ((bcell b).1 _ _ (by omega)).trans kHGb0
    replace kHGb1 := ((bcell b).1 _ _ (by omega)).trans kHGb1
    replace HX0 := Bx.mk (HX0.out.below b (by omega))
    replace HX1 := Bx.mk (HX1.out.below b (by omega))
    replace HWa := Bx.mk (HWa.out.below b (by omega))
    replace HWb := Bx.mk (HWb.out.below b (by omega))
    replace HC0 := Bx.mk (HC0.out.below b (by omega))
    replace HC1 := Bx.mk (HC1.out.below b (by omega))
    replace HGa := Bx.mk (HGa.out.below b (by omega))
    replace HGb := Bx.mk (HGb.out.below b (by omega))
    clear b
    go_wp2_with fail
    refine (markRhythm_any _ _ _ _ _ _ _ (by exact HC0.out.io) (by omega) (by omega)).mono ?_
    rintro e w16 ⟨rfl, m, o⟩
    have zw16 := o.size
    replace bw := bw.trans (HC0.out.bl o (by omega) (by omega))
    replace ka0_0 := (HC0.out.cell o (by omega) (by omega)).trans ka0_0
    replace ka0_1 := (HC0.out.cell o (by omega) (by omega)).trans ka0_1
    replace ka1_0 := (HC0.out.cell o (by omega) (by omega)).trans ka1_0
    replace ka1_1 := (HC0.out.cell o (by omega) (by omega)).trans ka1_1
    replace kHWa0 := (HC0.out.cell o (by omega) (by omega)).trans kHWa0
    replace kHWa1 := (HC0.out.cell o (by omega) (by omega)).trans kHWa1
    replace kHWb0 := (HC0.out.cell o (by omega) (by omega)).trans kHWb0
    replace kHWb1 := (HC0.out.cell o (by omega) (by omega)).trans kHWb1
    replace kx0_0 := (HC0.out.cell o (by omega) (by omega)).trans kx0_0
    replace kx0_1 := (HC0.out.cell o (by omega) (by omega)).trans kx0_1
    replace kx1_0 := (HC0.out.cell o (by omega) (by omega)).trans kx1_0
    replace kx1_1 := (HC0.out.cell o (by omega) (by omega)).trans kx1_1
    replace kHGa0 := (HC0.out.cell o (by omega) (by omega)).trans kHGa0
    replace kHGa1 := (HC0.out.cell o (by omega) (by omega)).trans kHGa1
    replace kHGb0 := (HC0.out.cell o (by omega) (by omega)).trans kHGb0
    replace kHGb1 := (HC0.out.cell o (by omega) (by omega)).trans kHGb1
    replace HX0 := Bx.mk (HX0.out.only o HC0.out (by omega))
    replace HX1 := Bx.mk (HX1.out.only o HC0.out (by omega))
    replace HWa := Bx.mk (HWa.out.only o HC0.out (by omega))
    replace HWb := Bx.mk (HWb.out.only o HC0.out (by omega))
    replace HC1 := Bx.mk (HC1.out.only o HC0.out (by omega))
    replace HGa := Bx.mk (HGa.out.only o HC0.out (by omega))
    replace HGb := Bx.mk (HGb.out.only o HC0.out (by omega))
    replace HC0 := Bx.mk (HC0.out.marked m)
    clear o m
    go_wp2_with fail
    refine (markRhythm_any _ _ _ _ _ _ _ (by exact HC1.out.io) (by omega) (by omega)).mono ?_
    rintro e w17 ⟨rfl, m, o⟩
    have zw17 := o.size
    replace bw := bw.trans (HC1.out.bl o (by omega) (by omega))
    replace ka0_0 := (HC1.out.cell o (by omega) (by omega)).trans ka0_0
    replace ka0_1 := (HC1.out.cell o (by omega) (by omega)).trans ka0_1
    replace ka1_0 := (HC1.out.cell o (by omega) (by omega)).trans ka1_0
    replace ka1_1 := (HC1.out.cell o (by omega) (by omega)).trans ka1_1
    replace kHWa0 := (HC1.out.cell o (by omega) (by omega)).trans kHWa0
    replace kHWa1 := (HC1.out.cell o (by omega) (by omega)).trans kHWa1
    replace kHWb0 := (HC1.out.cell o (by omega) (by omega)).trans kHWb0
    replace kHWb1 := (HC1.out.cell o (by omega) (by omega)).trans kHWb1
    replace kx0_0 := (HC1.out.cell o (by omega) (by omega)).trans kx0_0
    replace kx0_1 := (HC1.out.cell o (by omega) (by omega)).trans kx0_1
    replace kx1_0 := (HC1.out.cell o (by omega) (by omega)).trans kx1_0
    replace kx1_1 := (HC1.out.cell o (by omega) (by omega)).trans kx1_1
    replace kHGa0 := (HC1.out.cell o (by omega) (by omega)).trans kHGa0
    replace kHGa1 := (HC1.out.cell o (by omega) (by omega)).trans kHGa1
    replace kHGb0 := (HC1.out.cell o (by omega) (by omega)).trans kHGb0
    replace kHGb1 := (HC1.out.cell o (by omega) (by omega)).trans kHGb1
    replace HX0 := Bx.mk (HX0.out.only o HC1.out (by omega))
    replace HX1 := Bx.mk (HX1.out.only o HC1.out (by omega))
    replace HWa := Bx.mk (HWa.out.only o HC1.out (by omega))
    replace HWb := Bx.mk (HWb.out.only o HC1.out (by omega))
    replace HC0 := Bx.mk (HC0.out.only o HC1.out (by omega))
    replace HGa := Bx.mk (HGa.out.only o HC1.out (by omega))
    replace HGb := Bx.mk (HGb.out.only o HC1.out (by omega))
    replace HC1 := Bx.mk (HC1.out.marked m)
    clear o m
    go_wp2_with fail
    refine (eqRhythm_any _ _ _ _ _ _ _ _ _ (by exact HGa.out.ir) (by exact HWa.out.ir)).mono ?_
    rintro e w18 ⟨rfl, b⟩
    have zw18 := b.size
    replace bw := bw.trans (b.mono bw.size)
    replace ka0_0 := ((bcell b).1 _ _ (by omega)).trans ka0_0
    replace ka0_1 := ((bcell b).1 _ _ (by omega)).trans ka0_1
    replace ka1_0 := ((bcell b).1 _ _ (by omega)).trans ka1_0
    replace ka1_1 := ((bcell b).1 _ _ (by omega)).trans ka1_1
    replace kHWa0 := ((bcell b).1 _ _ (by omega)).trans kHWa0
    replace kHWa1 := ((bcell b).1 _ _ (by omega)).trans kHWa1
    replace kHWb0 := ((bcell b).1 _ _ (by omega)).trans kHWb0
    replace kHWb1 := ((bcell b).1 _ _ (by omega)).trans kHWb1
    replace kx0_0 := ((bcell b).1 _ _ (by omega)).trans kx0_0
    replace kx0_1 := ((bcell b).1 _ _ (by omega)).trans kx0_1
    replace kx1_0 := ((bcell b).1 _ _ (by omega)).trans kx1_0
    replace kx1_1 := ((bcell b).1 _ _ (by omega)).trans kx1_1
    replace kHGa0 := ((bcell b).1 _ _ (by omega)).trans kHGa0
    replace kHGa1 := ((bcell b).1 _ _ (by omega)).trans kHGa1
    replace kHGb0 := ((bcell b).1 _ _ (by omega)).trans kHGb0
    replace kHGb1 := ((bcell b).1 _ _ (by omega)).trans kHGb1
    replace HX0 := Bx.mk (HX0.out.below b (by omega))
    replace HX1 := Bx.mk (HX1.out.below b (by omega))
    replace HWa := Bx.mk (HWa.out.below b (by omega))
    replace HWb := Bx.mk (HWb.out.below b (by omega))
    replace HC0 := Bx.mk (HC0.out.below b (by omega))
    replace HC1 := Bx.mk (HC1.out.below b (by omega))
    replace HGa := Bx.mk (HGa.out.below b (by omega))
    replace HGb := Bx.mk (HGb.out.below b (by omega))
    clear b
    go_wp2_with fail
    refine (eqRhythm_any _ _ _ _ _ _ _ _ _ (by exact HGb.out.ir) (by exact HWb.out.ir)).mono ?_
    rintro e w19 ⟨rfl, b⟩
    have zw19 := b.size
    replace bw := bw.trans (b.mono bw.size)
    replace ka0_0 := ((bcell b).1 _ _ (by omega)).trans ka0_0
    replace ka0_1 := ((bcell b).1 _ _ (by omega)).trans ka0_1
    replace ka1_0 := ((bcell b).1 _ _ (by omega)).trans ka1_0
    replace ka1_1 := ((bcell b).1 _ _ (by omega)).trans ka1_1
    replace kHWa0 := ((bcell b).1 _ _ (by omega)).trans kHWa0
    replace kHWa1 := ((bcell b).1 _ _ (by omega)).trans kHWa1
    replace kHWb0 := ((bcell b).1 _ _ (by omega)).trans kHWb0
    replace kHWb1 := ((bcell b).1 _ _ (by omega)).trans kHWb1
    replace kx0_0 := ((bcell b).1 _ _ (by omega)).trans kx0_0
    replace kx0_1 := ((bcell b).1 _ _ (by omega)).trans kx0_1
    replace kx1_0 := ((bcell b).1 _ _ (by omega)).trans kx1_0
    replace kx1_1 := ((bcell b).1 _ _ (by omega)).trans kx1_1
    replace kHGa0 := ((bcell b).1 _ _ (by omega)).trans kHGa0
    replace kHGa1 := ((bcell b).1 _ _ (by omega)).trans kHGa1
    replace kHGb0 := ((bcell b).1 _ _ (by omega)).trans kHGb0
    replace kHGb1 := ((bcell b).1 _ _ (by omega)).trans kHGb1
    replace HX0 := Bx.mk (HX0.out.below b (by omega))
    replace HX1 := Bx.mk (HX1.out.below b (by omega))
    replace HWa := Bx.mk (HWa.out.below b (by omega))
    replace HWb := Bx.mk (HWb.out.below b (by omega))
    replace HC0 := Bx.mk (HC0.out.below b (by omega))
    replace HC1 := Bx.mk (HC1.out.below b (by omega))
    replace HGa := Bx.mk (HGa.out.below b (by omega))
    replace HGb := Bx.mk (HGb.out.below b (by omega))
    clear b
    go_wp2_with fail
    have hlA : ((strA s0 xs0 s1 xs1 d2)).length ≤ 1000 := strA_len _ _ _ _ _
    have hlB : ((strB s0 xs0 s1 xs1 d2)).length ≤ 1000 := strB_len _ _ _ _ _
    refine (markRhythm_any _ _ _ _ _ _ _ (by exact HGa.out.io) (by omega) (by omega)).mono ?_
    rintro e w20 ⟨rfl, m, o⟩
    have zw20 := o.size
    replace bw := bw.trans (HGa.out.bl o (by omega) (by omega))
    replace ka0_0 := (HGa.out.cell o (by omega) (by omega)).trans ka0_0
    replace ka0_1 := (HGa.out.cell o (by omega) (by omega)).trans ka0_1
    replace ka1_0 := (HGa.out.cell o (by omega) (by omega)).trans ka1_0
    replace ka1_1 := (HGa.out.cell o (by omega) (by omega)).trans ka1_1
    replace kHWa0 := (HGa.out.cell o (by omega) (by omega)).trans kHWa0
    replace kHWa1 := (HGa.out.cell o (by omega) (by omega)).trans kHWa1
    replace kHWb0 := (HGa.out.cell o (by omega) (by omega)).trans kHWb0
    replace kHWb1 := (HGa.out.cell o (by omega) (by omega)).trans kHWb1
    replace kx0_0 := (HGa.out.cell o (by omega) (by omega)).trans kx0_0
    replace kx0_1 := (HGa.out.cell o (by omega) (by omega)).trans kx0_1
    replace kx1_0 := (HGa.out.cell o (by omega) (by omega)).trans kx1_0
    replace kx1_1 := (HGa.out.cell o (by omega) (by omega)).trans kx1_1
    replace kHGa0 := (HGa.out.cell o (by omega) (by omega)).trans kHGa0
    replace kHGa1 := (HGa.out.cell o (by omega) (by omega)).trans kHGa1
    replace kHGb0 := (HGa.out.cell o (by omega) (by omega)).trans kHGb0
    replace kHGb1 := (HGa.out.cell o (by omega) (by omega)).trans kHGb1
    replace HX0 := Bx.mk (HX0.out.only o HGa.out (by omega))
    replace HX1 := Bx.mk (HX1.out.only o HGa.out (by omega))
    replace HWa := Bx.mk (HWa.out.only o HGa.out (by omega))
    replace HWb := Bx.mk (HWb.out.only o HGa.out (by omega))
    replace HC0 := Bx.mk (HC0.out.only o HGa.out (by omega))
    replace HC1 := Bx.mk (HC1.out.only o HGa.out (by omega))
    replace HGb := Bx.mk (HGb.out.only o HGa.out (by omega))
    replace HGa := Bx.mk (HGa.out.marked m)
    clear o m
    go_wp2_with fail
    refine (markRhythm_any _ _ _ _ _ _ _ (by exact HGb.out.io) (by omega) (by omega)).mono ?_
    rintro e w21 ⟨rfl, m, o⟩
    have zw21 := o.size
    replace bw := bw.trans (HGb.out.bl o (by omega) (by omega))
    replace ka0_0 := (HGb.out.cell o (by omega) (by omega)).trans ka0_0
    replace ka0_1 := (HGb.out.cell o (by omega) (by omega)).trans ka0_1
    replace ka1_0 := (HGb.out.cell o (by omega) (by omega)).trans ka1_0
    replace ka1_1 := (HGb.out.cell o (by omega) (by omega)).trans ka1_1
    replace kHWa0 := (HGb.out.cell o (by omega) (by omega)).trans kHWa0
    replace kHWa1 := (HGb.out.cell o (by omega) (by omega)).trans kHWa1
    replace kHWb0 := (HGb.out.cell o (by omega) (by omega)).trans kHWb0
    replace kHWb1 := (HGb.out.cell o (by omega) (by omega)).trans kHWb1
    replace kx0_0 := (HGb.out.cell o (by omega) (by omega)).trans kx0_0
    replace kx0_1 := (HGb.out.cell o (by omega) (by omega)).trans kx0_1
    replace kx1_0 := (HGb.out.cell o (by omega) (by omega)).trans kx1_0
    replace kx1_1 := (HGb.out.cell o (by omega) (by omega)).trans kx1_1
    replace kHGa0 := (HGb.out.cell o (by omega) (by omega)).trans kHGa0
    replace kHGa1 := (HGb.out.cell o (by omega) (by omega)).trans kHGa1
    replace kHGb0 := (HGb.out.cell o (by omega) (by omega)).trans kHGb0
    replace kHGb1 := (HGb.out.cell o (by omega) (by omega)).trans kHGb1
    replace HX0 := Bx.mk (HX0.out.only o HGb.out (by omega))
    replace HX1 := Bx.mk (HX1.out.only o HGb.out (by omega))
    replace HWa := Bx.mk (HWa.out.only o HGb.out (by omega))
    replace HWb := Bx.mk (HWb.out.only o HGb.out (by omega))
    replace HC0 := Bx.mk (HC0.out.only o HGb.out (by omega))
    replace HC1 := Bx.mk (HC1.out.only o HGb.out (by omega))
    replace HGa := Bx.mk (HGa.out.only o HGb.out (by omega))
    replace HGb := Bx.mk (HGb.out.marked m)
    clear o m
    go_wp2_with fail
    refine (heldRhythm_any _ _ _ _ _ _ (by exact HGa.out.ir) (by omega) (by omega)).mono ?_
    rintro e w22 ⟨rfl, b⟩
    have zw22 := b.size
    replace bw := bw.trans (b.mono bw.size)
    replace ka0_0 := ((bcell b).1 _ _ (by omega)).trans ka0_0
    replace ka0_1 := ((bcell b).1 _ _ (by omega)).trans ka0_1
    replace ka1_0 := ((bcell b).1 _ _ (by omega)).trans ka1_0
    replace ka1_1 := ((bcell b).1 _ _ (by omega)).trans ka1_1
    replace kHWa0 := ((bcell b).1 _ _ (by omega)).trans kHWa0
    replace kHWa1 := ((bcell b).1 _ _ (by omega)).trans kHWa1
    replace kHWb0 := ((bcell b).1 _ _ (by omega)).trans kHWb0
    replace kHWb1 := ((bcell b).1 _ _ (by omega)).trans kHWb1
    replace kx0_0 := ((bcell b).1 _ _ (by omega)).trans kx0_0
    replace kx0_1 := ((bcell b).1 _ _ (by omega)).trans kx0_1
    replace kx1_0 := ((bcell b).1 _ _ (by omega)).trans kx1_0
    replace kx1_1 := ((bcell b).1 _ _ (by omega)).trans kx1_1
    replace kHGa0 := ((bcell b).1 _ _ (by omega)).trans kHGa0
    replace kHGa1 := ((bcell b).1 _ _ (by omega)).trans kHGa1
    replace kHGb0 := ((bcell b).1 _ _ (by omega)).trans kHGb0
    replace kHGb1 := ((bcell b).1 _ _ (by omega)).trans kHGb1
    replace HX0 := Bx.mk (HX0.out.below b (by omega))
    replace HX1 := Bx.mk (HX1.out.below b (by omega))
    replace HWa := Bx.mk (HWa.out.below b (by omega))
    replace HWb := Bx.mk (HWb.out.below b (by omega))
    replace HC0 := Bx.mk (HC0.out.below b (by omega))
    replace HC1 := Bx.mk (HC1.out.below b (by omega))
    replace HGa := Bx.mk (HGa.out.below b (by omega))
    replace HGb := Bx.mk (HGb.out.below b (by omega))
    clear b
    go_wp2_with fail
    refine (heldRhythm_any _ _ _ _ _ _ (by exact HGb.out.ir) (by omega) (by omega)).mono ?_
    rintro e w23 ⟨rfl, b⟩
    have zw23 := b.size
    replace bw := bw.trans (b.mono bw.size)
    replace ka0_0 := ((bcell b).1 _ _ (by omega)).trans ka0_0
    replace ka0_1 := ((bcell b).1 _ _ (by omega)).trans ka0_1
    replace ka1_0 := ((bcell b).1 _ _ (by omega)).trans ka1_0
    replace ka1_1 := ((bcell b).1 _ _ (by omega)).trans ka1_1
    replace kHWa0 := ((bcell b).1 _ _ (by omega)).trans kHWa0
    replace kHWa1 := ((bcell b).1 _ _ (by omega)).trans kHWa1
    replace kHWb0 := ((bcell b).1 _ _ (by omega)).trans kHWb0
    replace kHWb1 := ((bcell b).1 _ _ (by omega)).trans kHWb1
    replace kx0_0 := ((bcell b).1 _ _ (by omega)).trans kx0_0
    replace kx0_1 := ((bcell b).1 _ _ (by omega)).trans kx0_1
    replace kx1_0 := ((bcell b).1 _ _ (by omega)).trans kx1_0
    replace kx1_1 := ((bcell b).1 _ _ (by omega)).trans kx1_1
    replace kHGa0 := ((bcell b).1 _ _ (by omega)).trans kHGa0
    replace kHGa1 := ((bcell b).1 _ _ (by omega)).trans kHGa1
    replace kHGb0 := ((bcell b).1 _ _ (by omega)).trans kHGb0
    replace kHGb1 := ((bcell b).1 _ _ (by omega)).trans kHGb1
    replace HX0 := Bx.mk (HX0.out.below b (by omega))
    replace HX1 := Bx.mk (HX1.out.below b (by omega))
    replace HWa := Bx.mk (HWa.out.below b (by omega))
    replace HWb := Bx.mk (HWb.out.below b (by omega))
    replace HC0 := Bx.mk (HC0.out.below b (by omega))
    replace HC1 := Bx.mk (HC1.out.below b (by omega))
    replace HGa := Bx.mk (HGa.out.below b (by omega))
    replace HGb := Bx.mk (HGb.out.below b (by omega))
    clear b
    go_upto_region 35 with (fail)
    go_cut [19, 20, 21] (fun s8 s9 sv wx => ∃ (g h : Nat) (A : Option Addr) (c : Nat) (A' : Option Addr) (c' m : Nat), s8 = .pointer (some ⟨g, 0, none⟩) ∧ s9 = .pointer (some ⟨h, 0, none⟩) ∧ sv = .bool ((strOk s0 xs0 s1 xs1 d2)) ∧ Bx (Blk wx g 26 #[.int .i64 ((strS s0 xs0 s1 xs1 d2)), .slice A ((strA s0 xs0 s1 xs1 d2)).length c] ∧ Blk wx h 26 #[.int .i64 ((strS s0 xs0 s1 xs1 d2)), .slice A' ((strB s0 xs0 s1 xs1 d2)).length c'] ∧ (w23.heap.size ≤ g ∧ w23.heap.size ≤ h ∧ g < wx.heap.size ∧ h < wx.heap.size ∧ w23.heap.size ≤ m ∧ m ≤ wx.heap.size) ∧ OB w23.heap.size m wx A c ((strA s0 xs0 s1 xs1 d2)) ∧ OB m wx.heap.size wx A' c' ((strB s0 xs0 s1 xs1 d2)) ∧ Below w23.heap.size w23 wx))
    case first => as_aux_lemma =>
      have hB : Bx (Below w23.heap.size w23 w23.drew) := ⟨(Below.refl _ _).drew⟩
      have hB0 : Bx (Below w23.heap.size w23 w23) := ⟨Below.refl _ _⟩
      clear kHWa0 kHWa1 kHWb0 kHWb1 kx0_0 kx0_1 kx1_0 kx1_1 kHGa0 kHGa1 kHGb0 kHGb1 HWa HWb HC0 HC1 HGa HGb
      have ka0_0_d : w23.drew.cell? _ = _ := ka0_0
      have ka0_1_d : w23.drew.cell? _ = _ := ka0_1
      have ka1_0_d : w23.drew.cell? _ = _ := ka1_0
      have ka1_1_d : w23.drew.cell? _ = _ := ka1_1
      go_region_held3 (fun w' => w'.cell? ⟨w.heap.size, 0, none⟩ = some (.int .i64 s0) ∧ w'.cell? ⟨w.heap.size, 1, none⟩ = some (.slice A0 xs0.length c0) ∧ w'.cell? ⟨w.heap.size + 1, 0, none⟩ = some (.int .i64 s1) ∧ w'.cell? ⟨w.heap.size + 1, 1, none⟩ = some (.slice A1 xs1.length c1) ∧ Bx (Below w23.heap.size w23 w'))
        ((refine (fun (hK : Bx (Below w23.heap.size w23 _)) => ⟨((bcell hK.out).1 _ _ (by omega)).trans ka0_0, ((bcell hK.out).1 _ _ (by omega)).trans ka0_1, ((bcell hK.out).1 _ _ (by omega)).trans ka1_0, ((bcell hK.out).1 _ _ (by omega)).trans ka1_1, hK⟩) ?_; repeat' (first | with_reducible assumption | with_reducible refine bx_alloc ?_ _ | with_reducible refine bx_drew ?_ | with_reducible refine bx_setb ?_ ?_ _ _ | with_reducible exact Nat.le_refl _ | with_reducible exact Nat.le_succ_of_le (by with_reducible assumption) | with_reducible exact Nat.le_succ_of_le (Nat.le_refl _) | with_reducible exact Nat.le_succ_of_le (Nat.le_succ_of_le (by with_reducible assumption)) | with_reducible exact bx_size (by with_reducible assumption) | omega | assumption | (simp; done) | (simp; omega))))
        (first
          | (go_at_call_of 6 (c0); refine (toRhythm_any _ _ _ _ _ (by exact HX0.out.ir.below (Bx.out (by repeat' (first | with_reducible assumption | with_reducible refine bx_alloc ?_ _ | with_reducible refine bx_drew ?_ | with_reducible refine bx_setb ?_ ?_ _ _ | with_reducible exact Nat.le_refl _ | with_reducible exact Nat.le_succ_of_le (by with_reducible assumption) | with_reducible exact Nat.le_succ_of_le (Nat.le_refl _) | with_reducible exact Nat.le_succ_of_le (Nat.le_succ_of_le (by with_reducible assumption)) | with_reducible exact bx_size (by with_reducible assumption) | omega | assumption | (simp; done) | (simp; omega)))))).mono ?_; rintro e w24 ⟨w24A, w24c, rfl, w24io, bw24⟩; have hBw24 : Bx (Below w23.heap.size w23 w24) := bx_to (by repeat' (first | with_reducible assumption | with_reducible refine bx_alloc ?_ _ | with_reducible refine bx_drew ?_ | with_reducible refine bx_setb ?_ ?_ _ _ | with_reducible exact Nat.le_refl _ | with_reducible exact Nat.le_succ_of_le (by with_reducible assumption) | with_reducible exact Nat.le_succ_of_le (Nat.le_refl _) | with_reducible exact Nat.le_succ_of_le (Nat.le_succ_of_le (by with_reducible assumption)) | with_reducible exact bx_size (by with_reducible assumption) | omega | assumption | (simp; done) | (simp; omega))) bw24; obtain ⟨hclw24, hfrw24⟩ := bcell bw24; have hzw24 := bw24.size; (try simp at hzw24); have hyw24 := bx_size hBw24; have ltaw24 : w.heap.size < w24.heap.size := (by have := bx_size hBw24; omega); have ltbw24 : w.heap.size + 1 < w24.heap.size := (by have := bx_size hBw24; omega); (try have ltw23w24 : w23.heap.size < w24.heap.size := (by omega)); (try have luw23w24 : w23.heap.size + 1 < w24.heap.size := (by omega)); skip)
          | (go_at_call_of 6 (c1); refine (toRhythm_any _ _ _ _ _ (by exact HX1.out.ir.below (Bx.out (by repeat' (first | with_reducible assumption | with_reducible refine bx_alloc ?_ _ | with_reducible refine bx_drew ?_ | with_reducible refine bx_setb ?_ ?_ _ _ | with_reducible exact Nat.le_refl _ | with_reducible exact Nat.le_succ_of_le (by with_reducible assumption) | with_reducible exact Nat.le_succ_of_le (Nat.le_refl _) | with_reducible exact Nat.le_succ_of_le (Nat.le_succ_of_le (by with_reducible assumption)) | with_reducible exact bx_size (by with_reducible assumption) | omega | assumption | (simp; done) | (simp; omega)))))).mono ?_; rintro e w25 ⟨w25A, w25c, rfl, w25io, bw25⟩; have hBw25 : Bx (Below w23.heap.size w23 w25) := bx_to (by repeat' (first | with_reducible assumption | with_reducible refine bx_alloc ?_ _ | with_reducible refine bx_drew ?_ | with_reducible refine bx_setb ?_ ?_ _ _ | with_reducible exact Nat.le_refl _ | with_reducible exact Nat.le_succ_of_le (by with_reducible assumption) | with_reducible exact Nat.le_succ_of_le (Nat.le_refl _) | with_reducible exact Nat.le_succ_of_le (Nat.le_succ_of_le (by with_reducible assumption)) | with_reducible exact bx_size (by with_reducible assumption) | omega | assumption | (simp; done) | (simp; omega))) bw25; obtain ⟨hclw25, hfrw25⟩ := bcell bw25; have hzw25 := bw25.size; (try simp at hzw25); have hyw25 := bx_size hBw25; have ltaw25 : w.heap.size < w25.heap.size := (by have := bx_size hBw25; omega); have ltbw25 : w.heap.size + 1 < w25.heap.size := (by have := bx_size hBw25; omega); (try have ltw23w25 : w23.heap.size < w25.heap.size := (by omega)); (try have luw23w25 : w23.heap.size + 1 < w25.heap.size := (by omega)); (try have ltw24w25 : w24.heap.size < w25.heap.size := (by omega)); (try have luw24w25 : w24.heap.size + 1 < w25.heap.size := (by omega)); skip)
          | (go_at_call 7; refine (implStr_any _ _ _ _ _ _ _ _ _ _ HS0.out HS1.out _hd2 (by repeat' (first | exact w24io.reads | refine IR.below ?_ bw25 | refine IR.alloc ?_ _)) (by repeat' (first | exact w25io.reads | refine IR.alloc ?_ _))).mono ?_; rintro e w26 ⟨w26A, w26c, w26A', w26c', w26m, rfl, w26hm, w26ob, w26io, bw26⟩; have hBw26 : Bx (Below w23.heap.size w23 w26) := bx_to (by repeat' (first | with_reducible assumption | with_reducible refine bx_alloc ?_ _ | with_reducible refine bx_drew ?_ | with_reducible refine bx_setb ?_ ?_ _ _ | with_reducible exact Nat.le_refl _ | with_reducible exact Nat.le_succ_of_le (by with_reducible assumption) | with_reducible exact Nat.le_succ_of_le (Nat.le_refl _) | with_reducible exact Nat.le_succ_of_le (Nat.le_succ_of_le (by with_reducible assumption)) | with_reducible exact bx_size (by with_reducible assumption) | omega | assumption | (simp; done) | (simp; omega))) bw26; obtain ⟨hclw26, hfrw26⟩ := bcell bw26; have hzw26 := bw26.size; (try simp at hzw26); have hyw26 := bx_size hBw26; have ltaw26 : w.heap.size < w26.heap.size := (by have := bx_size hBw26; omega); have ltbw26 : w.heap.size + 1 < w26.heap.size := (by have := bx_size hBw26; omega); (try have ltw23w26 : w23.heap.size < w26.heap.size := (by omega)); (try have luw23w26 : w23.heap.size + 1 < w26.heap.size := (by omega)); (try have ltw24w26 : w24.heap.size < w26.heap.size := (by omega)); (try have luw24w26 : w24.heap.size + 1 < w26.heap.size := (by omega)); (try have ltw25w26 : w25.heap.size < w26.heap.size := (by omega)); (try have luw25w26 : w25.heap.size + 1 < w26.heap.size := (by omega)); skip))
      all_goals obtain ⟨w26hl, w26hh⟩ := w26hm
      all_goals have w26hs := (show _ ≤ w26m from w26hl)
      all_goals (try simp at w26hs)
      all_goals (go_wp2_with fail; go_meet)
      all_goals refine ⟨_, _, w26A, w26c, w26A', w26c', w26m, rfl, rfl, rfl, ⟨⟨?_, ?_, ⟨?_, ?_, ?_, ?_, ?_, ?_⟩, ob_fin w26ob ?_ ?_ ?_, ob_fin (OB.of w26io (Nat.le_refl _)) ?_ ?_ ?_, ?_⟩⟩⟩
      all_goals (try intro _io)
      all_goals repeat' (first
        | with_reducible exact _io
        | with_reducible exact hBw26.out
        | with_reducible exact Nat.le_refl _
        | with_reducible exact bx_size hBw24
        | with_reducible exact bx_size hBw25
        | with_reducible exact bx_size hBw26
        | with_reducible refine io_alloc' ?_ _
        | with_reducible refine io_setLowb ?_ ?_ _ _
        | with_reducible refine (io_drew' ?_)
        | with_reducible refine blk_fill2 ?_
        | (with_reducible refine blk_other2 ?_ ?_; rotate_left; focus (first | omega | (simp; done) | (simp; omega)))
        | (with_reducible refine blk_eq ?_; focus (first | rfl | omega | (simp; done) | (simp; omega)))
        | with_reducible refine Blk.alloc ?_ _
        | with_reducible refine blk_undrew ?_
        | (with_reducible refine Blk.below ?_ bw26 ?_; rotate_left; focus (first | omega | (simp; done) | (simp; omega)))
        | (with_reducible refine Blk.below ?_ bw25 ?_; rotate_left; focus (first | omega | (simp; done) | (simp; omega)))
        | (with_reducible refine Blk.below ?_ bw24 ?_; rotate_left; focus (first | omega | (simp; done) | (simp; omega)))
        | with_reducible refine bl_alloc' ?_ ?_ _
        | with_reducible refine bl_setb ?_ ?_ _ _
        | with_reducible refine bl_drew' ?_
        | omega
        | exact _io
        | exact hBw26.out
        | (simp; done)
        | (simp; omega))
    case rest =>
      obtain ⟨gw27, hw27, w27A, w27c, w27A', w27c', w27m, rfl, rfl, rfl, HC⟩ := hcut
      rename World => w27
      obtain ⟨⟨kbw27, kdw27, ⟨hglw27, hhlw27, hghw27, hhhw27, hmlw27, hmhw27⟩, oaw27, obw27, b⟩⟩ := HC
      have kHHa0 := kbw27.at_ (i := 0) rfl
      have kHHa1 := kbw27.at_ (i := 1) rfl
      have kHHb0 := kdw27.at_ (i := 0) rfl
      have kHHb1 := kdw27.at_ (i := 1) rfl
      clear kbw27 kdw27
      have HHa := Bx.mk oaw27
      have HHb := Bx.mk obw27
      clear oaw27 obw27
      have zw27 := b.size
      replace bw := bw.trans (b.mono bw.size)
      replace ka0_0 := ((bcell b).1 _ _ (by omega)).trans ka0_0
      replace ka0_1 := ((bcell b).1 _ _ (by omega)).trans ka0_1
      replace ka1_0 := ((bcell b).1 _ _ (by omega)).trans ka1_0
      replace ka1_1 := ((bcell b).1 _ _ (by omega)).trans ka1_1
      replace kHWa0 := ((bcell b).1 _ _ (by omega)).trans kHWa0
      replace kHWa1 := ((bcell b).1 _ _ (by omega)).trans kHWa1
      replace kHWb0 := ((bcell b).1 _ _ (by omega)).trans kHWb0
      replace kHWb1 := ((bcell b).1 _ _ (by omega)).trans kHWb1
      replace kx0_0 := ((bcell b).1 _ _ (by omega)).trans kx0_0
      replace kx0_1 := ((bcell b).1 _ _ (by omega)).trans kx0_1
      replace kx1_0 := ((bcell b).1 _ _ (by omega)).trans kx1_0
      replace kx1_1 := ((bcell b).1 _ _ (by omega)).trans kx1_1
      replace kHGa0 := ((bcell b).1 _ _ (by omega)).trans kHGa0
      replace kHGa1 := ((bcell b).1 _ _ (by omega)).trans kHGa1
      replace kHGb0 := ((bcell b).1 _ _ (by omega)).trans kHGb0
      replace kHGb1 := ((bcell b).1 _ _ (by omega)).trans kHGb1
      replace HX0 := Bx.mk (HX0.out.below b (by omega))
      replace HX1 := Bx.mk (HX1.out.below b (by omega))
      replace HWa := Bx.mk (HWa.out.below b (by omega))
      replace HWb := Bx.mk (HWb.out.below b (by omega))
      replace HC0 := Bx.mk (HC0.out.below b (by omega))
      replace HC1 := Bx.mk (HC1.out.below b (by omega))
      replace HGa := Bx.mk (HGa.out.below b (by omega))
      replace HGb := Bx.mk (HGb.out.below b (by omega))
      clear b
      go_wp2_with fail
      refine (eqRhythm_any _ _ _ _ _ _ _ _ _ (by exact HHa.out.ir) (by exact HWa.out.ir)).mono ?_
      rintro e w28 ⟨rfl, b⟩
      have zw28 := b.size
      replace bw := bw.trans (b.mono bw.size)
      replace ka0_0 := ((bcell b).1 _ _ (by omega)).trans ka0_0
      replace ka0_1 := ((bcell b).1 _ _ (by omega)).trans ka0_1
      replace ka1_0 := ((bcell b).1 _ _ (by omega)).trans ka1_0
      replace ka1_1 := ((bcell b).1 _ _ (by omega)).trans ka1_1
      replace kHWa0 := ((bcell b).1 _ _ (by omega)).trans kHWa0
      replace kHWa1 := ((bcell b).1 _ _ (by omega)).trans kHWa1
      replace kHWb0 := ((bcell b).1 _ _ (by omega)).trans kHWb0
      replace kHWb1 := ((bcell b).1 _ _ (by omega)).trans kHWb1
      replace kx0_0 := ((bcell b).1 _ _ (by omega)).trans kx0_0
      replace kx0_1 := ((bcell b).1 _ _ (by omega)).trans kx0_1
      replace kx1_0 := ((bcell b).1 _ _ (by omega)).trans kx1_0
      replace kx1_1 := ((bcell b).1 _ _ (by omega)).trans kx1_1
      replace kHGa0 := ((bcell b).1 _ _ (by omega)).trans kHGa0
      replace kHGa1 := ((bcell b).1 _ _ (by omega)).trans kHGa1
      replace kHGb0 := ((bcell b).1 _ _ (by omega)).trans kHGb0
      replace kHGb1 := ((bcell b).1 _ _ (by omega)).trans kHGb1
      replace kHHa0 := ((bcell b).1 _ _ (by omega)).trans kHHa0
      replace kHHa1 := ((bcell b).1 _ _ (by omega)).trans kHHa1
      replace kHHb0 := ((bcell b).1 _ _ (by omega)).trans kHHb0
      replace kHHb1 := ((bcell b).1 _ _ (by omega)).trans kHHb1
      replace HX0 := Bx.mk (HX0.out.below b (by omega))
      replace HX1 := Bx.mk (HX1.out.below b (by omega))
      replace HWa := Bx.mk (HWa.out.below b (by omega))
      replace HWb := Bx.mk (HWb.out.below b (by omega))
      replace HC0 := Bx.mk (HC0.out.below b (by omega))
      replace HC1 := Bx.mk (HC1.out.below b (by omega))
      replace HGa := Bx.mk (HGa.out.below b (by omega))
      replace HGb := Bx.mk (HGb.out.below b (by omega))
      replace HHa := Bx.mk (HHa.out.below b (by omega))
      replace HHb := Bx.mk (HHb.out.below b (by omega))
      clear b
      go_wp2_with fail
      refine (eqRhythm_any _ _ _ _ _ _ _ _ _ (by exact HHb.out.ir) (by exact HWb.out.ir)).mono ?_
      rintro e w29 ⟨rfl, b⟩
      have zw29 := b.size
      replace bw := bw.trans (b.mono bw.size)
      replace ka0_0 := ((bcell b).1 _ _ (by omega)).trans ka0_0
      replace ka0_1 := ((bcell b).1 _ _ (by omega)).trans ka0_1
      replace ka1_0 := ((bcell b).1 _ _ (by omega)).trans ka1_0
      replace ka1_1 := ((bcell b).1 _ _ (by omega)).trans ka1_1
      replace kHWa0 := ((bcell b).1 _ _ (by omega)).trans kHWa0
      replace kHWa1 := ((bcell b).1 _ _ (by omega)).trans kHWa1
      replace kHWb0 := ((bcell b).1 _ _ (by omega)).trans kHWb0
      replace kHWb1 := ((bcell b).1 _ _ (by omega)).trans kHWb1
      replace kx0_0 := ((bcell b).1 _ _ (by omega)).trans kx0_0
      replace kx0_1 := ((bcell b).1 _ _ (by omega)).trans kx0_1
      replace kx1_0 := ((bcell b).1 _ _ (by omega)).trans kx1_0
      replace kx1_1 := ((bcell b).1 _ _ (by omega)).trans kx1_1
      replace kHGa0 := ((bcell b).1 _ _ (by omega)).trans kHGa0
      replace kHGa1 := ((bcell b).1 _ _ (by omega)).trans kHGa1
      replace kHGb0 := ((bcell b).1 _ _ (by omega)).trans kHGb0
      replace kHGb1 := ((bcell b).1 _ _ (by omega)).trans kHGb1
      replace kHHa0 := ((bcell b).1 _ _ (by omega)).trans kHHa0
      replace kHHa1 := ((bcell b).1 _ _ (by omega)).trans kHHa1
      replace kHHb0 := ((bcell b).1 _ _ (by omega)).trans kHHb0
      replace kHHb1 := ((bcell b).1 _ _ (by omega)).trans kHHb1
      replace HX0 := Bx.mk (HX0.out.below b (by omega))
      replace HX1 := Bx.mk (HX1.out.below b (by omega))
      replace HWa := Bx.mk (HWa.out.below b (by omega))
      replace HWb := Bx.mk (HWb.out.below b (by omega))
      replace HC0 := Bx.mk (HC0.out.below b (by omega))
      replace HC1 := Bx.mk (HC1.out.below b (by omega))
      replace HGa := Bx.mk (HGa.out.below b (by omega))
      replace HGb := Bx.mk (HGb.out.below b (by omega))
      replace HHa := Bx.mk (HHa.out.below b (by omega))
      replace HHb := Bx.mk (HHb.out.below b (by omega))
      clear b
      go_wp2_with fail
      refine (heldRhythm_any _ _ _ _ _ _ (by exact HGa.out.ir) (by omega) (by omega)).mono ?_
      rintro e w30 ⟨rfl, b⟩
      have zw30 := b.size
      replace bw := bw.trans (b.mono bw.size)
      replace ka0_0 := ((bcell b).1 _ _ (by omega)).trans ka0_0
      replace ka0_1 := ((bcell b).1 _ _ (by omega)).trans ka0_1
      replace ka1_0 := ((bcell b).1 _ _ (by omega)).trans ka1_0
      replace ka1_1 := ((bcell b).1 _ _ (by omega)).trans ka1_1
      replace kHWa0 := ((bcell b).1 _ _ (by omega)).trans kHWa0
      replace kHWa1 := ((bcell b).1 _ _ (by omega)).trans kHWa1
      replace kHWb0 := ((bcell b).1 _ _ (by omega)).trans kHWb0
      replace kHWb1 := ((bcell b).1 _ _ (by omega)).trans kHWb1
      replace kx0_0 := ((bcell b).1 _ _ (by omega)).trans kx0_0
      replace kx0_1 := ((bcell b).1 _ _ (by omega)).trans kx0_1
      replace kx1_0 := ((bcell b).1 _ _ (by omega)).trans kx1_0
      replace kx1_1 := ((bcell b).1 _ _ (by omega)).trans kx1_1
      replace kHGa0 := ((bcell b).1 _ _ (by omega)).trans kHGa0
      replace kHGa1 := ((bcell b).1 _ _ (by omega)).trans kHGa1
      replace kHGb0 := ((bcell b).1 _ _ (by omega)).trans kHGb0
      replace kHGb1 := ((bcell b).1 _ _ (by omega)).trans kHGb1
      replace kHHa0 := ((bcell b).1 _ _ (by omega)).trans kHHa0
      replace kHHa1 := ((bcell b).1 _ _ (by omega)).trans kHHa1
      replace kHHb0 := ((bcell b).1 _ _ (by omega)).trans kHHb0
      replace kHHb1 := ((bcell b).1 _ _ (by omega)).trans kHHb1
      replace HX0 := Bx.mk (HX0.out.below b (by omega))
      replace HX1 := Bx.mk (HX1.out.below b (by omega))
      replace HWa := Bx.mk (HWa.out.below b (by omega))
      replace HWb := Bx.mk (HWb.out.below b (by omega))
      replace HC0 := Bx.mk (HC0.out.below b (by omega))
      replace HC1 := Bx.mk (HC1.out.below b (by omega))
      replace HGa := Bx.mk (HGa.out.below b (by omega))
      replace HGb := Bx.mk (HGb.out.below b (by omega))
      replace HHa := Bx.mk (HHa.out.below b (by omega))
      replace HHb := Bx.mk (HHb.out.below b (by omega))
      clear b
      go_wp2_with fail
      refine (heldRhythm_any _ _ _ _ _ _ (by exact HGb.out.ir) (by omega) (by omega)).mono ?_
      rintro e w31 ⟨rfl, b⟩
      have zw31 := b.size
      replace bw := bw.trans (b.mono bw.size)
      replace ka0_0 := ((bcell b).1 _ _ (by omega)).trans ka0_0
      replace ka0_1 := ((bcell b).1 _ _ (by omega)).trans ka0_1
      replace ka1_0 := ((bcell b).1 _ _ (by omega)).trans ka1_0
      replace ka1_1 := ((bcell b).1 _ _ (by omega)).trans ka1_1
      replace kHWa0 := ((bcell b).1 _ _ (by omega)).trans kHWa0
      replace kHWa1 := ((bcell b).1 _ _ (by omega)).trans kHWa1
      replace kHWb0 := ((bcell b).1 _ _ (by omega)).trans kHWb0
      replace kHWb1 := ((bcell b).1 _ _ (by omega)).trans kHWb1
      replace kx0_0 := ((bcell b).1 _ _ (by omega)).trans kx0_0
      replace kx0_1 := ((bcell b).1 _ _ (by omega)).trans kx0_1
      replace kx1_0 := ((bcell b).1 _ _ (by omega)).trans kx1_0
      replace kx1_1 := ((bcell b).1 _ _ (by omega)).trans kx1_1
      replace kHGa0 := ((bcell b).1 _ _ (by omega)).trans kHGa0
      replace kHGa1 := ((bcell b).1 _ _ (by omega)).trans kHGa1
      replace kHGb0 := ((bcell b).1 _ _ (by omega)).trans kHGb0
      replace kHGb1 := ((bcell b).1 _ _ (by omega)).trans kHGb1
      replace kHHa0 := ((bcell b).1 _ _ (by omega)).trans kHHa0
      replace kHHa1 := ((bcell b).1 _ _ (by omega)).trans kHHa1
      replace kHHb0 := ((bcell b).1 _ _ (by omega)).trans kHHb0
      replace kHHb1 := ((bcell b).1 _ _ (by omega)).trans kHHb1
      replace HX0 := Bx.mk (HX0.out.below b (by omega))
      replace HX1 := Bx.mk (HX1.out.below b (by omega))
      replace HWa := Bx.mk (HWa.out.below b (by omega))
      replace HWb := Bx.mk (HWb.out.below b (by omega))
      replace HC0 := Bx.mk (HC0.out.below b (by omega))
      replace HC1 := Bx.mk (HC1.out.below b (by omega))
      replace HGa := Bx.mk (HGa.out.below b (by omega))
      replace HGb := Bx.mk (HGb.out.below b (by omega))
      replace HHa := Bx.mk (HHa.out.below b (by omega))
      replace HHb := Bx.mk (HHb.out.below b (by omega))
      clear b
      go_wp2_with fail
      go_ret
      exact ⟨rfl, bw⟩
end Go.Proofs.Ytppopjbpfnlfbaa
