/- Vectors, forms and overlaps of valid rhythms, walked. -/
import Derived.Test.YtlgiijibekobfaaRegM
import Derived.Test.YtlgiijibekobfaaVec
import Derived.Test.YtlgiijibekobfaaMv
import Derived.Test.YtlgiijibekobfaaIvPl4
import Derived.Test.YtlgiijibekobfaaRotTo
import Derived.Test.YtlgiijibekobfaaEqSl
import Derived.Test.YtlgiijibekobfaaCmn
import Derived.Test.YtlgiijibekobfaaTls
import Derived.Test.YtlgiijibekobfaaColl
import Derived.Deep.RegionHeld3
import Derived.Deep.DeepCutAuto
namespace Go.Proofs.Ytlgiijibekobfaa
open Go.RowKit

set_option linter.unusedSimpArgs false
theorem wp_app1 {o : Oper} {a : Act} {K : Act → World → Prop} {Q : Exit → Act → World → Prop} {w : World} (s x : Operand)
    (ho : o.op = .call { callee := .builtin .append, args := #[s, x], argTypes := #[26, 26] })
    (base : Nat) (v : Value) (xs : List Int) (z : Int) (hs : a.eval s = v) (hx : a.eval x = .slice (some ⟨w.heap.size, 0, none⟩) 1 1) (hown : Row w base v xs) (hl : xs.length ≤ 1000000000) (hbase : base ≤ w.heap.size)
    (h : ∀ v' w', Row w' base v' (xs ++ [z]) → Below base w w' → K (a.put o.dst v') w') : o.wp Try.prog a (w.alloc (.cells #[.int .i64 z] 3)) K Q := by
  obtain ⟨i0, hi0, hz0, hz1, hz2⟩ := info_parts info_int
  refine wp_append_own _ s x 26 ho base 3 i0 (.int .i64 0) 1 8 Try.underlying26 hi0 hz0 hz1 hz2 rfl (by decide) v xs.length (ints xs) hs (World.ownsRow.alloc hown _)
    ⟨w.heap.size, 0, none⟩ 1 1 [.int .i64 z] hx rfl ?_ ?_ (by unfold maxLen; omega) (by omega) (by simp; omega) ?_
  · exact cell_one_new _ _ _
  · intro u hu; simp at hu; subst hu; rfl
  · intro v' w' h1 h2 _
    refine h v' w' ?_ (below_of_row hown _ h2 hbase)
    unfold Row
    rw [List.length_append, show ints (xs ++ [z]) = ints xs ++ [.int .i64 z] by simp [ints]]
    exact h1
set_option maxHeartbeats 1000000 in
theorem vectorOf_ok (s : Int) (A : Option Addr) (c : Nat) (xs : List Int) (w : World) (hok : rhOk s xs = true) (hx : IR w A xs) (hcap : xs.length ≤ c) :
    Calls Try.prog 45 #[.agg #[.int .i64 s, .slice A xs.length c]] w (GivesInts w (vecC s xs)) := by
  obtain ⟨⟨hs1, hs2⟩, hxb, _⟩ := rhOk_iff.1 hok
  have HXB := Bx.mk hxb
  have hll := (rhOk_len hok).1
  obtain ⟨W0, hW0⟩ : ∃ W0, W0 = w.alloc (.cells #[.int .i64 s, .slice A xs.length c] 30) := ⟨_, rfl⟩
  have bw : Below w.heap.size w W0 := by rw [hW0]; exact below_alloc _ _
  have hz : w.heap.size < W0.heap.size := by rw [hW0]; simp <;> omega
  have k0 : W0.cell? ⟨w.heap.size, 0, none⟩ = some (.int .i64 s) := by rw [hW0]; simp [go_sem]
  have k1 : W0.cell? ⟨w.heap.size, 1, none⟩ = some (.slice A xs.length c) := by rw [hW0]; simp [go_sem]
  have HX := Bx.mk ((RB.of_ir hx).below bw (Nat.le_refl _))
  have HOK := Bx.mk hok
  have HS : Bx (-9223372036854775808 ≤ s ∧ s ≤ 9223372036854775807) := ⟨by omega⟩
  clear hx hxb
  go_enter Try.func45, Try.ntmps45
  go_wp2_with fail
  rw [← hW0]
  clear hW0
  refine (lit_b hok (implRhythmOk_any _ _ _ _ _ HS.out (by exact HX.out.ir))).mono ?_
  clear hok
  rintro e w1 ⟨rfl, b⟩
  replace k0 := ((bcell b).1 _ _ (by omega)).trans k0
  replace k1 := ((bcell b).1 _ _ (by omega)).trans k1
  replace HX := Bx.mk (HX.out.below b (by omega))
  replace bw := bw.trans (b.mono bw.size)
  clear b
  go_wp2_with fail
  refine (vector_any _ _ _ _ _ HOK.out hcap (by exact HX.out.ir)).mono ?_
  rintro e w2 ⟨A2, c2, rfl, io, b⟩
  have HIO := Bx.mk (io.mono bw.size)
  replace bw := bw.trans (b.mono bw.size)
  clear b io
  go_wp2_with fail
  go_ret
  exact ⟨A2, c2, rfl, HIO.out, bw⟩
set_option maxHeartbeats 2000000 in
set_option maxRecDepth 20000 in
theorem commonBeats_ok (n : Nat) (A B : Option Addr) (c d : Nat) (xs ys : List Int) (w : World) (hx : rhOk n xs = true) (hy : rhOk n ys = true) (hA : IR w A xs) (hB : IR w B ys) :
    Calls Try.prog 47 #[.agg #[.int .i64 n, .slice A xs.length c], .agg #[.int .i64 n, .slice B ys.length d]] w fun e w' => e = .returned (.int .i64 (cmN xs ys : Nat)) ∧ Below w.heap.size w w' := by
  obtain ⟨W0, hW0⟩ : ∃ W0, W0 = (w.alloc (.cells #[.int .i64 n, .slice A xs.length c] 30)).alloc (.cells #[.int .i64 n, .slice B ys.length d] 30) := ⟨_, rfl⟩
  have bw : Below w.heap.size w W0 := by rw [hW0]; exact (below_alloc _ _).alloc (by simp) _
  have hz : w.heap.size + 2 ≤ W0.heap.size := by rw [hW0]; simp
  have kga0 : W0.cell? ⟨w.heap.size, 0, none⟩ = some (.int .i64 n) := by rw [hW0]; simp [go_sem]
  have kga1 : W0.cell? ⟨w.heap.size, 1, none⟩ = some (.slice A xs.length c) := by rw [hW0]; simp [go_sem]
  have kgb0 : W0.cell? ⟨w.heap.size + 1, 0, none⟩ = some (.int .i64 n) := by rw [hW0]; simp [go_sem]
  have kgb1 : W0.cell? ⟨w.heap.size + 1, 1, none⟩ = some (.slice B ys.length d) := by rw [hW0]; simp [go_sem]
  have HX := Bx.mk (hA.below bw)
  have HY := Bx.mk (hB.below bw)
  have HXO := Bx.mk hx
  have HYO := Bx.mk hy
  obtain ⟨⟨hn1, hn2⟩, hxb, hxa⟩ := rhOk_iff.1 hx
  have HXB := Bx.mk hxb
  have HSS : Bx (∀ W, IR W A xs → IR W B ys → Calls Try.prog 63 #[.agg #[.int .i64 n, .slice A xs.length c], .agg #[.int .i64 n, .slice B ys.length d]] W fun e w' => e = .returned (.bool true) ∧ Below W.heap.size W w') := ⟨fun W h1 h2 => lit_b (twoOk_iff.2 ⟨HXO.out, HYO.out, rfl⟩) (implSame_any _ _ _ _ _ _ _ _ _ ⟨by omega, by omega⟩ ⟨by omega, by omega⟩ h1 h2)⟩
  obtain ⟨ga, hga⟩ : ∃ ga, ga = w.heap.size := ⟨_, rfl⟩
  obtain ⟨gb, hgb⟩ : ∃ gb, gb = w.heap.size + 1 := ⟨_, rfl⟩
  have lt_ga : ga < W0.heap.size := by omega
  have lt_gb : gb < W0.heap.size := by omega
  rw [← hga] at kga0 kga1
  rw [← hgb] at kgb0 kgb1
  clear hx hy hA hB hxb hxa
  go_enter Try.func47, Try.ntmps47
  go_wp2_with fail
  rw [← hW0, ← hgb, ← hga]
  clear hW0 hga hgb
  refine (HSS.out _ (by exact HX.out) (by exact HY.out)).mono ?_
  rintro e w1 ⟨rfl, b⟩
  replace kga0 := ((bcell b).1 _ _ lt_ga).trans kga0
  replace kga1 := ((bcell b).1 _ _ lt_ga).trans kga1
  replace kgb0 := ((bcell b).1 _ _ lt_gb).trans kgb0
  replace kgb1 := ((bcell b).1 _ _ lt_gb).trans kgb1
  replace HX := Bx.mk (HX.out.below b)
  replace HY := Bx.mk (HY.out.below b)
  replace bw := bw.trans (b.mono bw.size)
  clear b
  go_wp2_with fail
  refine (common_any _ _ _ _ _ _ _ _ HXO.out HYO.out (by exact HX.out) (by exact HY.out)).mono ?_
  rintro e w2 ⟨rfl, b⟩
  replace bw := bw.trans (b.mono bw.size)
  clear b
  go_wp2_with fail
  go_ret
  exact ⟨rfl, bw⟩
set_option maxHeartbeats 2000000 in
set_option maxRecDepth 20000 in
theorem sameVec_ok (n : Nat) (A B : Option Addr) (c d : Nat) (xs ys : List Int) (w : World) (hx : rhOk n xs = true) (hy : rhOk n ys = true) (hcx : xs.length ≤ c) (hcy : ys.length ≤ d) (hv : vecC n xs = vecC n ys) (hA : IR w A xs) (hB : IR w B ys) :
    Calls Try.prog 48 #[.agg #[.int .i64 n, .slice A xs.length c], .agg #[.int .i64 n, .slice B ys.length d]] w fun e w' => e = .returned (.bool true) ∧ Below w.heap.size w w' := by
  obtain ⟨W0, hW0⟩ : ∃ W0, W0 = (w.alloc (.cells #[.int .i64 n, .slice A xs.length c] 30)).alloc (.cells #[.int .i64 n, .slice B ys.length d] 30) := ⟨_, rfl⟩
  have bw : Below w.heap.size w W0 := by rw [hW0]; exact (below_alloc _ _).alloc (by simp) _
  have hz : w.heap.size + 2 ≤ W0.heap.size := by rw [hW0]; simp
  have kga0 : W0.cell? ⟨w.heap.size, 0, none⟩ = some (.int .i64 n) := by rw [hW0]; simp [go_sem]
  have kga1 : W0.cell? ⟨w.heap.size, 1, none⟩ = some (.slice A xs.length c) := by rw [hW0]; simp [go_sem]
  have kgb0 : W0.cell? ⟨w.heap.size + 1, 0, none⟩ = some (.int .i64 n) := by rw [hW0]; simp [go_sem]
  have kgb1 : W0.cell? ⟨w.heap.size + 1, 1, none⟩ = some (.slice B ys.length d) := by rw [hW0]; simp [go_sem]
  have HX := Bx.mk (hA.below bw)
  have HY := Bx.mk (hB.below bw)
  have HXO := Bx.mk hx
  have HYO := Bx.mk hy
  obtain ⟨⟨hn1, hn2⟩, hxb, hxa⟩ := rhOk_iff.1 hx
  have HXB := Bx.mk hxb
  have HSS : Bx (∀ W, IR W A xs → IR W B ys → Calls Try.prog 63 #[.agg #[.int .i64 n, .slice A xs.length c], .agg #[.int .i64 n, .slice B ys.length d]] W fun e w' => e = .returned (.bool true) ∧ Below W.heap.size W w') := ⟨fun W h1 h2 => lit_b (twoOk_iff.2 ⟨HXO.out, HYO.out, rfl⟩) (implSame_any _ _ _ _ _ _ _ _ _ ⟨by omega, by omega⟩ ⟨by omega, by omega⟩ h1 h2)⟩
  obtain ⟨ga, hga⟩ : ∃ ga, ga = w.heap.size := ⟨_, rfl⟩
  obtain ⟨gb, hgb⟩ : ∃ gb, gb = w.heap.size + 1 := ⟨_, rfl⟩
  have lt_ga : ga < W0.heap.size := by omega
  have lt_gb : gb < W0.heap.size := by omega
  rw [← hga] at kga0 kga1
  rw [← hgb] at kgb0 kgb1
  obtain ⟨V, hV⟩ : ∃ V, V = vecC n xs := ⟨_, rfl⟩
  have HV1 : Bx (∀ W, IR W A xs → Calls Try.prog 85 #[.agg #[.int .i64 n, .slice A xs.length c]] W (GivesInts W V)) := ⟨fun W h => by rw [hV]; exact vector_any n A c xs W HXO.out hcx h⟩
  have HV2 : Bx (∀ W, IR W B ys → Calls Try.prog 85 #[.agg #[.int .i64 n, .slice B ys.length d]] W (GivesInts W V)) := ⟨fun W h => by rw [hV, hv]; exact vector_any n B d ys W HYO.out hcy h⟩
  have HEQ : Bx (∀ A1 A2 c1 c2 W, IR W A1 V → IR W A2 V → Calls Try.prog 87 #[.slice A1 V.length c1, .slice A2 V.length c2] W fun e w' => e = .returned (.bool true) ∧ Below W.heap.size W w') := ⟨fun A1 A2 c1 c2 W h1 h2 => by
    refine (slEqual_any A1 A2 c1 c2 V V W h1 h2).mono ?_
    rintro e w' ⟨rfl, k, rfl⟩
    exact ⟨by simp, bdrewN_refl _ _⟩⟩
  clear hx hy hA hB hxb hxa hV hv hcx hcy
  go_enter Try.func48, Try.ntmps48
  go_upto_region 1 with (fail)
  rw [← hW0, ← hgb, ← hga]
  clear hW0 hga hgb
  have hB : Bx (Below W0.heap.size W0 W0.drew) := ⟨(Below.refl _ _).drew⟩
  have hB0 : Bx (Below W0.heap.size W0 W0) := ⟨Below.refl _ _⟩
  have kga0_d : W0.drew.cell? _ = _ := kga0
  have kga1_d : W0.drew.cell? _ = _ := kga1
  have kgb0_d : W0.drew.cell? _ = _ := kgb0
  have kgb1_d : W0.drew.cell? _ = _ := kgb1
  refine wp_region_held_drew (S := fun w' => w'.cell? ⟨ga, 0, none⟩ = some (.int .i64 n) ∧ w'.cell? ⟨ga, 1, none⟩ = some (.slice A xs.length c) ∧ w'.cell? ⟨gb, 0, none⟩ = some (.int .i64 n) ∧ w'.cell? ⟨gb, 1, none⟩ = some (.slice B ys.length d) ∧ Bx (Below W0.heap.size W0 w')) (by kernel_rfl) ?hS1000 (fun hHeld => ?rest1000)
  case hS1000 => (try dsimp only); (refine (fun (hK : Bx (Below W0.heap.size W0 _)) => ⟨((bcell hK.out).1 _ _ lt_ga).trans kga0, ((bcell hK.out).1 _ _ lt_ga).trans kga1, ((bcell hK.out).1 _ _ lt_gb).trans kgb0, ((bcell hK.out).1 _ _ lt_gb).trans kgb1, hK⟩) ?_; (first | with_reducible assumption | with_reducible exact bx_alloc (by with_reducible assumption) _ | with_reducible exact bx_drew (by with_reducible assumption) | with_reducible exact bx_drew (bx_alloc (by with_reducible assumption) _)))
  case rest1000 =>
  refine wpAnyH_take (i := 0) (v := ?v1001) (at_list rfl) (by kernel_rfl) (by kernel_rfl) (by kernel_rfl) (fun _ _ _ h => h) (Or.inl ⟨by rfl, ?hy1001⟩) (by assumption) ?rest1001
  case hy1001 => intro w hSw; (try dsimp only at hSw); go_simp; try (with_reducible rfl)
  case rest1001 =>
  try simp only [Act.put, List.setIfInBounds_toArray, List.set_cons_zero, List.set_cons_succ]
  refine wpAnyH_take (i := 1) (v := ?v1002) (at_list rfl) (by kernel_rfl) (by kernel_rfl) (by kernel_rfl) (fun _ _ _ h => h) (Or.inl ⟨by rfl, ?hy1002⟩) (by assumption) ?rest1002
  case hy1002 => intro w hSw; (try dsimp only at hSw); go_simp; try (with_reducible rfl)
  case rest1002 =>
  try simp only [Act.put, List.setIfInBounds_toArray, List.set_cons_zero, List.set_cons_succ]
  refine wpAnyH_ready (rs := [2]) (by kernel_rfl) (by simp) ?_
  refine AllReadyH.cons (at_list rfl) (fun K hK => ?_) AllReadyH.nil
  go_simp
  go_at_call 63; refine (HSS.out _ (by exact HX.out.below (Bx.out (by (first | with_reducible assumption | with_reducible exact bx_alloc (by with_reducible assumption) _ | with_reducible exact bx_drew (by with_reducible assumption) | with_reducible exact bx_drew (bx_alloc (by with_reducible assumption) _))))) (by exact HY.out.below (Bx.out (by (first | with_reducible assumption | with_reducible exact bx_alloc (by with_reducible assumption) _ | with_reducible exact bx_drew (by with_reducible assumption) | with_reducible exact bx_drew (bx_alloc (by with_reducible assumption) _)))))).mono ?_; rintro e w1 ⟨rfl, bw1⟩; have hBw1 : Bx (Below W0.heap.size W0 w1) := bx_to (by (first | with_reducible assumption | with_reducible exact bx_alloc (by with_reducible assumption) _ | with_reducible exact bx_drew (by with_reducible assumption) | with_reducible exact bx_drew (bx_alloc (by with_reducible assumption) _))) bw1; have hzw1 := bx_size hBw1; have kga0_w1 := ((bcell hBw1.out).1 _ _ lt_ga).trans kga0; have kga1_w1 := ((bcell hBw1.out).1 _ _ lt_ga).trans kga1; have kgb0_w1 := ((bcell hBw1.out).1 _ _ lt_gb).trans kgb0; have kgb1_w1 := ((bcell hBw1.out).1 _ _ lt_gb).trans kgb1
  refine hK.out _ _ ?hS1003 (fun hHeld => ?rest1003)
  case hS1003 => (try dsimp only); (refine (fun (hK : Bx (Below W0.heap.size W0 _)) => ⟨((bcell hK.out).1 _ _ lt_ga).trans kga0, ((bcell hK.out).1 _ _ lt_ga).trans kga1, ((bcell hK.out).1 _ _ lt_gb).trans kgb0, ((bcell hK.out).1 _ _ lt_gb).trans kgb1, hK⟩) ?_; (first | with_reducible assumption | with_reducible exact bx_alloc (by with_reducible assumption) _ | with_reducible exact bx_drew (by with_reducible assumption) | with_reducible exact bx_drew (bx_alloc (by with_reducible assumption) _)))
  case rest1003 =>
  clear hK K
  try simp only [Act.put, List.setIfInBounds_toArray, List.set_cons_zero, List.set_cons_succ]
  refine wpAnyH_take (i := 3) (v := ?v1004) (at_list rfl) (by kernel_rfl) (by kernel_rfl) (by kernel_rfl) (fun _ _ _ h => h) (Or.inl ⟨by rfl, ?hy1004⟩) (by assumption) ?rest1004
  case hy1004 => intro w hSw; (try dsimp only at hSw); go_simp; try (with_reducible rfl)
  case rest1004 =>
  try simp only [Act.put, List.setIfInBounds_toArray, List.set_cons_zero, List.set_cons_succ]
  refine wpAnyH_take (i := 4) (v := ?v1005) (at_list rfl) (by kernel_rfl) (by kernel_rfl) (by kernel_rfl) (fun _ _ _ h => h) (Or.inl ⟨by rfl, ?hy1005⟩) (by assumption) ?rest1005
  case hy1005 => intro w hSw; (try dsimp only at hSw); go_simp; try (with_reducible rfl)
  case rest1005 =>
  try simp only [Act.put, List.setIfInBounds_toArray, List.set_cons_zero, List.set_cons_succ]
  refine wpAnyH_take (i := 6) (v := ?v1006) (at_list rfl) (by kernel_rfl) (by kernel_rfl) (by kernel_rfl) (fun _ _ _ h => h) (Or.inl ⟨by rfl, ?hy1006⟩) (by assumption) ?rest1006
  case hy1006 => intro w hSw; (try dsimp only at hSw); go_simp; try (with_reducible rfl)
  case rest1006 =>
  try simp only [Act.put, List.setIfInBounds_toArray, List.set_cons_zero, List.set_cons_succ]
  refine wpAnyH_ready (rs := [5]) (by kernel_rfl) (by simp) ?_
  refine AllReadyH.cons (at_list rfl) (fun K hK => ?_) AllReadyH.nil
  go_simp
  go_at_call 85; refine (HV1.out _ (by exact HX.out.below (Bx.out (by (first | with_reducible assumption | with_reducible exact bx_alloc (by with_reducible assumption) _ | with_reducible exact bx_drew (by with_reducible assumption) | with_reducible exact bx_drew (bx_alloc (by with_reducible assumption) _)))))).mono ?_; rintro e w2 ⟨AV1, cV1, rfl, io1, bw2⟩; have hBw2 : Bx (Below W0.heap.size W0 w2) := bx_to (by (first | with_reducible assumption | with_reducible exact bx_alloc (by with_reducible assumption) _ | with_reducible exact bx_drew (by with_reducible assumption) | with_reducible exact bx_drew (bx_alloc (by with_reducible assumption) _))) bw2; have hzw2 := bx_size hBw2; have kga0_w2 := ((bcell hBw2.out).1 _ _ lt_ga).trans kga0; have kga1_w2 := ((bcell hBw2.out).1 _ _ lt_ga).trans kga1; have kgb0_w2 := ((bcell hBw2.out).1 _ _ lt_gb).trans kgb0; have kgb1_w2 := ((bcell hBw2.out).1 _ _ lt_gb).trans kgb1; have HI1 := Bx.mk io1.reads; clear io1
  refine hK.out _ _ ?hS1007 (fun hHeld => ?rest1007)
  case hS1007 => (try dsimp only); (refine (fun (hK : Bx (Below W0.heap.size W0 _)) => ⟨((bcell hK.out).1 _ _ lt_ga).trans kga0, ((bcell hK.out).1 _ _ lt_ga).trans kga1, ((bcell hK.out).1 _ _ lt_gb).trans kgb0, ((bcell hK.out).1 _ _ lt_gb).trans kgb1, hK⟩) ?_; (first | with_reducible assumption | with_reducible exact bx_alloc (by with_reducible assumption) _ | with_reducible exact bx_drew (by with_reducible assumption) | with_reducible exact bx_drew (bx_alloc (by with_reducible assumption) _)))
  case rest1007 =>
  clear hK K
  try simp only [Act.put, List.setIfInBounds_toArray, List.set_cons_zero, List.set_cons_succ]
  refine wpAnyH_ready (rs := [7]) (by kernel_rfl) (by simp) ?_
  refine AllReadyH.cons (at_list rfl) (fun K hK => ?_) AllReadyH.nil
  go_simp
  go_at_call 85; refine (HV2.out _ (by exact HY.out.below (Bx.out (by (first | with_reducible assumption | with_reducible exact bx_alloc (by with_reducible assumption) _ | with_reducible exact bx_drew (by with_reducible assumption) | with_reducible exact bx_drew (bx_alloc (by with_reducible assumption) _)))))).mono ?_; rintro e w3 ⟨AV2, cV2, rfl, io2, bw3⟩; have hBw3 : Bx (Below W0.heap.size W0 w3) := bx_to (by (first | with_reducible assumption | with_reducible exact bx_alloc (by with_reducible assumption) _ | with_reducible exact bx_drew (by with_reducible assumption) | with_reducible exact bx_drew (bx_alloc (by with_reducible assumption) _))) bw3; have hzw3 := bx_size hBw3; have kga0_w3 := ((bcell hBw3.out).1 _ _ lt_ga).trans kga0; have kga1_w3 := ((bcell hBw3.out).1 _ _ lt_ga).trans kga1; have kgb0_w3 := ((bcell hBw3.out).1 _ _ lt_gb).trans kgb0; have kgb1_w3 := ((bcell hBw3.out).1 _ _ lt_gb).trans kgb1; have HI2 := Bx.mk io2.reads; have HI1b := Bx.mk (HI1.out.below bw3); clear io2
  refine hK.out _ _ ?hS1008 (fun hHeld => ?rest1008)
  case hS1008 => (try dsimp only); (refine (fun (hK : Bx (Below W0.heap.size W0 _)) => ⟨((bcell hK.out).1 _ _ lt_ga).trans kga0, ((bcell hK.out).1 _ _ lt_ga).trans kga1, ((bcell hK.out).1 _ _ lt_gb).trans kgb0, ((bcell hK.out).1 _ _ lt_gb).trans kgb1, hK⟩) ?_; (first | with_reducible assumption | with_reducible exact bx_alloc (by with_reducible assumption) _ | with_reducible exact bx_drew (by with_reducible assumption) | with_reducible exact bx_drew (bx_alloc (by with_reducible assumption) _)))
  case rest1008 =>
  clear hK K
  try simp only [Act.put, List.setIfInBounds_toArray, List.set_cons_zero, List.set_cons_succ]
  refine wpAnyH_ready (rs := [8]) (by kernel_rfl) (by simp) ?_
  refine AllReadyH.cons (at_list rfl) (fun K hK => ?_) AllReadyH.nil
  go_simp
  go_at_call 87; refine (HEQ.out _ _ _ _ _ (by exact HI1b.out) (by exact HI2.out)).mono ?_; rintro e w4 ⟨rfl, bw4⟩; have hBw4 : Bx (Below W0.heap.size W0 w4) := bx_to (by (first | with_reducible assumption | with_reducible exact bx_alloc (by with_reducible assumption) _ | with_reducible exact bx_drew (by with_reducible assumption) | with_reducible exact bx_drew (bx_alloc (by with_reducible assumption) _))) bw4; have hzw4 := bx_size hBw4; have kga0_w4 := ((bcell hBw4.out).1 _ _ lt_ga).trans kga0; have kga1_w4 := ((bcell hBw4.out).1 _ _ lt_ga).trans kga1; have kgb0_w4 := ((bcell hBw4.out).1 _ _ lt_gb).trans kgb0; have kgb1_w4 := ((bcell hBw4.out).1 _ _ lt_gb).trans kgb1
  refine hK.out _ _ ?hS1009 (fun hHeld => ?rest1009)
  case hS1009 => (try dsimp only); (refine (fun (hK : Bx (Below W0.heap.size W0 _)) => ⟨((bcell hK.out).1 _ _ lt_ga).trans kga0, ((bcell hK.out).1 _ _ lt_ga).trans kga1, ((bcell hK.out).1 _ _ lt_gb).trans kgb0, ((bcell hK.out).1 _ _ lt_gb).trans kgb1, hK⟩) ?_; (first | with_reducible assumption | with_reducible exact bx_alloc (by with_reducible assumption) _ | with_reducible exact bx_drew (by with_reducible assumption) | with_reducible exact bx_drew (bx_alloc (by with_reducible assumption) _)))
  case rest1009 =>
  clear hK K
  try simp only [Act.put, List.setIfInBounds_toArray, List.set_cons_zero, List.set_cons_succ]
  refine wpAnyH_take (i := 9) (v := ?v1010) (at_list rfl) (by kernel_rfl) (by kernel_rfl) (by kernel_rfl) (fun _ _ _ h => h) (Or.inl ⟨by rfl, ?hy1010⟩) (by assumption) ?rest1010
  case hy1010 => intro w hSw; (try dsimp only at hSw); go_simp; try (with_reducible rfl)
  case rest1010 =>
  try simp only [Act.put, List.setIfInBounds_toArray, List.set_cons_zero, List.set_cons_succ]
  refine wpAnyH_ready (rs := [10]) (by kernel_rfl) (by simp) ?_
  refine AllReadyH.cons (at_list rfl) (fun K hK => ?_) AllReadyH.nil
  go_simp
  refine hK.out _ _ ?hS1011 (fun hHeld => ?rest1011)
  case hS1011 => (try dsimp only); (refine (fun (hK : Bx (Below W0.heap.size W0 _)) => ⟨((bcell hK.out).1 _ _ lt_ga).trans kga0, ((bcell hK.out).1 _ _ lt_ga).trans kga1, ((bcell hK.out).1 _ _ lt_gb).trans kgb0, ((bcell hK.out).1 _ _ lt_gb).trans kgb1, hK⟩) ?_; (first | with_reducible assumption | with_reducible exact bx_alloc (by with_reducible assumption) _ | with_reducible exact bx_drew (by with_reducible assumption) | with_reducible exact bx_drew (bx_alloc (by with_reducible assumption) _)))
  case rest1011 =>
  clear hK K
  try simp only [Act.put, List.setIfInBounds_toArray, List.set_cons_zero, List.set_cons_succ]
  refine wpAnyH_done (by kernel_rfl) ?_ _
  have b := hBw4.out
  replace kga0 := ((bcell b).1 _ _ lt_ga).trans kga0
  replace kga1 := ((bcell b).1 _ _ lt_ga).trans kga1
  replace kgb0 := ((bcell b).1 _ _ lt_gb).trans kgb0
  replace kgb1 := ((bcell b).1 _ _ lt_gb).trans kgb1
  replace lt_ga := Nat.lt_of_lt_of_le lt_ga b.size
  replace lt_gb := Nat.lt_of_lt_of_le lt_gb b.size
  replace HX := Bx.mk (HX.out.below b)
  replace HY := Bx.mk (HY.out.below b)
  replace bw := bw.trans (b.mono bw.size)
  clear b
  go_wp2_with fail
  go_ret
  exact ⟨rfl, bw⟩
set_option maxHeartbeats 2000000 in
set_option maxRecDepth 20000 in
theorem forms_ok (n : Nat) (A B : Option Addr) (c d : Nat) (xs ys : List Int) (w : World) (hx : rhOk n xs = true) (hy : rhOk n ys = true) (hrot : rotB n xs ys = true) (hA : IR w A xs) (hB : IR w B ys) :
    Calls Try.prog 88 #[.agg #[.int .i64 n, .slice A xs.length c], .agg #[.int .i64 n, .slice B ys.length d]] w fun e w' => e = .returned (.bool true) ∧ Below w.heap.size w w' := by
  obtain ⟨W0, hW0⟩ : ∃ W0, W0 = (w.alloc (.cells #[.int .i64 n, .slice A xs.length c] 30)).alloc (.cells #[.int .i64 n, .slice B ys.length d] 30) := ⟨_, rfl⟩
  have bw : Below w.heap.size w W0 := by rw [hW0]; exact (below_alloc _ _).alloc (by simp) _
  have hz : w.heap.size + 2 ≤ W0.heap.size := by rw [hW0]; simp
  have kga0 : W0.cell? ⟨w.heap.size, 0, none⟩ = some (.int .i64 n) := by rw [hW0]; simp [go_sem]
  have kga1 : W0.cell? ⟨w.heap.size, 1, none⟩ = some (.slice A xs.length c) := by rw [hW0]; simp [go_sem]
  have kgb0 : W0.cell? ⟨w.heap.size + 1, 0, none⟩ = some (.int .i64 n) := by rw [hW0]; simp [go_sem]
  have kgb1 : W0.cell? ⟨w.heap.size + 1, 1, none⟩ = some (.slice B ys.length d) := by rw [hW0]; simp [go_sem]
  have HX := Bx.mk (hA.below bw)
  have HY := Bx.mk (hB.below bw)
  have HXO := Bx.mk hx
  have HYO := Bx.mk hy
  obtain ⟨⟨hn1, hn2⟩, hxb, hxa⟩ := rhOk_iff.1 hx
  have HXB := Bx.mk hxb
  have HSS : Bx (∀ W, IR W A xs → IR W B ys → Calls Try.prog 63 #[.agg #[.int .i64 n, .slice A xs.length c], .agg #[.int .i64 n, .slice B ys.length d]] W fun e w' => e = .returned (.bool true) ∧ Below W.heap.size W w') := ⟨fun W h1 h2 => lit_b (twoOk_iff.2 ⟨HXO.out, HYO.out, rfl⟩) (implSame_any _ _ _ _ _ _ _ _ _ ⟨by omega, by omega⟩ ⟨by omega, by omega⟩ h1 h2)⟩
  obtain ⟨ga, hga⟩ : ∃ ga, ga = w.heap.size := ⟨_, rfl⟩
  obtain ⟨gb, hgb⟩ : ∃ gb, gb = w.heap.size + 1 := ⟨_, rfl⟩
  have lt_ga : ga < W0.heap.size := by omega
  have lt_gb : gb < W0.heap.size := by omega
  rw [← hga] at kga0 kga1
  rw [← hgb] at kgb0 kgb1
  have HRT : Bx (∀ W, IR W A xs → IR W B ys → Calls Try.prog 71 #[.agg #[.int .i64 n, .slice A xs.length c], .agg #[.int .i64 n, .slice B ys.length d]] W fun e w' => ∃ r : Int, 0 ≤ r ∧ e = .returned (.int .i64 r) ∧ Below W.heap.size W w') := ⟨fun W h1 h2 => by
    have hl := (rhOk_len HXO.out).1
    refine (implRotTo_any n A B c d xs ys W ⟨by omega, by omega⟩ (fun x hx => by have := HXB.out x hx; omega) (by omega) h1 h2).mono ?_
    rintro e w' ⟨r, rfl, hr, b⟩
    exact ⟨r, hr.out.1 hrot, rfl, b⟩⟩
  clear hx hy hA hB hxb hxa hrot
  go_enter Try.func88, Try.ntmps88
  go_upto_region 1 with (fail)
  rw [← hW0, ← hgb, ← hga]
  clear hW0 hga hgb
  have hB : Bx (Below W0.heap.size W0 W0.drew) := ⟨(Below.refl _ _).drew⟩
  have hB0 : Bx (Below W0.heap.size W0 W0) := ⟨Below.refl _ _⟩
  have kga0_d : W0.drew.cell? _ = _ := kga0
  have kga1_d : W0.drew.cell? _ = _ := kga1
  have kgb0_d : W0.drew.cell? _ = _ := kgb0
  have kgb1_d : W0.drew.cell? _ = _ := kgb1
  refine wp_region_held_drew (S := fun w' => w'.cell? ⟨ga, 0, none⟩ = some (.int .i64 n) ∧ w'.cell? ⟨ga, 1, none⟩ = some (.slice A xs.length c) ∧ w'.cell? ⟨gb, 0, none⟩ = some (.int .i64 n) ∧ w'.cell? ⟨gb, 1, none⟩ = some (.slice B ys.length d) ∧ Bx (Below W0.heap.size W0 w')) (by kernel_rfl) ?hS1000 (fun hHeld => ?rest1000)
  case hS1000 => (try dsimp only); (refine (fun (hK : Bx (Below W0.heap.size W0 _)) => ⟨((bcell hK.out).1 _ _ lt_ga).trans kga0, ((bcell hK.out).1 _ _ lt_ga).trans kga1, ((bcell hK.out).1 _ _ lt_gb).trans kgb0, ((bcell hK.out).1 _ _ lt_gb).trans kgb1, hK⟩) ?_; (first | with_reducible assumption | with_reducible exact bx_alloc (by with_reducible assumption) _ | with_reducible exact bx_drew (by with_reducible assumption) | with_reducible exact bx_drew (bx_alloc (by with_reducible assumption) _)))
  case rest1000 =>
  refine wpAnyH_take (i := 0) (v := ?v1001) (at_list rfl) (by kernel_rfl) (by kernel_rfl) (by kernel_rfl) (fun _ _ _ h => h) (Or.inl ⟨by rfl, ?hy1001⟩) (by assumption) ?rest1001
  case hy1001 => intro w hSw; (try dsimp only at hSw); go_simp; try (with_reducible rfl)
  case rest1001 =>
  try simp only [Act.put, List.setIfInBounds_toArray, List.set_cons_zero, List.set_cons_succ]
  refine wpAnyH_take (i := 1) (v := ?v1002) (at_list rfl) (by kernel_rfl) (by kernel_rfl) (by kernel_rfl) (fun _ _ _ h => h) (Or.inl ⟨by rfl, ?hy1002⟩) (by assumption) ?rest1002
  case hy1002 => intro w hSw; (try dsimp only at hSw); go_simp; try (with_reducible rfl)
  case rest1002 =>
  try simp only [Act.put, List.setIfInBounds_toArray, List.set_cons_zero, List.set_cons_succ]
  refine wpAnyH_ready (rs := [2]) (by kernel_rfl) (by simp) ?_
  refine AllReadyH.cons (at_list rfl) (fun K hK => ?_) AllReadyH.nil
  go_simp
  go_at_call 63; refine (HSS.out _ (by exact HX.out.below (Bx.out (by (first | with_reducible assumption | with_reducible exact bx_alloc (by with_reducible assumption) _ | with_reducible exact bx_drew (by with_reducible assumption) | with_reducible exact bx_drew (bx_alloc (by with_reducible assumption) _))))) (by exact HY.out.below (Bx.out (by (first | with_reducible assumption | with_reducible exact bx_alloc (by with_reducible assumption) _ | with_reducible exact bx_drew (by with_reducible assumption) | with_reducible exact bx_drew (bx_alloc (by with_reducible assumption) _)))))).mono ?_; rintro e w1 ⟨rfl, bw1⟩; have hBw1 : Bx (Below W0.heap.size W0 w1) := bx_to (by (first | with_reducible assumption | with_reducible exact bx_alloc (by with_reducible assumption) _ | with_reducible exact bx_drew (by with_reducible assumption) | with_reducible exact bx_drew (bx_alloc (by with_reducible assumption) _))) bw1; have hzw1 := bx_size hBw1; have kga0_w1 := ((bcell hBw1.out).1 _ _ lt_ga).trans kga0; have kga1_w1 := ((bcell hBw1.out).1 _ _ lt_ga).trans kga1; have kgb0_w1 := ((bcell hBw1.out).1 _ _ lt_gb).trans kgb0; have kgb1_w1 := ((bcell hBw1.out).1 _ _ lt_gb).trans kgb1
  refine hK.out _ _ ?hS1003 (fun hHeld => ?rest1003)
  case hS1003 => (try dsimp only); (refine (fun (hK : Bx (Below W0.heap.size W0 _)) => ⟨((bcell hK.out).1 _ _ lt_ga).trans kga0, ((bcell hK.out).1 _ _ lt_ga).trans kga1, ((bcell hK.out).1 _ _ lt_gb).trans kgb0, ((bcell hK.out).1 _ _ lt_gb).trans kgb1, hK⟩) ?_; (first | with_reducible assumption | with_reducible exact bx_alloc (by with_reducible assumption) _ | with_reducible exact bx_drew (by with_reducible assumption) | with_reducible exact bx_drew (bx_alloc (by with_reducible assumption) _)))
  case rest1003 =>
  clear hK K
  try simp only [Act.put, List.setIfInBounds_toArray, List.set_cons_zero, List.set_cons_succ]
  refine wpAnyH_take (i := 3) (v := ?v1004) (at_list rfl) (by kernel_rfl) (by kernel_rfl) (by kernel_rfl) (fun _ _ _ h => h) (Or.inl ⟨by rfl, ?hy1004⟩) (by assumption) ?rest1004
  case hy1004 => intro w hSw; (try dsimp only at hSw); go_simp; try (with_reducible rfl)
  case rest1004 =>
  try simp only [Act.put, List.setIfInBounds_toArray, List.set_cons_zero, List.set_cons_succ]
  refine wpAnyH_take (i := 4) (v := ?v1005) (at_list rfl) (by kernel_rfl) (by kernel_rfl) (by kernel_rfl) (fun _ _ _ h => h) (Or.inl ⟨by rfl, ?hy1005⟩) (by assumption) ?rest1005
  case hy1005 => intro w hSw; (try dsimp only at hSw); go_simp; try (with_reducible rfl)
  case rest1005 =>
  try simp only [Act.put, List.setIfInBounds_toArray, List.set_cons_zero, List.set_cons_succ]
  refine wpAnyH_take (i := 5) (v := ?v1006) (at_list rfl) (by kernel_rfl) (by kernel_rfl) (by kernel_rfl) (fun _ _ _ h => h) (Or.inl ⟨by rfl, ?hy1006⟩) (by assumption) ?rest1006
  case hy1006 => intro w hSw; (try dsimp only at hSw); go_simp; try (with_reducible rfl)
  case rest1006 =>
  try simp only [Act.put, List.setIfInBounds_toArray, List.set_cons_zero, List.set_cons_succ]
  refine wpAnyH_ready (rs := [6]) (by kernel_rfl) (by simp) ?_
  refine AllReadyH.cons (at_list rfl) (fun K hK => ?_) AllReadyH.nil
  go_simp
  go_at_call 71; refine (HRT.out _ (by exact HX.out.below (Bx.out (by (first | with_reducible assumption | with_reducible exact bx_alloc (by with_reducible assumption) _ | with_reducible exact bx_drew (by with_reducible assumption) | with_reducible exact bx_drew (bx_alloc (by with_reducible assumption) _))))) (by exact HY.out.below (Bx.out (by (first | with_reducible assumption | with_reducible exact bx_alloc (by with_reducible assumption) _ | with_reducible exact bx_drew (by with_reducible assumption) | with_reducible exact bx_drew (bx_alloc (by with_reducible assumption) _)))))).mono ?_; rintro e w2 ⟨rw2, hrw2, rfl, bw2⟩; have hBw2 : Bx (Below W0.heap.size W0 w2) := bx_to (by (first | with_reducible assumption | with_reducible exact bx_alloc (by with_reducible assumption) _ | with_reducible exact bx_drew (by with_reducible assumption) | with_reducible exact bx_drew (bx_alloc (by with_reducible assumption) _))) bw2; have hzw2 := bx_size hBw2; have kga0_w2 := ((bcell hBw2.out).1 _ _ lt_ga).trans kga0; have kga1_w2 := ((bcell hBw2.out).1 _ _ lt_ga).trans kga1; have kgb0_w2 := ((bcell hBw2.out).1 _ _ lt_gb).trans kgb0; have kgb1_w2 := ((bcell hBw2.out).1 _ _ lt_gb).trans kgb1
  refine hK.out _ _ ?hS1007 (fun hHeld => ?rest1007)
  case hS1007 => (try dsimp only); (refine (fun (hK : Bx (Below W0.heap.size W0 _)) => ⟨((bcell hK.out).1 _ _ lt_ga).trans kga0, ((bcell hK.out).1 _ _ lt_ga).trans kga1, ((bcell hK.out).1 _ _ lt_gb).trans kgb0, ((bcell hK.out).1 _ _ lt_gb).trans kgb1, hK⟩) ?_; (first | with_reducible assumption | with_reducible exact bx_alloc (by with_reducible assumption) _ | with_reducible exact bx_drew (by with_reducible assumption) | with_reducible exact bx_drew (bx_alloc (by with_reducible assumption) _)))
  case rest1007 =>
  clear hK K
  try simp only [Act.put, List.setIfInBounds_toArray, List.set_cons_zero, List.set_cons_succ]
  refine wpAnyH_take (i := 7) (v := ?v1008) (at_list rfl) (by kernel_rfl) (by kernel_rfl) (by kernel_rfl) (fun _ _ _ h => h) (Or.inl ⟨by rfl, ?hy1008⟩) (by assumption) ?rest1008
  case hy1008 => intro w hSw; (try dsimp only at hSw); go_simp; try (with_reducible rfl)
  case rest1008 =>
  try simp only [Act.put, List.setIfInBounds_toArray, List.set_cons_zero, List.set_cons_succ]
  refine wpAnyH_take (i := 8) (v := ?v1009) (at_list rfl) (by kernel_rfl) (by kernel_rfl) (by kernel_rfl) (fun _ _ _ h => h) (Or.inl ⟨by rfl, ?hy1009⟩) (by assumption) ?rest1009
  case hy1009 => intro w hSw; (try dsimp only at hSw); go_simp; try (with_reducible rfl)
  case rest1009 =>
  try simp only [Act.put, List.setIfInBounds_toArray, List.set_cons_zero, List.set_cons_succ]
  refine wpAnyH_take (i := 9) (v := undef) (at_list rfl) (by kernel_rfl) (by kernel_rfl) (by kernel_rfl) (fun _ _ _ h => h) (Or.inr ⟨by rfl, rfl⟩) (by assumption) ?rest1010
  case rest1010 =>
  try simp only [Act.put, List.setIfInBounds_toArray, List.set_cons_zero, List.set_cons_succ]
  refine wpAnyH_take (i := 10) (v := undef) (at_list rfl) (by kernel_rfl) (by kernel_rfl) (by kernel_rfl) (fun _ _ _ h => h) (Or.inr ⟨by rfl, rfl⟩) (by assumption) ?rest1011
  case rest1011 =>
  try simp only [Act.put, List.setIfInBounds_toArray, List.set_cons_zero, List.set_cons_succ]
  refine wpAnyH_take (i := 11) (v := undef) (at_list rfl) (by kernel_rfl) (by kernel_rfl) (by kernel_rfl) (fun _ _ _ h => h) (Or.inr ⟨by rfl, rfl⟩) (by assumption) ?rest1012
  case rest1012 =>
  try simp only [Act.put, List.setIfInBounds_toArray, List.set_cons_zero, List.set_cons_succ]
  refine wpAnyH_take (i := 12) (v := undef) (at_list rfl) (by kernel_rfl) (by kernel_rfl) (by kernel_rfl) (fun _ _ _ h => h) (Or.inr ⟨by rfl, rfl⟩) (by assumption) ?rest1013
  case rest1013 =>
  try simp only [Act.put, List.setIfInBounds_toArray, List.set_cons_zero, List.set_cons_succ]
  refine wpAnyH_take (i := 13) (v := undef) (at_list rfl) (by kernel_rfl) (by kernel_rfl) (by kernel_rfl) (fun _ _ _ h => h) (Or.inr ⟨by rfl, rfl⟩) (by assumption) ?rest1014
  case rest1014 =>
  try simp only [Act.put, List.setIfInBounds_toArray, List.set_cons_zero, List.set_cons_succ]
  refine wpAnyH_take (i := 14) (v := ?v1015) (at_list rfl) (by kernel_rfl) (by kernel_rfl) (by kernel_rfl) (fun _ _ _ h => h) (Or.inl ⟨by rfl, ?hy1015⟩) (by assumption) ?rest1015
  case hy1015 => intro w hSw; (try dsimp only at hSw); go_simp; try (with_reducible rfl)
  case rest1015 =>
  try simp only [Act.put, List.setIfInBounds_toArray, List.set_cons_zero, List.set_cons_succ]
  refine wpAnyH_take (i := 15) (v := ?v1016) (at_list rfl) (by kernel_rfl) (by kernel_rfl) (by kernel_rfl) (fun _ _ _ h => h) (Or.inl ⟨by rfl, ?hy1016⟩) (by assumption) ?rest1016
  case hy1016 => intro w hSw; (try dsimp only at hSw); go_simp; try (with_reducible rfl)
  case rest1016 =>
  try simp only [Act.put, List.setIfInBounds_toArray, List.set_cons_zero, List.set_cons_succ]
  refine wpAnyH_ready (rs := [16]) (by kernel_rfl) (by simp) ?_
  refine AllReadyH.cons (at_list rfl) (fun K hK => ?_) AllReadyH.nil
  go_simp
  refine hK.out _ _ ?hS1017 (fun hHeld => ?rest1017)
  case hS1017 => (try dsimp only); (refine (fun (hK : Bx (Below W0.heap.size W0 _)) => ⟨((bcell hK.out).1 _ _ lt_ga).trans kga0, ((bcell hK.out).1 _ _ lt_ga).trans kga1, ((bcell hK.out).1 _ _ lt_gb).trans kgb0, ((bcell hK.out).1 _ _ lt_gb).trans kgb1, hK⟩) ?_; (first | with_reducible assumption | with_reducible exact bx_alloc (by with_reducible assumption) _ | with_reducible exact bx_drew (by with_reducible assumption) | with_reducible exact bx_drew (bx_alloc (by with_reducible assumption) _)))
  case rest1017 =>
  clear hK K
  try simp only [Act.put, List.setIfInBounds_toArray, List.set_cons_zero, List.set_cons_succ]
  refine wpAnyH_done (by kernel_rfl) ?_ _
  have b := hBw2.out
  replace kga0 := ((bcell b).1 _ _ lt_ga).trans kga0
  replace kga1 := ((bcell b).1 _ _ lt_ga).trans kga1
  replace kgb0 := ((bcell b).1 _ _ lt_gb).trans kgb0
  replace kgb1 := ((bcell b).1 _ _ lt_gb).trans kgb1
  replace lt_ga := Nat.lt_of_lt_of_le lt_ga b.size
  replace lt_gb := Nat.lt_of_lt_of_le lt_gb b.size
  replace HX := Bx.mk (HX.out.below b)
  replace HY := Bx.mk (HY.out.below b)
  replace bw := bw.trans (b.mono bw.size)
  clear b
  go_wp2_with fail
  go_ret
  exact ⟨rfl, bw⟩
set_option maxHeartbeats 2000000 in
set_option maxRecDepth 20000 in
theorem twins_ok (n : Nat) (A B : Option Addr) (c d : Nat) (xs ys : List Int) (w : World) (hx : rhOk n xs = true) (hy : rhOk n ys = true) (hcx : xs.length ≤ c) (hcy : ys.length ≤ d) (hv : vecC n xs = vecC n ys) (hrot : rotB n xs ys = true) (hA : IR w A xs) (hB : IR w B ys) :
    Calls Try.prog 49 #[.agg #[.int .i64 n, .slice A xs.length c], .agg #[.int .i64 n, .slice B ys.length d]] w fun e w' => e = .returned (.bool false) ∧ Below w.heap.size w w' := by
  obtain ⟨W0, hW0⟩ : ∃ W0, W0 = (w.alloc (.cells #[.int .i64 n, .slice A xs.length c] 30)).alloc (.cells #[.int .i64 n, .slice B ys.length d] 30) := ⟨_, rfl⟩
  have bw : Below w.heap.size w W0 := by rw [hW0]; exact (below_alloc _ _).alloc (by simp) _
  have hz : w.heap.size + 2 ≤ W0.heap.size := by rw [hW0]; simp
  have kga0 : W0.cell? ⟨w.heap.size, 0, none⟩ = some (.int .i64 n) := by rw [hW0]; simp [go_sem]
  have kga1 : W0.cell? ⟨w.heap.size, 1, none⟩ = some (.slice A xs.length c) := by rw [hW0]; simp [go_sem]
  have kgb0 : W0.cell? ⟨w.heap.size + 1, 0, none⟩ = some (.int .i64 n) := by rw [hW0]; simp [go_sem]
  have kgb1 : W0.cell? ⟨w.heap.size + 1, 1, none⟩ = some (.slice B ys.length d) := by rw [hW0]; simp [go_sem]
  have HX := Bx.mk (hA.below bw)
  have HY := Bx.mk (hB.below bw)
  have HXO := Bx.mk hx
  have HYO := Bx.mk hy
  obtain ⟨⟨hn1, hn2⟩, hxb, hxa⟩ := rhOk_iff.1 hx
  have HXB := Bx.mk hxb
  have HSS : Bx (∀ W, IR W A xs → IR W B ys → Calls Try.prog 63 #[.agg #[.int .i64 n, .slice A xs.length c], .agg #[.int .i64 n, .slice B ys.length d]] W fun e w' => e = .returned (.bool true) ∧ Below W.heap.size W w') := ⟨fun W h1 h2 => lit_b (twoOk_iff.2 ⟨HXO.out, HYO.out, rfl⟩) (implSame_any _ _ _ _ _ _ _ _ _ ⟨by omega, by omega⟩ ⟨by omega, by omega⟩ h1 h2)⟩
  obtain ⟨ga, hga⟩ : ∃ ga, ga = w.heap.size := ⟨_, rfl⟩
  obtain ⟨gb, hgb⟩ : ∃ gb, gb = w.heap.size + 1 := ⟨_, rfl⟩
  have lt_ga : ga < W0.heap.size := by omega
  have lt_gb : gb < W0.heap.size := by omega
  rw [← hga] at kga0 kga1
  rw [← hgb] at kgb0 kgb1
  have HSV : Bx (∀ W, IR W A xs → IR W B ys → Calls Try.prog 48 #[.agg #[.int .i64 n, .slice A xs.length c], .agg #[.int .i64 n, .slice B ys.length d]] W fun e w' => e = .returned (.bool true) ∧ Below W.heap.size W w') := ⟨fun W h1 h2 => sameVec_ok n A B c d xs ys W HXO.out HYO.out hcx hcy hv h1 h2⟩
  have HAF : Bx (∀ W, IR W A xs → IR W B ys → Calls Try.prog 88 #[.agg #[.int .i64 n, .slice A xs.length c], .agg #[.int .i64 n, .slice B ys.length d]] W fun e w' => e = .returned (.bool true) ∧ Below W.heap.size W w') := ⟨fun W h1 h2 => forms_ok n A B c d xs ys W HXO.out HYO.out hrot h1 h2⟩
  clear hx hy hA hB hxb hxa hcx hcy hv hrot
  go_enter Try.func49, Try.ntmps49
  go_wp2_with fail
  rw [← hW0, ← hgb, ← hga]
  clear hW0 hga hgb
  refine (HSV.out _ (by exact HX.out) (by exact HY.out)).mono ?_
  rintro e w1 ⟨rfl, b⟩
  replace kga0 := ((bcell b).1 _ _ lt_ga).trans kga0
  replace kga1 := ((bcell b).1 _ _ lt_ga).trans kga1
  replace kgb0 := ((bcell b).1 _ _ lt_gb).trans kgb0
  replace kgb1 := ((bcell b).1 _ _ lt_gb).trans kgb1
  replace HX := Bx.mk (HX.out.below b)
  replace HY := Bx.mk (HY.out.below b)
  replace bw := bw.trans (b.mono bw.size)
  clear b
  go_wp2_with fail
  refine (HAF.out _ (by exact HX.out) (by exact HY.out)).mono ?_
  rintro e w2 ⟨rfl, b⟩
  replace bw := bw.trans (b.mono bw.size)
  clear b
  go_wp2_with fail
  go_ret
  exact ⟨rfl, bw⟩
theorem row_base {w : World} {b b' : Nat} {v : Value} {xs : List Int} (h : Row w b v xs) (hb : b' ≤ b) : Row w b' v xs := ⟨h.1, by
  rcases h.2 with h' | ⟨g, cap, cur, e, hg, r⟩
  · exact .inl h'
  · exact .inr ⟨g, cap, cur, e, Nat.le_trans hb hg, r⟩⟩
set_option maxHeartbeats 2000000 in
set_option maxRecDepth 20000 in
theorem overlaps_ok (n : Nat) (A : Option Addr) (c : Nat) (xs : List Int) (w : World) (hx : rhOk n xs = true) (hA : IR w A xs) :
    Calls Try.prog 46 #[.agg #[.int .i64 n, .slice A xs.length c], .agg #[.int .i64 n, .slice A xs.length c]] w (GivesInts w (ovTo n xs n)) := by
  obtain ⟨W0, hW0⟩ : ∃ W0, W0 = (w.alloc (.cells #[.int .i64 n, .slice A xs.length c] 30)).alloc (.cells #[.int .i64 n, .slice A xs.length c] 30) := ⟨_, rfl⟩
  have bw : Below w.heap.size w W0 := by rw [hW0]; exact (below_alloc _ _).alloc (by simp) _
  have hz : w.heap.size + 2 ≤ W0.heap.size := by rw [hW0]; simp
  have kga0 : W0.cell? ⟨w.heap.size, 0, none⟩ = some (.int .i64 n) := by rw [hW0]; simp [go_sem]
  have kga1 : W0.cell? ⟨w.heap.size, 1, none⟩ = some (.slice A xs.length c) := by rw [hW0]; simp [go_sem]
  have kgb0 : W0.cell? ⟨w.heap.size + 1, 0, none⟩ = some (.int .i64 n) := by rw [hW0]; simp [go_sem]
  have kgb1 : W0.cell? ⟨w.heap.size + 1, 1, none⟩ = some (.slice A xs.length c) := by rw [hW0]; simp [go_sem]
  have HX := Bx.mk (hA.below bw)
  have HY := Bx.mk (hA.below bw)
  have HXO := Bx.mk hx
  have HYO := Bx.mk hx
  obtain ⟨⟨hn1, hn2⟩, hxb, hxa⟩ := rhOk_iff.1 hx
  have HXB := Bx.mk hxb
  have HSS : Bx (∀ W, IR W A xs → IR W A xs → Calls Try.prog 63 #[.agg #[.int .i64 n, .slice A xs.length c], .agg #[.int .i64 n, .slice A xs.length c]] W fun e w' => e = .returned (.bool true) ∧ Below W.heap.size W w') := ⟨fun W h1 h2 => lit_b (twoOk_iff.2 ⟨HXO.out, HYO.out, rfl⟩) (implSame_any _ _ _ _ _ _ _ _ _ ⟨by omega, by omega⟩ ⟨by omega, by omega⟩ h1 h2)⟩
  obtain ⟨ga, hga⟩ : ∃ ga, ga = w.heap.size := ⟨_, rfl⟩
  obtain ⟨gb, hgb⟩ : ∃ gb, gb = w.heap.size + 1 := ⟨_, rfl⟩
  have lt_ga : ga < W0.heap.size := by omega
  have lt_gb : gb < W0.heap.size := by omega
  rw [← hga] at kga0 kga1
  rw [← hgb] at kgb0 kgb1
  clear hx hA hxa hxb
  go_enter Try.func46, Try.ntmps46
  go_wp2_with fail
  rw [← hW0, ← hgb, ← hga]
  clear hW0
  refine (HSS.out _ (by exact HX.out) (by exact HX.out)).mono ?_
  rintro e w1 ⟨rfl, b⟩
  replace kga0 := ((bcell b).1 _ _ lt_ga).trans kga0
  replace kga1 := ((bcell b).1 _ _ lt_ga).trans kga1
  replace kgb0 := ((bcell b).1 _ _ lt_gb).trans kgb0
  replace kgb1 := ((bcell b).1 _ _ lt_gb).trans kgb1
  replace HX := Bx.mk (HX.out.below b)
  replace lt_ga := Nat.lt_of_lt_of_le lt_ga b.size
  replace lt_gb := Nat.lt_of_lt_of_le lt_gb b.size
  replace bw := bw.trans (b.mono bw.size)
  clear b hga hgb hz HY HSS
  go_wp2_with fail
  go_loopw [5, 13] (fun v i wr => ∃ k : Nat, k ≤ n ∧ i = .int .i64 k ∧ Bx (Row wr w1.heap.size v (ovTo n xs k)) ∧ Bx (Below w1.heap.size w1 wr)) (fun _ i _ => n - (intOf i).toNat)
  case atStart => exact ⟨0, by omega, rfl, ⟨Row.nil _ _⟩, ⟨Below.refl _ _⟩⟩
  case round =>
    obtain ⟨k, hk, rfl, HR, HB⟩ := hrel
    by_cases hlt : k < n
    · have hkl : (k : Int) < (n : Int) := by omega
      have hl24 := (rhOk_len HXO.out).1
      obtain ⟨R, hR⟩ : ∃ R, R = rotL n xs (k : Int) := ⟨_, rfl⟩
      have HRok : Bx (rhOk n R = true) := ⟨by rw [hR]; exact rot_ok (by omega) (by omega) _⟩
      have HRO : Bx (∀ W, IR W A xs → Calls Try.prog 81 #[.agg #[.int .i64 n, .slice A xs.length c], .int .i64 k] W (GivesRh W n R)) := ⟨fun W h => by rw [hR]; exact rotated_any n A c xs k W ⟨by omega, by omega⟩ (fun x hx => by have := HXB.out x hx; omega) (by omega) (by omega) h⟩
      obtain ⟨m, hm⟩ : ∃ m : Nat, m = cmN xs R := ⟨_, rfl⟩
      have HCM : Bx (∀ A2 c2 W, IR W A xs → IR W A2 R → Calls Try.prog 86 #[.agg #[.int .i64 n, .slice A xs.length c], .agg #[.int .i64 n, .slice A2 R.length c2]] W fun e w' => e = .returned (.int .i64 (m : Int)) ∧ Below W.heap.size W w') := ⟨fun A2 c2 W h1 h2 => by rw [hm]; exact common_any n A A2 c c2 xs R W HXO.out HRok.out h1 h2⟩
      obtain ⟨Z, hZ⟩ : ∃ Z, Z = ovTo n xs k := ⟨_, rfl⟩
      have HN : Bx (ovTo n xs (k + 1) = Z ++ [(m : Int)]) := ⟨by rw [ovTo_succ, hm, hR, hZ]⟩
      have hzl : Z.length ≤ 24 := by rw [hZ, ovTo_len]; omega
      rw [← hZ] at HR
      have BD : Bx (Below w1.heap.size w1 wr.drew) := ⟨HB.out.drew⟩
      have HRd : Bx (Row wr.drew w1.heap.size _ Z) := ⟨HR.out.drewN 1⟩
      clear hZ hR hm HR HB
      go_upto_region 7 with (fail)
      refine wp_region_held_drew (S := fun w' => w'.cell? ⟨ga, 0, none⟩ = some (.int .i64 n) ∧ w'.cell? ⟨ga, 1, none⟩ = some (.slice A xs.length c) ∧ w'.cell? ⟨gb, 0, none⟩ = some (.int .i64 n) ∧ w'.cell? ⟨gb, 1, none⟩ = some (.slice A xs.length c)) (by kernel_rfl) ⟨((bcell BD.out).1 _ _ lt_ga).trans kga0, ((bcell BD.out).1 _ _ lt_ga).trans kga1, ((bcell BD.out).1 _ _ lt_gb).trans kgb0, ((bcell BD.out).1 _ _ lt_gb).trans kgb1⟩ (fun hHeld => ?_)
      refine wpAnyH_take (i := 0) (v := ?v90001) (at_list rfl) (by kernel_rfl) (by kernel_rfl) (by kernel_rfl) (fun _ _ _ h => h) (Or.inl ⟨by rfl, ?hy90001⟩) (by assumption) ?rest90001
      case hy90001 => intro w hSw; (try dsimp only at hSw); go_simp; try (with_reducible rfl)
      case rest90001 =>
      try simp only [Act.put, List.setIfInBounds_toArray, List.set_cons_zero, List.set_cons_succ]
      refine wpAnyH_take (i := 1) (v := ?v90002) (at_list rfl) (by kernel_rfl) (by kernel_rfl) (by kernel_rfl) (fun _ _ _ h => h) (Or.inl ⟨by rfl, ?hy90002⟩) (by assumption) ?rest90002
      case hy90002 => intro w hSw; (try dsimp only at hSw); go_simp; try (with_reducible rfl)
      case rest90002 =>
      try simp only [Act.put, List.setIfInBounds_toArray, List.set_cons_zero, List.set_cons_succ]
      refine wpAnyH_take (i := 2) (v := ?v90003) (at_list rfl) (by kernel_rfl) (by kernel_rfl) (by kernel_rfl) (fun _ _ _ h => h) (Or.inl ⟨by rfl, ?hy90003⟩) (by assumption) ?rest90003
      case hy90003 => intro w hSw; (try dsimp only at hSw); go_simp; try (with_reducible rfl)
      case rest90003 =>
      try simp only [Act.put, List.setIfInBounds_toArray, List.set_cons_zero, List.set_cons_succ]
      refine wpAnyH_take (i := 3) (v := ?v90004) (at_list rfl) (by kernel_rfl) (by kernel_rfl) (by kernel_rfl) (fun _ _ _ h => h) (Or.inl ⟨by rfl, ?hy90004⟩) (by assumption) ?rest90004
      case hy90004 => intro w hSw; (try dsimp only at hSw); go_simp; try (with_reducible rfl)
      case rest90004 =>
      try simp only [Act.put, List.setIfInBounds_toArray, List.set_cons_zero, List.set_cons_succ]
      refine wpAnyH_ready (rs := [4]) (by kernel_rfl) (by simp) ?_
      refine AllReadyH.cons (at_list rfl) (fun K hK => ?_) AllReadyH.nil
      go_simp
      go_at_call 81
      refine (HRO.out _ (by exact HX.out.below BD.out)).mono ?_
      rintro e w2 ⟨A2, c2, rfl, io, b⟩
      have HI2 := Bx.mk io.reads
      have B2 := Bx.mk (BD.out.trans (b.mono BD.out.size))
      have HR2 := Bx.mk (HRd.out.below b (Nat.le_refl _))
      clear io b
      refine hK.out _ _ ?hS90005 (fun hHeld => ?rest90005)
      case hS90005 => exact ⟨((bcell B2.out).1 _ _ lt_ga).trans kga0, ((bcell B2.out).1 _ _ lt_ga).trans kga1, ((bcell B2.out).1 _ _ lt_gb).trans kgb0, ((bcell B2.out).1 _ _ lt_gb).trans kgb1⟩
      case rest90005 =>
      clear hK K
      try simp only [Act.put, List.setIfInBounds_toArray, List.set_cons_zero, List.set_cons_succ]
      refine wpAnyH_ready (rs := [5]) (by kernel_rfl) (by simp) ?_
      refine AllReadyH.cons (at_list rfl) (fun K hK => ?_) AllReadyH.nil
      go_simp
      go_at_call 86
      refine (HCM.out _ _ _ (by exact HX.out.below B2.out) (by exact HI2.out)).mono ?_
      rintro e w3 ⟨rfl, b⟩
      have B3 := Bx.mk (B2.out.trans (b.mono B2.out.size))
      have HR3 := Bx.mk (HR2.out.below b (Nat.le_refl _))
      clear b
      refine hK.out _ _ ?hS90006 (fun hHeld => ?rest90006)
      case hS90006 => exact ⟨((bcell B3.out).1 _ _ lt_ga).trans kga0, ((bcell B3.out).1 _ _ lt_ga).trans kga1, ((bcell B3.out).1 _ _ lt_gb).trans kgb0, ((bcell B3.out).1 _ _ lt_gb).trans kgb1⟩
      case rest90006 =>
      clear hK K
      try simp only [Act.put, List.setIfInBounds_toArray, List.set_cons_zero, List.set_cons_succ]
      refine wpAnyH_ready (rs := [6]) (by kernel_rfl) (by simp) ?_
      refine AllReadyH.cons (at_list rfl) (fun K hK => ?_) AllReadyH.nil
      go_simp
      have B4 : Bx (Below w1.heap.size w1 (w3.alloc (.cells #[.int .i64 (m : Int)] 3))) := ⟨B3.out.trans ((below_alloc _ _).mono B3.out.size)⟩
      refine hK.out _ _ ?hS90007 (fun hHeld => ?rest90007)
      case hS90007 => exact ⟨((bcell B4.out).1 _ _ lt_ga).trans kga0, ((bcell B4.out).1 _ _ lt_ga).trans kga1, ((bcell B4.out).1 _ _ lt_gb).trans kgb0, ((bcell B4.out).1 _ _ lt_gb).trans kgb1⟩
      case rest90007 =>
      clear hK K
      try simp only [Act.put, List.setIfInBounds_toArray, List.set_cons_zero, List.set_cons_succ]
      refine wpAnyH_ready (rs := [7]) (by kernel_rfl) (by simp) ?_
      refine AllReadyH.cons (at_list rfl) (fun K hK => ?_) AllReadyH.nil
      rw [if_pos (by rfl)]
      refine wp_app1 _ _ rfl w1.heap.size _ Z (m : Int) rfl rfl (by exact HR3.out) (by omega) (by exact B3.out.size) ?_
      intro v5 w5 hrow hb
      have B5 := Bx.mk (B3.out.trans hb)
      have HR5 : Bx (Row w5 w1.heap.size v5 (ovTo n xs (k + 1))) := ⟨by rw [HN.out]; exact hrow⟩
      clear hrow hb
      refine hK.out _ _ ?hS90008 (fun hHeld => ?rest90008)
      case hS90008 => exact ⟨((bcell B5.out).1 _ _ lt_ga).trans kga0, ((bcell B5.out).1 _ _ lt_ga).trans kga1, ((bcell B5.out).1 _ _ lt_gb).trans kgb0, ((bcell B5.out).1 _ _ lt_gb).trans kgb1⟩
      case rest90008 =>
      clear hK K
      try simp only [Act.put, List.setIfInBounds_toArray, List.set_cons_zero, List.set_cons_succ]
      refine wpAnyH_ready (rs := [8]) (by kernel_rfl) (by simp) ?_
      refine AllReadyH.cons (at_list rfl) (fun K hK => ?_) AllReadyH.nil
      go_simp
      refine hK.out _ _ ?hS90009 (fun hHeld => ?rest90009)
      case hS90009 => exact ⟨((bcell B5.out).1 _ _ lt_ga).trans kga0, ((bcell B5.out).1 _ _ lt_ga).trans kga1, ((bcell B5.out).1 _ _ lt_gb).trans kgb0, ((bcell B5.out).1 _ _ lt_gb).trans kgb1⟩
      case rest90009 =>
      clear hK K
      try simp only [Act.put, List.setIfInBounds_toArray, List.set_cons_zero, List.set_cons_succ]
      refine wpAnyH_done (by kernel_rfl) ?_ _
      go_wp2_with fail
      go_roundw
      case rel => exact ⟨k + 1, by omega, by go_num, HR5, B5⟩
      case measure => simp [intOf]; omega
    · have hkn : k = n := by omega
      have hkl : ¬ (k : Int) < (n : Int) := by omega
      have HG := Bx.mk (GivesInts.of_row (w := w) (w' := wr) (v := _) (xs := ovTo n xs n) (row_base (by have h9 := HR.out; rw [hkn] at h9; exact h9) bw.size) (by rw [ovTo_len]; omega) (bw.trans (HB.out.mono bw.size)))
      clear hkn
      go_wp2_with fail
      go_ret
      exact HG.out
theorem IR.drop1 {w : World} {b p : Nat} {xs : List Int} (h : IR w (some ⟨b, p, none⟩) xs) : IR w (some ⟨b, p + 1, none⟩) (xs.drop 1) := by
  refine ⟨by have := h.1; simp; omega, fun h0 => ?_⟩
  rw [List.length_drop] at h0
  obtain ⟨b', p', e, hlt, hc⟩ := h.2 (by omega)
  injection e with e; injection e with e1 e2
  subst e1 e2
  refine ⟨b, p + 1, rfl, hlt, fun j hj => ?_⟩
  rw [List.length_drop] at hj
  have := hc (1 + j) (by omega)
  rw [List.getElem?_drop, ← this, Nat.add_assoc]
set_option maxHeartbeats 1000000 in
set_option maxRecDepth 20000 in
theorem flat_ok (s : Int) (A : Option Addr) (c : Nat) (xs : List Int) (n : Nat) (hsn : Bx (s = ((n : Nat) : Int))) (w : World) (hok : rhOk s xs = true) (hx : IR w A xs) :
    Calls Try.prog 52 #[.agg #[.int .i64 s, .slice A xs.length c]] w fun e w' => e = .returned (.bool (flatB ((difC s xs).drop 1))) ∧ Below w.heap.size w w' := by
  obtain ⟨⟨hs1, hs2⟩, hxb, _⟩ := rhOk_iff.1 hok
  have HXB := Bx.mk hxb
  have hll := (rhOk_len hok).1
  obtain ⟨W0, hW0⟩ : ∃ W0, W0 = w.alloc (.cells #[.int .i64 s, .slice A xs.length c] 30) := ⟨_, rfl⟩
  have bw : Below w.heap.size w W0 := by rw [hW0]; exact below_alloc _ _
  have hz : w.heap.size < W0.heap.size := by rw [hW0]; simp <;> omega
  have k0 : W0.cell? ⟨w.heap.size, 0, none⟩ = some (.int .i64 s) := by rw [hW0]; simp [go_sem]
  have k1 : W0.cell? ⟨w.heap.size, 1, none⟩ = some (.slice A xs.length c) := by rw [hW0]; simp [go_sem]
  have HX := Bx.mk ((RB.of_ir hx).below bw (Nat.le_refl _))
  have HOK := Bx.mk hok
  have HS : Bx (-9223372036854775808 ≤ s ∧ s ≤ 9223372036854775807) := ⟨by omega⟩
  clear hx hxb
  go_enter Try.func52, Try.ntmps52
  go_wp2_with fail
  rw [← hW0]
  clear hW0
  refine (lit_b hok (implRhythmOk_any _ _ _ _ _ HS.out (by exact HX.out.ir))).mono ?_
  clear hok
  rintro e w1 ⟨rfl, b⟩
  replace k0 := ((bcell b).1 _ _ (by omega)).trans k0
  replace k1 := ((bcell b).1 _ _ (by omega)).trans k1
  replace HX := Bx.mk (HX.out.below b (by omega))
  replace bw := bw.trans (b.mono bw.size)
  clear b
  go_wp2_with fail
  refine (differences_any _ _ _ _ _ HOK.out (by exact HX.out.ir)).mono ?_
  rintro e w2 ⟨A2, c2, rfl, io, b⟩
  obtain ⟨D, hD⟩ : ∃ D, D = difC s xs := ⟨_, rfl⟩
  have hn1 : 1 ≤ n := by have := hsn.out; omega
  have hn24 : n ≤ 24 := by have := hsn.out; omega
  have hDl : D.length = n := by rw [hD, difC_len, hsn.out, Int.toNat_natCast]
  rw [← hD] at io ⊢
  obtain ⟨g, rfl⟩ : ∃ g, A2 = some ⟨g, 0, none⟩ := by
    rcases io.2.2 with ⟨_, h⟩ | ⟨g, _, e, _⟩
    · rw [h] at hDl; simp at hDl; omega
    · exact ⟨g, e⟩
  have hc2 : D.length ≤ c2 := io.1
  have HI := Bx.mk io.reads.drop1
  replace bw := bw.trans (b.mono bw.size)
  obtain ⟨L, hL⟩ : ∃ L, L = D.length := ⟨_, rfl⟩
  have hL1 : 1 ≤ L := by omega
  have hLi : (1 : Int) ≤ (L : Int) := by omega
  have hcL : L ≤ c2 := by omega
  have hLc : (L : Int) ≤ (c2 : Int) := by omega
  obtain ⟨E, hE⟩ : ∃ E, E = D.drop 1 := ⟨_, rfl⟩
  have hEl : E.length = L - 1 := by rw [hE, List.length_drop, hL]
  rw [← hE] at HI
  rw [← hL]
  have hEb : E.length ≤ 24 := by omega
  have HCO : Bx (∀ c W, IR W (some ⟨g, 1, none⟩) E → Calls Try.prog 76 #[.slice (some ⟨g, 1, none⟩) (L - 1) c] W (GivesIS W (coll E))) := ⟨fun c W h => by rw [← hEl]; exact collected_some g 1 c E W h (by omega)⟩
  have HCZ : Bx (L = 1 → ∀ c W, Calls Try.prog 76 #[.slice (some ⟨g, 0, none⟩) (L - 1) c] W (GivesIS W (coll E))) := ⟨fun e c W => by
    have : E = [] := List.eq_nil_of_length_eq_zero (by omega)
    rw [← hEl]; exact collected_some g 0 c E W (by rw [this]; exact IR.nil _ _) (by omega)⟩
  obtain ⟨C, hC⟩ : ∃ C, C = coll E := ⟨_, rfl⟩
  have HF : Bx (flatB ((difC s xs).drop 1) = decide (C.length ≤ 1)) := ⟨by rw [← hD, ← hE]; unfold flatB; rw [hC]⟩
  rw [← hC] at HCO HCZ
  clear b io hD hDl hc2 hL hE hEl hC hsn hEb
  by_cases hc1 : c2 = 1
  · have hLe : L = 1 := by omega
    subst hLe
    have HCY : Bx (∀ c W, Calls Try.prog 76 #[.slice (some ⟨g, 0, none⟩) 0 c] W (GivesIS W C)) := ⟨HCZ.out rfl⟩
    subst hc1
    clear HCO HCZ HI hL1 hLi hcL hLc
    go_wp2_with fail
    refine (HCY.out _ _).mono ?_
    rintro e w3 ⟨g3, c3, rfl, _, b⟩
    replace bw := bw.trans (b.mono bw.size)
    clear b
    go_wp2_with fail
    go_ret
    exact ⟨ret_bool (by rw [HF.out, decide_eq_decide]; omega), bw⟩
  · have hc3 : 1 < c2 := by omega
    have hc4 : ¬ c2 - 1 = 0 := by omega
    have hc5 : ¬ c2 ≤ 1 := by omega
    clear hc1 HCZ
    go_wp2_with fail
    refine (HCO.out _ _ (by exact HI.out)).mono ?_
    rintro e w3 ⟨g3, c3, rfl, _, b⟩
    replace bw := bw.trans (b.mono bw.size)
    clear b
    go_wp2_with fail
    go_ret
    exact ⟨ret_bool (by rw [HF.out, decide_eq_decide]; omega), bw⟩
end Go.Proofs.Ytlgiijibekobfaa
