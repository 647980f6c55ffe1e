/- Whether a rhythm has a beat on a pulse, around; the code of a rhythm; whether it avoids a difference. -/
import Derived.Test.YtiiiejkolodjpaaRh
import Derived.Test.YtiiiejkolodjpaaMem
import Derived.Test.YtiiiejkolodjpaaAvoids
import Derived.Test.YtiiiejkolodjpaaGate
import Derived.Deep.RegionHeld3
import Derived.Deep.DeepCutAuto
namespace Go.Proofs.Ytiiiejkolodjpaa
open Go.RowKit

def hasR (s : Int) (xs : List Int) (k : Int) : Bool := memB xs (k % s)
set_option maxHeartbeats 400000 in
theorem has_any (s : Int) (A : Option Addr) (c : Nat) (xs : List Int) (k : Int) (w : World) (hs : 1 ≤ s ∧ s ≤ 24) (hk : -1000000000 ≤ k ∧ k ≤ 1000000000) (hx : IR w A xs) :
    Calls Try.prog 59 #[.agg #[.int .i64 s, .slice A xs.length c], .int .i64 k] w fun e w' => e = .returned (.bool (hasR s xs k)) ∧ Below w.heap.size w w' := by
  have hx1 := Bx.mk (hx.below (below_alloc w (.cells #[.int .i64 s, .slice A xs.length c] 27)))
  obtain ⟨hs1, hs2⟩ := hs
  go_enter Try.func59, Try.ntmps59
  go_wp2
  go_quiet ((first | (go_at_call 76; exact q_same (remainder_any _ _ hs1 (by omega) (by omega) _)) | (go_at_call 75; exact q_same (contains_any _ _ _ _ _ (by exact hx1.out)))))
  go_wp2
  go_ret
  exact ⟨rfl, below_alloc_drewN _ _ _⟩
theorem shl_one (k : Nat) (hk : k ≤ 24) : wrap64 ((2 : Int) ^ k) = ((2 ^ k : Nat) : Int) := wrap_pow hk
theorem code_step {n : Nat} {xs : List Int} {k : Nat} {x : Int} (hn : n ≤ 24) (h1 : 1 ≤ n) (hx : xs[k]? = some x) (hr : 0 ≤ x ∧ x < n) :
    bits .or .i64 ((codeTo n xs k : Nat) : Int) (wrap64 ((2 : Int) ^ ((n : Int) - 1 - x).toNat)) = ((codeTo n xs (k + 1) : Nat) : Int) := by
  have e : ((n : Int) - 1 - x).toNat = n - 1 - x.toNat := by omega
  have hlt := codeTo_lt n h1 xs k
  have h24 := pow_le_24 hn
  have hp := pow_le_24 (n := n - 1 - x.toNat) (by omega)
  rw [e, shl_one _ (by omega), i64_or _ _ (by omega) (by omega)]
  simp only [codeTo, hx, Option.getD_some]
set_option maxHeartbeats 400000 in
theorem code_any (s : Int) (A : Option Addr) (c : Nat) (xs : List Int) (w : World) (hok : rhOk s xs = true) (hx : IR w A xs) :
    Calls Try.prog 74 #[.agg #[.int .i64 s, .slice A xs.length c]] w fun e w' => e = .returned (.int .i64 (codeR s xs : Nat)) ∧ Below w.heap.size w w' := by
  have hW := below_alloc w (.cells #[.int .i64 s, .slice A xs.length c] 27)
  have hlx := hx.len
  obtain ⟨⟨hs1, hs2⟩, hmem, _⟩ := rhOk_iff.1 hok
  have HM := Bx.mk hmem
  obtain ⟨n, rfl⟩ := Int.eq_ofNat_of_zero_le (show 0 ≤ s by omega)
  have HR : Bx (codeR (n : Int) xs = codeTo n xs xs.length) := ⟨by simp [codeR]⟩
  clear hmem hok
  go_enter Try.func74, Try.ntmps74
  go_wp2
  go_loop [3, 9] (fun v i => ∃ k : Nat, k ≤ xs.length ∧ i = .int .i64 k ∧ v = .int .i64 (codeTo n xs k : Nat)) (fun _ i => xs.length - (intOf i).toNat)
  case atStart => exact ⟨0, by omega, rfl, rfl⟩
  case round =>
    obtain ⟨k, hk, rfl, rfl⟩ := hrel
    by_cases hlt : k < xs.length
    · obtain ⟨b, o, x, rfl, hb, c1, H1⟩ := hx.one hlt
      have H2 := Bx.mk H1.out
      have hkl : (k : Int) < xs.length := by omega
      have hxr := HM.out x (List.mem_of_getElem? H2.out)
      obtain ⟨hxr1, hxr2⟩ := hxr
      have HS := Bx.mk (code_step (n := n) (by omega) (by omega) H2.out ⟨hxr1, hxr2⟩)
      have hd : 0 ≤ (n : Int) - 1 - x := by omega
      have hd2 : (n : Int) - 1 - x ≤ 23 := by omega
      generalize codeTo n xs k = ck at *
      go_wp2
      go_round
      case rel => exact ⟨k + 1, by omega, by go_num, by rw [← HS.out]⟩
      case measure => simp [intOf]; omega
    · have hkx : k = xs.length := by omega
      subst hkx
      go_wp2
      go_ret
      exact ⟨ret_int (by rw [HR.out]), hW⟩
set_option maxHeartbeats 400000 in
theorem rhavoids_any (s : Int) (A : Option Addr) (c : Nat) (xs : List Int) (d : Int) (w : World) (hok : rhOk s xs = true) (hd : 1 ≤ d ∧ d < s) (hx : IR w A xs) :
    Calls Try.prog 57 #[.agg #[.int .i64 s, .slice A xs.length c], .int .i64 d] w fun e w' => e = .returned (.bool (avoidsL s d xs)) ∧ Below w.heap.size w w' := by
  have hW := below_alloc w (.cells #[.int .i64 s, .slice A xs.length c] 27)
  have hx1 := Bx.mk (hx.below hW)
  have hv := av_code hok hd
  have hlt := codeR_lt hok
  obtain ⟨⟨hs1, hs2⟩, _, _⟩ := rhOk_iff.1 hok
  have HO := Bx.mk hok
  clear hok
  obtain ⟨n, rfl⟩ := Int.eq_ofNat_of_zero_le (show 0 ≤ s by omega)
  obtain ⟨d', rfl⟩ := Int.eq_ofNat_of_zero_le (show 0 ≤ d by omega)
  simp only [Int.toNat_natCast] at hv hlt
  have HV := Bx.mk hv
  have HLT := Bx.mk hlt
  have hd1 : 1 ≤ d' := by omega
  have hd2 : d' < n := by omega
  clear hv hlt hd
  go_enter Try.func57, Try.ntmps57
  go_wp2
  have hB0 : Bx (Below w.heap.size w (w.alloc (.cells #[.int .i64 (n : Int), .slice A xs.length c] 27)).drew) := ⟨hW.drew⟩
  go_region_held3 (fun w' => w'.cell? ⟨w.heap.size, 0, none⟩ = some (.int .i64 (n : Int)) ∧ w'.cell? ⟨w.heap.size, 1, none⟩ = some (.slice A xs.length c) ∧ w.heap.size < w'.heap.size ∧ Bx (Below w.heap.size w w'))
    (refine ⟨by simp [*, go_sem], by simp [*, go_sem], by first | omega | simp [*, go_sem], by assumption⟩)
    (first
      | (go_at_call 74; refine (code_any _ _ _ _ _ HO.out (by exact hx.below (Bx.out (by assumption)))).mono ?_; rintro e w1 ⟨rfl, hb1⟩; obtain ⟨hcl, hfr⟩ := bcell hb1; have hz := hb1.size; have hB1 : Bx (Below w.heap.size w w1) := ⟨Below.trans (Bx.out (by assumption)) (hb1.mono (by omega))⟩)
      | (go_at_call 63; refine (avoids_any _ _ _ (by omega) hd1 hd2 HLT.out _).mono ?_; rintro e w2 ⟨rfl, k2, rfl⟩; have hB2 : Bx (Below w.heap.size w (w1.drewN k2)) := ⟨bdrewN hB1.out _⟩))
  go_wp2
  go_ret
  exact ⟨ret_bool HV.out, hB2.out⟩

def avoidsI (s : Int) (xs : List Int) (d : Int) : Bool := rhOk s xs && inB d 1 (s - 1) && avoidsL s d xs
set_option maxHeartbeats 400000 in
theorem implAvoids_any (s : Int) (A : Option Addr) (c : Nat) (xs : List Int) (d : Int) (w : World) (hs : -9223372036854775808 ≤ s ∧ s ≤ 9223372036854775807) (hx : IR w A xs) :
    Calls Try.prog 18 #[.agg #[.int .i64 s, .slice A xs.length c], .int .i64 d] w fun e w' => e = .returned (.bool (avoidsI s xs d)) ∧ Below w.heap.size w w' := by
  have hW := below_alloc w (.cells #[.int .i64 s, .slice A xs.length c] 27)
  have HC := Bx.mk (implRhythmOk_any s A c xs _ hs (hx.below hW))
  have HX := Bx.mk hx
  cases hok : rhOk s xs with
  | false =>
    have HR : Bx (avoidsI s xs d = false) := ⟨by simp [avoidsI, hok]⟩
    rw [hok] at HC
    clear hx hok
    go_enter Try.func18, Try.ntmps18
    go_wp2_with (go_at_call 55; refine HC.out.mono ?_; rintro e w1 ⟨rfl, hb1⟩)
    go_ret
    exact ⟨ret_bool HR.out.symm, hW.trans (hb1.mono (by simp))⟩
  | true =>
    have hsz := (rhOk_iff.1 hok).1
    obtain ⟨hs1, hs2⟩ := hsz
    rw [hok] at HC
    have HO := Bx.mk hok
    cases hin : inB d 1 (s - 1) with
    | false =>
      have HR : Bx (avoidsI s xs d = false) := ⟨by simp [avoidsI, hin]⟩
      clear hx hok
      go_enter Try.func18, Try.ntmps18
      go_wp2_with (first | (go_at_call 55; refine HC.out.mono ?_; rintro e w1 ⟨rfl, hb1⟩; obtain ⟨hcl, hfr⟩ := bcell hb1) | (go_at_call 56; refine (within_any _ _ _ _).mono ?_; rintro e w' ⟨rfl, rfl⟩))
      go_ret
      exact ⟨ret_bool HR.out.symm, hW.trans (hb1.mono (by simp))⟩
    | true =>
      have hd := inB_iff.1 hin
      have HD : Bx (1 ≤ d ∧ d < s) := ⟨by omega⟩
      have HR : Bx (avoidsI s xs d = avoidsL s d xs) := ⟨by simp [avoidsI, hok, hin]⟩
      clear hx hok
      go_enter Try.func18, Try.ntmps18
      go_wp2_with (first | (go_at_call 55; refine HC.out.mono ?_; rintro e w1 ⟨rfl, hb1⟩; obtain ⟨hcl, hfr⟩ := bcell hb1; have hB1 : Bx (Below w.heap.size w w1) := ⟨hW.trans (hb1.mono (by simp))⟩) | (go_at_call 56; refine (within_any _ _ _ _).mono ?_; rintro e w' ⟨rfl, rfl⟩) | (go_at_call 57; refine (rhavoids_any _ _ _ _ _ _ HO.out HD.out (by exact HX.out.below hB1.out)).mono ?_; rintro e w2 ⟨rfl, hb2⟩))
      go_ret
      exact ⟨ret_bool HR.out.symm, hB1.out.trans (hb2.mono hB1.out.size)⟩
theorem avoidsL_take {s d : Int} {xs : List Int} {k : Nat} {x : Int} (h : (xs.take k).all (fun p => !xs.contains ((p + d) % s)) = true) (hx : xs[k]? = some x) (hn : memB xs ((x + d) % s) = false) :
    (xs.take (k + 1)).all (fun p => !xs.contains ((p + d) % s)) = true := by
  rw [List.take_add_one, hx]
  simp only [List.all_append, h, Bool.true_and, Option.toList_some, List.all_cons, List.all_nil, Bool.and_true]
  unfold memB at hn
  rw [hn]
  rfl
theorem avoidsL_hit {s d : Int} {xs : List Int} {k : Nat} {x : Int} (hx : xs[k]? = some x) (hn : memB xs ((x + d) % s) = true) : avoidsL s d xs = false := by
  rw [Bool.eq_false_iff]
  intro h
  exact avoidsL_iff.1 h x (List.mem_of_getElem? hx) (memB_iff.1 hn)
set_option maxHeartbeats 400000 in
theorem l08Avoids_any (s : Int) (A : Option Addr) (c : Nat) (xs : List Int) (d : Int) (w : World) (hok : rhOk s xs = true) (hd : 0 ≤ d ∧ d ≤ 100) (hx : IR w A xs) :
    Calls Try.prog 53 #[.agg #[.int .i64 s, .slice A xs.length c], .int .i64 d] w fun e w' => e = .returned (.bool (avoidsL s d xs)) ∧ Below w.heap.size w w' := by
  have hW := below_alloc w (.cells #[.int .i64 s, .slice A xs.length c] 27)
  have hlx := hx.len
  have HX := Bx.mk (hx.below hW)
  obtain ⟨⟨hs1, hs2⟩, hmem, _⟩ := rhOk_iff.1 hok
  obtain ⟨hd1, hd2⟩ := hd
  have HM := Bx.mk hmem
  obtain ⟨W0, hW0⟩ : ∃ W0, W0 = w.alloc (.cells #[.int .i64 s, .slice A xs.length c] 27) := ⟨_, rfl⟩
  rw [← hW0] at HX hW
  clear hmem hok
  go_enter Try.func53, Try.ntmps53
  go_wp2
  have k0 : W0.cell? ⟨w.heap.size, 0, none⟩ = some (.int .i64 s) := by rw [hW0]; simp [go_sem]
  have k1 : W0.cell? ⟨w.heap.size, 1, none⟩ = some (.slice A xs.length c) := by rw [hW0]; simp [go_sem]
  rw [← hW0]
  clear hW0
  go_loopw [10] (fun i wr => ∃ k n : Nat, k ≤ xs.length ∧ i = .int .i64 k ∧ wr = W0.drewN n ∧ Bx ((xs.take k).all (fun p => !xs.contains ((p + d) % s)) = true)) (fun i _ => xs.length - (intOf i).toNat)
  case atStart => exact ⟨0, 0, by omega, rfl, rfl, ⟨rfl⟩⟩
  case round =>
    obtain ⟨k, n, hk, rfl, rfl, HA⟩ := hrel
    by_cases hlt : k < xs.length
    · obtain ⟨b, o, x, rfl, hb, c1, H1⟩ := HX.out.one hlt
      have H2 := Bx.mk H1.out
      clear H1
      have hkl : (k : Int) < xs.length := by omega
      obtain ⟨hx1, hx2⟩ := HM.out x (List.mem_of_getElem? H2.out)
      have hsum : IntKind.i64.wrap (x + d) = x + d := IntWalk.i64_in _ (by omega)
      have hsum2 : (x + d).tmod s = (x + d) % s := Int.tmod_eq_emod_of_nonneg (by omega)
      have hs0 : ¬ s = 0 := by omega
      cases hm : memB xs ((x + d) % s) with
      | true =>
        have HN := Bx.mk (avoidsL_hit H2.out hm)
        have HMM := Bx.mk hm
        clear hm
        go_wp2
        go_quiet ((go_at_call 58; exact q_add ((l02Has_any _ _ _ _ _ (by exact HX.out)).mono fun _ _ h => ⟨h.1.trans (by rw [HMM.out]), h.2⟩)))
        go_wp2
        go_ret
        exact ⟨ret_bool HN.out.symm, bdrewN (bdrewN hW _) _⟩
      | false =>
        have HN := Bx.mk (avoidsL_take HA.out H2.out hm)
        have HMM := Bx.mk hm
        clear hm
        go_wp2
        go_quiet ((go_at_call 58; exact q_add ((l02Has_any _ _ _ _ _ (by exact HX.out)).mono fun _ _ h => ⟨h.1.trans (by rw [HMM.out]), h.2⟩)))
        go_wp2
        go_roundw
        case rel => exact ⟨k + 1, _, by omega, by go_num, rfl, HN⟩
        case measure => simp [intOf]; omega
    · have HN : Bx (avoidsL s d xs = true) := ⟨by have := HA.out; rwa [List.take_of_length_le (by omega)] at this⟩
      go_wp2
      go_ret
      exact ⟨ret_bool HN.out.symm, bdrewN hW _⟩

set_option maxHeartbeats 400000 in
theorem specAvoids_any (s : Int) (A : Option Addr) (c : Nat) (xs : List Int) (d : Int) (w : World) (hs : -9223372036854775808 ≤ s ∧ s ≤ 9223372036854775807) (hx : IR w A xs) :
    Calls Try.prog 16 #[.agg #[.int .i64 s, .slice A xs.length c], .int .i64 d] w fun e w' => e = .returned (.bool (avoidsI s xs d)) ∧ Below w.heap.size w w' := by
  have hW := below_alloc w (.cells #[.int .i64 s, .slice A xs.length c] 27)
  have HC := Bx.mk (specRhythmOk_any s A c xs _ hs (hx.below hW))
  have HX := Bx.mk hx
  cases hok : rhOk s xs with
  | false =>
    have HR : Bx (avoidsI s xs d = false) := ⟨by simp [avoidsI, hok]⟩
    rw [hok] at HC
    clear hx hok
    go_enter Try.func16, Try.ntmps16
    go_wp2_with (go_at_call 51; refine HC.out.mono ?_; rintro e w1 ⟨rfl, hb1⟩)
    go_ret
    exact ⟨ret_bool HR.out.symm, hW.trans (hb1.mono (by simp))⟩
  | true =>
    have hsz := (rhOk_iff.1 hok).1
    obtain ⟨hs1, hs2⟩ := hsz
    rw [hok] at HC
    have HO := Bx.mk hok
    cases hin : inB d 1 (s - 1) with
    | false =>
      have HR : Bx (avoidsI s xs d = false) := ⟨by simp [avoidsI, hin]⟩
      clear hx hok
      go_enter Try.func16, Try.ntmps16
      go_wp2_with (first | (go_at_call 51; refine HC.out.mono ?_; rintro e w1 ⟨rfl, hb1⟩; obtain ⟨hcl, hfr⟩ := bcell hb1) | (go_at_call 52; refine (l01In_any _ _ _ _).mono ?_; rintro e w' ⟨rfl, rfl⟩))
      go_ret
      exact ⟨ret_bool HR.out.symm, hW.trans (hb1.mono (by simp))⟩
    | true =>
      have hd := inB_iff.1 hin
      have HD : Bx (0 ≤ d ∧ d ≤ 100) := ⟨by omega⟩
      have HR : Bx (avoidsI s xs d = avoidsL s d xs) := ⟨by simp [avoidsI, hok, hin]⟩
      clear hx hok
      go_enter Try.func16, Try.ntmps16
      go_wp2_with (first | (go_at_call 51; refine HC.out.mono ?_; rintro e w1 ⟨rfl, hb1⟩; obtain ⟨hcl, hfr⟩ := bcell hb1; have hB1 : Bx (Below w.heap.size w w1) := ⟨hW.trans (hb1.mono (by simp))⟩) | (go_at_call 52; refine (l01In_any _ _ _ _).mono ?_; rintro e w' ⟨rfl, rfl⟩) | (go_at_call 53; refine (l08Avoids_any _ _ _ _ _ _ HO.out HD.out (by exact HX.out.below hB1.out)).mono ?_; rintro e w2 ⟨rfl, hb2⟩))
      go_ret
      exact ⟨ret_bool HR.out.symm, hB1.out.trans (hb2.mono hB1.out.size)⟩
end Go.Proofs.Ytiiiejkolodjpaa
