/- Whether a rhythm has a beat, in the reference's words. -/
import Derived.Test.YtbgfhbaaacmndaaBas
import Derived.Deep.RegionHeld3
namespace Go.Proofs.Ytbgfhbaaacmndaa
open Go.RowKit

theorem l02Mod_any (k n : Int) (hn : 1 ≤ n) (hn2 : n ≤ 1000000) (w : World) :
    Calls Try.prog 90 #[.int .i64 k, .int .i64 n] w fun e w' => e = .returned (.int .i64 (k % n)) ∧ w = w' := by
  have hr := tmod_rem k n hn
  go_enter Try.func90, Try.ntmps90
  go_wp2
  go_ret
  exact ⟨ret_int hr.1, rfl⟩
theorem rhOk_is {f : FuncId} {args : Array Value} {w : World} {s : Int} {xs : List Int} {b : Bool} (hb : rhOk s xs = b) (h : Calls Try.prog f args w fun e w' => e = .returned (.bool (rhOk s xs)) ∧ Below w.heap.size w w') :
    Calls Try.prog f args w fun e w' => e = .returned (.bool b) ∧ Below w.heap.size w w' := by rw [← hb]; exact h
set_option maxHeartbeats 1000000 in
theorem hasBeat_ok (s : Int) (A : Option Addr) (c : Nat) (xs : List Int) (k : Int) (w : World) (hok : rhOk s xs = true) (_hk : -9223372036854775808 ≤ k ∧ k ≤ 9223372036854775807) (hx : IR w A xs) :
    Calls Try.prog 77 #[.agg #[.int .i64 s, .slice A xs.length c], .int .i64 k] w fun e w' => e = .returned (.bool (hasR s xs k)) ∧ Below w.heap.size w w' := by
  have hW := below_alloc w (.cells #[.int .i64 s, .slice A xs.length c] 27)
  have HX := Bx.mk hx
  clear hx
  obtain ⟨⟨hs1, hs2⟩, _, _⟩ := rhOk_iff.1 hok
  have HR : Bx (hasR s xs k = memB xs (k % s)) := ⟨by simp [hasR]⟩
  have HS : Bx (-9223372036854775808 ≤ s ∧ s ≤ 9223372036854775807) := ⟨by omega⟩
  have HK := Bx.mk hok
  clear hok
  go_enter Try.func77, Try.ntmps77
  go_wp2
  have hB0 : Bx (Below w.heap.size w (w.alloc (.cells #[.int .i64 s, .slice A xs.length c] 27)).drew) := ⟨hW.drew⟩
  go_region_held3 (fun w' => w'.cell? ⟨w.heap.size, 0, none⟩ = some (.int .i64 s) ∧ w'.cell? ⟨w.heap.size, 1, none⟩ = some (.slice A xs.length c) ∧ w.heap.size < w'.heap.size ∧ Bx (Below w.heap.size w w'))
    (refine ⟨by simp [*, go_sem], by simp [*, go_sem], by first | omega | simp [*, go_sem], by assumption⟩)
    (first
      | (go_at_call 30; refine (rhOk_is HK.out (specRhythmOk_any _ _ _ _ _ HS.out (by exact HX.out.below (Bx.out (by assumption))))).mono ?_; rintro e w1 ⟨rfl, hb1⟩; obtain ⟨hcl, hfr⟩ := bcell hb1; have hz := hb1.size; have hB1 : Bx (Below w.heap.size w w1) := ⟨Below.trans (Bx.out (by assumption)) (hb1.mono (by omega))⟩)
      | (go_at_call 90; refine (l02Mod_any _ _ hs1 (by omega) _).mono ?_; rintro e w' ⟨rfl, rfl⟩)
      | (go_at_call 45; refine (l02Has_any _ _ _ _ _ (by exact HX.out.below hB1.out)).mono ?_; rintro e w' ⟨rfl, rfl⟩))
  go_wp2
  go_ret
  exact ⟨ret_bool HR.out.symm, hB1.out⟩
end Go.Proofs.Ytbgfhbaaacmndaa
