/- The second condition of the reference; both conditions. -/
import Derived.Test.YtgfdmjhdfddopaaMsS
import Derived.Deep.RegionHeld3
import Derived.Deep.DeepCutAuto
import Derived.Deep.RegionWith
namespace Go.Proofs.Ytgfdmjhdfddopaa
open Go.RowKit
set_option maxRecDepth 20000

theorem ms_form {s : Int} {xs : List Int} (hok : rhOk s xs = true) : msI s xs = (hM (ordI s xs) 1 && lLoop (hM (ordI s xs)) (ppI s xs) [] 1) := by
  unfold msI
  rw [hok, aP_lLoop _ _ [] 1 (ppI_pp hok) inv_one]; rfl
def mbI (s : Int) (xs : List Int) : Bool := mfI s xs && msI s xs
theorem lit_is {f : FuncId} {args : Array Value} {w : World} {a b : Bool} (hb : a = b) (h : Calls Try.prog f args w fun e w' => e = .returned (.bool a) ∧ Below w.heap.size w w') :
    Calls Try.prog f args w fun e w' => e = .returned (.bool b) ∧ Below w.heap.size w w' := by rw [← hb]; exact h
set_option maxHeartbeats 2000000 in
set_option maxRecDepth 20000 in
theorem implMb_any (s : Int) (A : Option Addr) (c : Nat) (xs : List Int) (w : World) (hs : -9223372036854775808 ≤ s ∧ s ≤ 9223372036854775807) (hx : IR w A xs) :
    Calls Try.prog 46 #[.agg #[.int .i64 s, .slice A xs.length c]] w fun e w' => e = .returned (.bool (mbI s xs)) ∧ Below w.heap.size w w' := by
  obtain ⟨W0, hW0⟩ : ∃ W0, W0 = w.alloc (.cells #[.int .i64 s, .slice A xs.length c] 25) := ⟨_, rfl⟩
  have bw : Below w.heap.size w W0 := by rw [hW0]; exact below_alloc _ _
  have hz : w.heap.size < W0.heap.size := by rw [hW0]; simp
  have k0 : W0.cell? ⟨w.heap.size, 0, none⟩ = some (.int .i64 s) := by rw [hW0]; simp [go_sem]
  have k1 : W0.cell? ⟨w.heap.size, 1, none⟩ = some (.slice A xs.length c) := by rw [hW0]; simp [go_sem]
  have HX := Bx.mk ((RB.of_ir hx).below bw (Nat.le_refl _))
  have HS := Bx.mk hs
  clear hx hs
  cases h1 : mfI s xs with
  | false =>
    have HR : Bx (mbI s xs = false) := ⟨by simp [mbI, h1]⟩
    go_enter Try.func46, Try.ntmps46
    go_wp2_with fail
    rw [← hW0]
    clear hW0
    refine (lit_is h1 (implMf_any _ _ _ _ _ HS.out (by exact HX.out.ir))).mono ?_
    rintro e w1 ⟨rfl, b⟩
    replace bw := bw.trans (b.mono bw.size)
    clear b
    go_wp2_with fail
    go_ret
    exact ⟨ret_bool HR.out.symm, bw⟩
  | true =>
    have HR : Bx (mbI s xs = msI s xs) := ⟨by simp [mbI, h1]⟩
    go_enter Try.func46, Try.ntmps46
    go_wp2_with fail
    rw [← hW0]
    clear hW0
    refine (lit_is h1 (implMf_any _ _ _ _ _ HS.out (by exact HX.out.ir))).mono ?_
    rintro e w1 ⟨rfl, b⟩
    replace k0 := ((bcell b).1 _ _ (by omega)).trans k0
    replace k1 := ((bcell b).1 _ _ (by omega)).trans k1
    replace HX := Bx.mk (HX.out.below b (by omega))
    replace bw := bw.trans (b.mono bw.size)
    clear b
    go_wp2_with fail
    refine (implMs_any _ _ _ _ _ HS.out (by exact HX.out.ir)).mono ?_
    rintro e w2 ⟨rfl, b⟩
    have HB := Bx.mk (bw.trans (b.mono bw.size))
    clear b
    go_wp2_with fail
    go_ret
    exact ⟨ret_bool HR.out.symm, HB.out⟩
end Go.Proofs.Ytgfdmjhdfddopaa
