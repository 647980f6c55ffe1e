/- The product of two polynomials. -/
import Derived.Test.YtgfdmjhdfddopaaDvs
import Derived.Test.YtgfdmjhdfddopaaPolyOk
import Derived.Test.YtgfdmjhdfddopaaL10Ok
namespace Go.Proofs.Ytgfdmjhdfddopaa
open Go.RowKit
set_option maxRecDepth 20000

def tm (z x y : Int) : Int := IntKind.i64.wrap (z + IntKind.i64.wrap (x * y))
def tmIn (x : Int) (a : Nat) (ys L : List Int) : Nat → List Int
  | 0 => L
  | b + 1 => (tmIn x a ys L b).set (a + b) (tm ((tmIn x a ys L b)[a + b]?.getD 0) x (ys[b]?.getD 0))
def tmTo (xs ys : List Int) : Nat → List Int
  | 0 => List.replicate (xs.length + ys.length) 0
  | a + 1 => tmIn (xs[a]?.getD 0) a ys (tmTo xs ys a) ys.length
theorem tmIn_len (x : Int) (a : Nat) (ys L : List Int) (b : Nat) : (tmIn x a ys L b).length = L.length := by
  induction b with
  | zero => rfl
  | succ b ih => simp [tmIn, ih]
theorem tmTo_len (xs ys : List Int) (a : Nat) : (tmTo xs ys a).length = xs.length + ys.length := by
  induction a with
  | zero => simp [tmTo]
  | succ a ih => simp only [tmTo, tmIn_len, ih]
def timesL (xs ys : List Int) : List Int := trim (tmTo xs ys xs.length)
theorem polyOk_len40 {xs : List Int} (h : polyOk xs = true) : xs.length ≤ 40 := (polyOk_iff.1 h).1
def timesOk (xs ys : List Int) : Bool := polyOk xs && polyOk ys
def timesI (xs ys : List Int) : List Int := if timesOk xs ys = true then timesL xs ys else []
/-- what a function that makes a list and says whether it is there hands back -/
def GivesIB (w : World) (xs : List Int) (ok : Bool) (e : Ending) (w' : World) : Prop := ∃ A c, e = .returned (.tuple #[.slice A xs.length c, .bool ok]) ∧ IO w' w.heap.size A c xs ∧ Below w.heap.size w w'
theorem holds_givesB {w wr : World} {n g c' : Nat} {L : List Int} (hg : w.heap.size ≤ g) (hL : L.length = n) (hn : n ≤ 1000000) (h : Holds wr g L) (hb : Below w.heap.size w wr) (h1 : (trim L).length ≤ c') (h2 : c' ≤ n) :
    GivesIB w (trim L) true (.returned (.tuple #[.slice (some ⟨g, 0, none⟩) (trim L).length c', .bool true])) wr := by
  have := (h.io (base := w.heap.size) hg (by omega))
  exact ⟨_, c', rfl, this.trim h1 (by omega), hb⟩
set_option maxHeartbeats 1000000 in
set_option maxRecDepth 20000 in
theorem timesPolynomials_any (A B : Option Addr) (c d : Nat) (xs ys : List Int) (W0 : World) (hx : xs.length ≤ 40) (hy : ys.length ≤ 40) (hA : IR W0 A xs) (hB : IR W0 B ys) :
    Calls Try.prog 53 #[.slice A xs.length c, .slice B ys.length d] W0 (GivesInts W0 (timesL xs ys)) := by
  have HA := Bx.mk hA
  have HB := Bx.mk hB
  clear hA hB
  obtain ⟨n, hn⟩ : ∃ n, n = xs.length + ys.length := ⟨_, rfl⟩
  have hni : (xs.length : Int) + (ys.length : Int) = (n : Int) := by omega
  have hn80 : n ≤ 80 := by omega
  have hmk := make_ints n (by omega)
  have HNN := Bx.mk hn
  clear hn
  go_enter Try.func53, Try.ntmps53
  go_wp2_with fail
  obtain ⟨g, hg⟩ : ∃ g, g = W0.heap.size := ⟨_, rfl⟩
  have hH0 : Holds (W0.alloc (.cells (madeCells #[.int .i64 0] n) 3)) g (tmTo xs ys 0) := by rw [hg, show tmTo xs ys 0 = List.replicate n 0 by rw [HNN.out]; rfl]; exact Holds.made W0 n
  have hb0 : Below W0.heap.size W0 (W0.alloc (.cells (madeCells #[.int .i64 0] n) 3)) := below_alloc _ _
  rw [← hg]
  have hgq : W0.heap.size ≤ g := by omega
  generalize hw1 : W0.alloc (.cells (madeCells #[.int .i64 0] n) 3) = w1 at *
  clear hw1 hmk hg
  go_loopw [18] (fun i wr => ∃ a : Nat, a ≤ xs.length ∧ i = .int .i64 a ∧ Holds wr g (tmTo xs ys a) ∧ Below W0.heap.size W0 wr) (fun i _ => xs.length - (intOf i).toNat)
  case atStart => exact ⟨0, by omega, rfl, hH0, hb0⟩
  case round =>
    obtain ⟨a, ha, rfl, hH, hb⟩ := hrel
    clear hH0 hb0
    by_cases hlt : a < xs.length
    · obtain ⟨b1, o1, x, rfl, hbx, c1, H1⟩ := HA.out.one hlt
      have H2 := Bx.mk H1.out
      clear H1
      have HC := Bx.mk (bcell hb).1
      have q3 := (HC.out _ _ hbx).trans c1
      clear c1
      have hkl : (a : Int) < xs.length := by omega
      obtain ⟨L, hL⟩ : ∃ L, L = tmTo xs ys a := ⟨_, rfl⟩
      rw [← hL] at hH
      have HL := Bx.mk hL
      have HLl : Bx (L.length = n) := ⟨by rw [hL, tmTo_len, HNN.out]⟩
      clear hL
      go_wp2_with fail
      go_loopw [25] (fun i wm => ∃ b : Nat, b ≤ ys.length ∧ i = .int .i64 b ∧ Holds wm g (tmIn x a ys L b) ∧ Below W0.heap.size W0 wm) (fun i _ => ys.length - (intOf i).toNat)
      case atStart => exact ⟨0, by omega, rfl, hH, hb⟩
      case round =>
        obtain ⟨b, hbl, rfl, hH, hb⟩ := hrel
        by_cases hlt2 : b < ys.length
        · obtain ⟨b2, o2, y, rfl, hby, c2, H3⟩ := HB.out.one hlt2
          have H4 := Bx.mk H3.out
          clear H3
          have r3 := ((bcell hb).1 _ _ hby).trans c2
          clear c2 q3
          have hkl2 : (b : Int) < ys.length := by omega
          obtain ⟨z, cz, Hz⟩ := hH.cell (k := a + b) (by rw [tmIn_len, HLl.out]; omega)
          have fz := hH.frozen (a + b)
          have eab : (a : Int) + (b : Int) = ((a + b : Nat) : Int) := by omega
          obtain ⟨p, hp⟩ : ∃ p, IntKind.i64.wrap (x * y) = p := ⟨_, rfl⟩
          obtain ⟨q, hq⟩ : ∃ q, IntKind.i64.wrap (z + p) = q := ⟨_, rfl⟩
          have HN : Bx (tmIn x a ys L (b + 1) = (tmIn x a ys L b).set (a + b) q) := ⟨by
            simp only [tmIn]
            rw [H4.out]
            simp only [Option.getD_some]
            rw [Hz.out]
            simp only [Option.getD_some]
            rw [← hq, ← hp]; rfl⟩
          have HS := Bx.mk (hH.set (a + b) q)
          have hb' : Below W0.heap.size W0 (wr.setCell ⟨g, a + b, none⟩ (.int .i64 q)) := hb.setCell (by simp; omega) _
          have HB' := Bx.mk hb'
          clear hb' hb hH
          have hsab : IntKind.i64.wrap ((a : Int) + (b : Int)) = ((a + b : Nat) : Int) := (IntWalk.i64_in _ (by omega)).trans eab
          have hlab : ((a + b : Nat) : Int) < (n : Int) := by omega
          obtain ⟨k, hk⟩ : ∃ k, k = a + b := ⟨_, rfl⟩
          rw [← hk] at cz fz hsab hlab HN HS HB'
          clear hk eab
          go_wp2_with fail
          go_roundw
          case rel => exact ⟨b + 1, by omega, by go_num, by rw [HN.out]; exact HS.out, HB'.out⟩
          case measure => simp [intOf]; omega
        · have hby : b = ys.length := by omega
          have HO : Bx (tmTo xs ys (a + 1) = tmIn x a ys L b) := ⟨by simp only [tmTo]; rw [H2.out, ← HL.out, hby]; rfl⟩
          clear hby
          go_wp2_with fail
          go_roundw
          case rel => exact ⟨a + 1, by omega, by go_num, by rw [HO.out]; exact hH, hb⟩
          case measure => simp [intOf]; omega
    · have hax : a = xs.length := by omega
      obtain ⟨L, hL⟩ : ∃ L, L = tmTo xs ys a := ⟨_, rfl⟩
      have hLl : L.length = n := by rw [hL, tmTo_len, HNN.out]
      have HP : Bx (timesL xs ys = trim L) := ⟨by rw [hL, hax]; rfl⟩
      rw [← hL] at hH
      clear hax hL
      have HIR : Bx (IR wr (some ⟨g, 0, none⟩) L) := ⟨(hH.io (base := 0) (by omega) (by omega)).reads⟩
      have hio : Bx (GivesInts W0 (timesL xs ys) (.returned (.slice (some ⟨g, 0, none⟩) (trim L).length (trim L).length)) wr) := ⟨by
        rw [HP.out]
        have := trim_le L
        exact holds_gives (n := n) (by omega) hLl (by omega) hH hb (Nat.le_refl _) (by omega)⟩
      have hcl := ended_any _ n L wr HIR.out (by omega) (by omega)
      rw [hLl] at hcl
      have HCL := Bx.mk hcl
      clear hH hb hcl
      go_wp2_with fail
      refine HCL.out.mono ?_
      rintro e w2 ⟨rfl, rfl⟩
      go_wp2_with fail
      go_ret
      exact hio.out

theorem pok_is' {f : FuncId} {args : Array Value} {w : World} {xs : List Int} {b : Bool} (hb : polyOk xs = b) (h : Calls Try.prog f args w fun e w' => e = .returned (.bool (polyOk xs)) ∧ Below w.heap.size w w') :
    Calls Try.prog f args w fun e w' => e = .returned (.bool b) ∧ Below w.heap.size w w' := by rw [← hb]; exact h
set_option maxHeartbeats 1000000 in
set_option maxRecDepth 20000 in
theorem implTimes_any (A B : Option Addr) (c d : Nat) (xs ys : List Int) (w : World) (hx : IR w A xs) (hy : IR w B ys) :
    Calls Try.prog 23 #[.slice A xs.length c, .slice B ys.length d] w (GivesIB w (timesI xs ys) (timesOk xs ys)) := by
  have HX := Bx.mk hx
  have HY := Bx.mk hy
  have bw := Below.refl w.heap.size w
  clear hx hy
  cases h1 : polyOk xs with
  | false =>
    have HR : Bx (timesI xs ys = [] ∧ timesOk xs ys = false) := ⟨by simp [timesI, timesOk, h1]⟩
    go_enter Try.func23, Try.ntmps23
    go_wp2_with fail
    refine (pok_is' h1 (isPolynomial_any _ _ _ _ (by exact HX.out))).mono ?_
    rintro e w1 ⟨rfl, b⟩
    replace HX := Bx.mk (HX.out.below b)
    replace HY := Bx.mk (HY.out.below b)
    replace bw := bw.trans (b.mono bw.size)
    clear b
    go_wp2_with fail
    go_ret2
    rw [HR.out.1, HR.out.2]
    exact ⟨none, 0, rfl, ⟨by simp, by simp, .inl ⟨rfl, rfl⟩⟩, bw⟩
  | true =>
  have hl1 := polyOk_len40 h1
  cases h2 : polyOk ys with
  | false =>
    have HR : Bx (timesI xs ys = [] ∧ timesOk xs ys = false) := ⟨by simp [timesI, timesOk, h1, h2]⟩
    go_enter Try.func23, Try.ntmps23
    go_wp2_with fail
    refine (pok_is' h1 (isPolynomial_any _ _ _ _ (by exact HX.out))).mono ?_
    rintro e w1 ⟨rfl, b⟩
    replace HX := Bx.mk (HX.out.below b)
    replace HY := Bx.mk (HY.out.below b)
    replace bw := bw.trans (b.mono bw.size)
    clear b
    go_wp2_with fail
    refine (pok_is' h2 (isPolynomial_any _ _ _ _ (by exact HY.out))).mono ?_
    rintro e w2 ⟨rfl, b⟩
    replace HX := Bx.mk (HX.out.below b)
    replace HY := Bx.mk (HY.out.below b)
    replace bw := bw.trans (b.mono bw.size)
    clear b
    go_wp2_with fail
    go_ret2
    rw [HR.out.1, HR.out.2]
    exact ⟨none, 0, rfl, ⟨by simp, by simp, .inl ⟨rfl, rfl⟩⟩, bw⟩
  | true =>
    have hl2 := polyOk_len40 h2
    have HR : Bx (timesI xs ys = timesL xs ys ∧ timesOk xs ys = true) := ⟨by simp [timesI, timesOk, h1, h2]⟩
    go_enter Try.func23, Try.ntmps23
    go_wp2_with fail
    refine (pok_is' h1 (isPolynomial_any _ _ _ _ (by exact HX.out))).mono ?_
    rintro e w1 ⟨rfl, b⟩
    replace HX := Bx.mk (HX.out.below b)
    replace HY := Bx.mk (HY.out.below b)
    replace bw := bw.trans (b.mono bw.size)
    clear b
    go_wp2_with fail
    refine (pok_is' h2 (isPolynomial_any _ _ _ _ (by exact HY.out))).mono ?_
    rintro e w2 ⟨rfl, b⟩
    replace HX := Bx.mk (HX.out.below b)
    replace HY := Bx.mk (HY.out.below b)
    replace bw := bw.trans (b.mono bw.size)
    clear b
    go_wp2_with fail
    refine (timesPolynomials_any _ _ _ _ _ _ _ hl1 hl2 (by exact HX.out) (by exact HY.out)).mono ?_
    rintro e w3 ⟨A', c', rfl, io, b⟩
    go_wp2_with fail
    go_ret2
    rw [HR.out.1, HR.out.2]
    exact ⟨A', c', rfl, io.mono bw.size, bw.trans (b.mono bw.size)⟩
end Go.Proofs.Ytgfdmjhdfddopaa
