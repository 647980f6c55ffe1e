/- The draws out of a code: some number. -/
import Derived.Test.YtlgiijibekobfaaTls
import Derived.Test.YtlgiijibekobfaaBas
import Derived.Test.YtlgiijibekobfaaLawRh
namespace Go.Proofs.Ytlgiijibekobfaa
open Go.RowKit

/-- the slice of bytes reads: each of its n cells holds a byte -/
def BR (w : World) (A : Option Addr) (n : Nat) : Prop := n ≤ 1048576 ∧ (0 < n → ∃ b o, A = some ⟨b, o, none⟩ ∧ b < w.heap.size ∧ ∀ k, k < n → ∃ x : Nat, x ≤ 255 ∧ w.cell? ⟨b, o + k, none⟩ = some (.int .u8 x))
theorem BR.below {w w' : World} {A : Option Addr} {n : Nat} (h : BR w A n) (hb : Below w.heap.size w w') : BR w' A n :=
  ⟨h.1, fun h0 => by
    obtain ⟨b, o, e, hlt, hc⟩ := h.2 h0
    refine ⟨b, o, e, Nat.lt_of_lt_of_le hlt hb.size, fun k hk => ?_⟩
    obtain ⟨x, hx, hc⟩ := hc k hk
    exact ⟨x, hx, ((bcell hb).1 b _ hlt).trans hc⟩⟩
theorem BR.only {w w' : World} {A : Option Addr} {n g : Nat} (h : BR w A n) (ho : Only w w' (some ⟨g, 0, none⟩)) (hne : ∀ x, A = some x → x.block ≠ g) : BR w' A n :=
  ⟨h.1, fun h0 => by
    obtain ⟨b, o, e, hlt, hc⟩ := h.2 h0
    refine ⟨b, o, e, Nat.lt_of_lt_of_le hlt ho.size, fun k hk => ?_⟩
    obtain ⟨x, hx, hc⟩ := hc k hk
    have := hne _ e
    refine ⟨x, hx, (World.cell?_of_block (w := w) (ho.block b hlt ?_)).trans hc⟩
    intro e'
    simp at e'
    exact this e'⟩
theorem BR.lt {w : World} {A : Option Addr} {n : Nat} (h : BR w A n) (h0 : 0 < n) : ∀ x, A = some x → x.block < w.heap.size := fun x hx => by
  obtain ⟨b, o, e, hlt, _⟩ := h.2 h0
  rw [e] at hx; injection hx with hx; subst hx; exact hlt
/-- the reader of a code: where it is and its state; the code lies elsewhere -/
structure Cur (w : World) (g : Nat) (A : Option Addr) (n c : Nat) : Prop where
  blk : ∃ (i : Nat) (h : Int), i ≤ n ∧ (-9223372036854775808 ≤ h ∧ h ≤ 9223372036854775807) ∧ Blk w g 72 #[.slice A n c, .int .i64 i, .int .i64 h]
  br : BR w A n
  ne : 0 < n → ∀ x, A = some x → x.block ≠ g
theorem Cur.below {w w' : World} {g n c : Nat} {A : Option Addr} (h : Cur w g A n c) (hb : Below w.heap.size w w') : Cur w' g A n c :=
  ⟨by obtain ⟨i, q, h1, h2, h3⟩ := h.blk; exact ⟨i, q, h1, h2, h3.below hb h3.lt⟩, h.br.below hb, h.ne⟩
theorem Cur.lt {w : World} {g n c : Nat} {A : Option Addr} (h : Cur w g A n c) : g < w.heap.size := by obtain ⟨i, q, _, _, h3⟩ := h.blk; exact h3.lt
theorem mask_any (a : Int) (m : Nat) (hm : m ≤ 4294967295) : ∃ q : Nat, q ≤ m ∧ bits .and .i64 a (m : Int) = (q : Int) := by
  have h2 : (BitVec.ofInt 64 (m : Int)).toNat = m := by rw [BitVec.ofInt_natCast, BitVec.toNat_ofNat]; exact Nat.mod_eq_of_lt (by omega)
  refine ⟨(BitVec.ofInt 64 a).toNat &&& m, Nat.and_le_right, ?_⟩
  have hx : (BitVec.ofInt 64 a).toNat &&& m ≤ m := Nat.and_le_right
  show IntKind.i64.wrap ((BitVec.ofInt 64 a &&& BitVec.ofInt 64 (m : Int)).toNat : Int) = _
  rw [BitVec.toNat_and, h2, IntWalk.i64_in _ (by omega)]
theorem wrap_bd (a : Int) : -9223372036854775808 ≤ wrap64 a ∧ wrap64 a ≤ 9223372036854775807 := by
  unfold wrap64
  omega
set_option maxHeartbeats 1000000 in
theorem l01New_any (A : Option Addr) (n c : Nat) (w : World) (hb : BR w A n) :
    Calls Try.prog 92 #[.slice A n c] w fun e w' => ∃ g, e = .returned (.pointer (some ⟨g, 0, none⟩)) ∧ w.heap.size ≤ g ∧ Cur w' g A n c ∧ Below w.heap.size w w' := by
  have hn := hb.1
  have HB := Bx.mk hb
  clear hb
  go_enter Try.func92, Try.ntmps92
  go_wp2_with fail
  go_loop [3, 4] (fun hv iv => ∃ (i h : Nat), i ≤ n ∧ i ≤ 4000 ∧ iv = .int .i64 i ∧ hv = .int .i64 h ∧ h ≤ 1073741823) (fun _ iv => n - (intOf iv).toNat)
  case atStart => exact ⟨0, 2141 + n, by omega, by omega, rfl, by go_num, by omega⟩
  case round =>
    obtain ⟨i, h, hi, hi4, rfl, rfl, hh⟩ := hrel
    by_cases hlt : i < n ∧ i < 4000
    · obtain ⟨hl1, hl2⟩ := hlt
      have hli : (i : Int) < n := by omega
      have h4i : (i : Int) < 4000 := by omega
      obtain ⟨b, o, rfl, hbl, hcc⟩ := HB.out.2 (by omega)
      obtain ⟨x, hx, hcx⟩ := hcc i hl1
      obtain ⟨q, hq, hbit⟩ := mask_any ((h : Int) * 157 + (x : Int) + 7) 1073741823 (by omega)
      clear hcc
      have hbit2 : bits .and .i64 ((h : Int) * 157 + (x : Int) + 7) 1073741823 = (q : Int) := hbit
      clear hbit
      go_wp2_with fail
      go_round
      case rel => exact ⟨i + 1, q, by omega, by omega, by go_num, rfl, by omega⟩
      case measure => simp [intOf]; omega
    · have HBW := Bx.mk (HB.out.below (below_alloc w (.cells #[.slice A n c, .int .i64 0, .int .i64 h] 72)))
      have HBK := Bx.mk (Blk.new w 72 #[.slice A n c, .int .i64 0, .int .i64 h])
      have HNE : Bx (0 < n → ∀ x, A = some x → x.block ≠ w.heap.size) := ⟨fun h0 x hx => by have := HB.out.lt h0 x hx; omega⟩
      by_cases hl1 : i < n
      · have hli : (i : Int) < n := by omega
        have h4i : ¬ (i : Int) < 4000 := by omega
        clear hlt
        go_wp2_with fail
        go_ret
        exact ⟨w.heap.size, rfl, Nat.le_refl _, ⟨⟨0, h, by omega, by omega, HBK.out⟩, HBW.out, HNE.out⟩, below_alloc _ _⟩
      · have hli : ¬ (i : Int) < n := by omega
        clear hlt
        go_wp2_with fail
        go_ret
        exact ⟨w.heap.size, rfl, Nat.le_refl _, ⟨⟨0, h, by omega, by omega, HBK.out⟩, HBW.out, HNE.out⟩, below_alloc _ _⟩
set_option maxHeartbeats 1000000 in
theorem l01Byte_any (g : Nat) (A : Option Addr) (n c : Nat) (w : World) (h : Cur w g A n c) :
    Calls Try.prog 54 #[.pointer (some ⟨g, 0, none⟩)] w fun e w' => ∃ x : Nat, x ≤ 255 ∧ e = .returned (.int .i64 x) ∧ Cur w' g A n c ∧ Only w w' (some ⟨g, 0, none⟩) := by
  obtain ⟨i, h0, hi, hb0, hk⟩ := h.blk
  have HC := Bx.mk h
  have hn := h.br.1
  have c0 := hk.at_ (i := 0) rfl
  have c1 := hk.at_ (i := 1) rfl
  have c2 := hk.at_ (i := 2) rfl
  have f1 := hk.frozen 1
  have f2 := hk.frozen 2
  go_enter Try.func54, Try.ntmps54
  go_upto_region 2 with (fail)
  obtain ⟨h1, hh1⟩ : ∃ h1, h1 = wrap64 (wrap64 (h0 * 6364136223846793005) + 1442695040888963407) := ⟨_, rfl⟩
  have hb1 : -9223372036854775808 ≤ h1 ∧ h1 ≤ 9223372036854775807 := by rw [hh1]; exact wrap_bd _
  rw [← hh1]
  obtain ⟨W1, hW1⟩ : ∃ W1, W1 = w.setCell ⟨g, 2, none⟩ (.int .i64 h1) := ⟨_, rfl⟩
  have hk1 : Blk W1 g 72 #[.slice A n c, .int .i64 i, .int .i64 h1] := by rw [hW1]; exact hk.set 2 (.int .i64 h1)
  have o1 : Only w W1 (some ⟨g, 0, none⟩) := by rw [hW1]; exact (Only.refl w _).set _
  rw [← hW1]
  clear hW1 hh1 c0 c1 c2 f1 f2 hk
  have c0 := hk1.at_ (i := 0) rfl
  have c1 := hk1.at_ (i := 1) rfl
  have c2 := hk1.at_ (i := 2) rfl
  have f1 := hk1.frozen 1
  go_quiet (fail)
  obtain ⟨q, hq, hbit⟩ := mask_any (bits .xor .i64 (h1 / 8589934592) (h1 / 35184372088832)) 255 (by omega)
  have hbit2 : bits .and .i64 (bits .xor .i64 (h1 / 8589934592) (h1 / 35184372088832)) 255 = (q : Int) := hbit
  simp only [hbit2]
  clear hbit hbit2
  obtain ⟨W2, hW2⟩ : ∃ W2, W2 = W1.drewN nq := ⟨_, rfl⟩
  have hk2 : Blk W2 g 72 #[.slice A n c, .int .i64 i, .int .i64 h1] := by rw [hW2]; exact hk1.drewN _
  have o2 : Only w W2 (some ⟨g, 0, none⟩) := by rw [hW2]; exact o1.drewN _
  rw [← hW2]
  clear hW2 c0 c1 c2 f1 hk1 o1 nq
  have c0 := hk2.at_ (i := 0) rfl
  have c1 := hk2.at_ (i := 1) rfl
  have f1 := hk2.frozen 1
  by_cases hin : i < n
  · have hini : (i : Int) < n := by omega
    obtain ⟨b, o, e, hbl, hcc⟩ := HC.out.br.2 (by omega)
    obtain ⟨x, hx, hcx⟩ := hcc i hin
    have hne : b ≠ g := HC.out.ne (by omega) _ e
    have cx : W2.cell? ⟨b, o + i, none⟩ = some (.int .u8 x) := (World.cell?_of_block (w := w) (o2.block b hbl (by simpa using hne))).trans hcx
    have HE := Bx.mk e
    subst e
    have HBR := Bx.mk (HC.out.br.only o2 fun x hx => by injection hx with hx; subst hx; exact hne)
    have HK2 := Bx.mk hk2
    have HO2 := Bx.mk o2
    obtain ⟨q2, hq2, hbit⟩ := mask_any ((q : Int) + (x : Int)) 255 (by omega)
    have hbit2 : bits .and .i64 ((q : Int) + (x : Int)) 255 = (q2 : Int) := hbit
    clear hbit hcc hcx HE hk2 o2 h
    go_wp2_with fail
    go_quiet (fail)
    go_upto_region 4 with (fail)
    go_quiet (fail)
    go_wp2_with fail
    go_ret
    refine ⟨q2, hq2, rfl, ⟨⟨i + 1, h1, by omega, hb1, ?_⟩, ?_, ?_⟩, ?_⟩
    · rw [show ((i + 1 : Nat) : Int) = (i : Int) + 1 by omega]
      exact Blk.set (cs := #[.slice (some ⟨b, o, none⟩) n c, .int .i64 i, .int .i64 h1]) (HK2.out.drewN _) 1 _
    · exact HBR.out.only (Only.set ((Only.refl W2 (some ⟨g, 0, none⟩)).drewN _) _) (fun x hx => by injection hx with hx; subst hx; exact hne)
    · exact fun _ x hx => by injection hx with hx; subst hx; exact hne
    · exact Only.set (HO2.out.drewN _) _
  · have hini : ¬ (i : Int) < n := by omega
    have HK2 := Bx.mk hk2
    have HO2 := Bx.mk o2
    have HNE := Bx.mk HC.out.ne
    have HBR : Bx (BR W2 A n) := ⟨by
      by_cases h0 : 0 < n
      · exact HC.out.br.only o2 (HC.out.ne h0)
      · exact ⟨HC.out.br.1, fun h => absurd h h0⟩⟩
    clear hk2 o2 h
    go_wp2_with fail
    go_quiet (fail)
    go_wp2_with fail
    go_ret
    exact ⟨q, hq, rfl, ⟨⟨i, h1, hi, hb1, HK2.out⟩, HBR.out, HNE.out⟩, HO2.out.drewN _⟩
set_option maxHeartbeats 1000000 in
theorem l31New_any (A : Option Addr) (n c k : Nat) (w : World) (hk : k ≤ 1000) (hb : BR w A n) :
    Calls Try.prog 53 #[.slice A n c, .int .i64 k] w fun e w' => ∃ g, e = .returned (.pointer (some ⟨g, 0, none⟩)) ∧ w.heap.size ≤ g ∧ Cur w' g A n c ∧ Below w.heap.size w w' := by
  have HB := Bx.mk hb
  clear hb
  go_enter Try.func53, Try.ntmps53
  go_wp2_with fail
  refine (l01New_any A n c _ (by exact HB.out)).mono ?_
  rintro e w1 ⟨g, rfl, hg, hc, b1⟩
  have HC1 := Bx.mk hc
  have HB1 := Bx.mk b1
  clear hc b1
  go_wp2_with fail
  go_loopw [6] (fun iv wr => ∃ (i : Nat), i ≤ k ∧ iv = .int .i64 i ∧ Bx (Cur wr g A n c ∧ Below w.heap.size w wr)) (fun iv _ => k - (intOf iv).toNat)
  case atStart => exact ⟨0, by omega, rfl, ⟨HC1.out, HB1.out⟩⟩
  case round =>
    obtain ⟨i, hi, rfl, HR⟩ := hrel
    by_cases hlt : i < k
    · have hli : (i : Int) < k := by omega
      go_wp2_with fail
      refine (l01Byte_any g A n c _ (by exact HR.out.1)).mono ?_
      rintro e w2 ⟨x, hx, rfl, hc2, o2⟩
      have HR2 := Bx.mk (And.intro hc2 (HR.out.2.trans (o2.below HR.out.2.size (fun x hx => by injection hx with hx; subst hx; exact hg))))
      clear hc2 o2
      go_wp2_with fail
      go_roundw
      case rel => exact ⟨i + 1, by omega, by go_num, HR2⟩
      case measure => simp [intOf]; omega
    · have hli : ¬ (i : Int) < k := by omega
      go_wp2_with fail
      go_ret
      exact ⟨g, rfl, hg, HR.out.1, HR.out.2⟩
set_option maxHeartbeats 1000000 in
theorem makeNum_any (A : Option Addr) (n c k : Nat) (w : World) (hk : k ≤ 1000) (hb : BR w A n) :
    Calls Try.prog 7 #[.slice A n c, .int .i64 k] w fun e w' => ∃ x : Nat, x ≤ 65535 ∧ e = .returned (.int .i64 x) ∧ Below w.heap.size w w' := by
  have HB := Bx.mk hb
  clear hb
  go_enter Try.func7, Try.ntmps7
  go_wp2_with fail
  refine (l31New_any A n c k _ hk (by exact HB.out)).mono ?_
  rintro e w1 ⟨g, rfl, hg, hc, b1⟩
  have HC1 := Bx.mk hc
  clear hc
  go_wp2_with fail
  refine (l01Byte_any g A n c _ (by exact HC1.out)).mono ?_
  rintro e w2 ⟨x, hx, rfl, hc2, o2⟩
  have HC2 := Bx.mk hc2
  have b2 := b1.trans (o2.below b1.size (fun x hx => by injection hx with hx; subst hx; exact hg))
  clear hc2 o2 b1
  go_wp2_with fail
  refine (l01Byte_any g A n c _ (by exact HC2.out)).mono ?_
  rintro e w3 ⟨y, hy, rfl, hc3, o3⟩
  have b3 := b2.trans (o3.below b2.size (fun x hx => by injection hx with hx; subst hx; exact hg))
  clear hc3 o3 b2
  go_wp2_with fail
  go_ret
  exact ⟨x * 256 + y, by omega, ret_int (by omega), b3⟩
end Go.Proofs.Ytlgiijibekobfaa
