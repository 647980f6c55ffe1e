/- Words that many parts of the proof share. -/
import Derived.Test.YtpejnhcmelkmeaaTls
import Derived.Test.YtpejnhcmelkmeaaBas
import Derived.Test.YtpejnhcmelkmeaaLws
import Derived.Test.YtpejnhcmelkmeaaCms
namespace Go.Proofs.Ytpejnhcmelkmeaa
open Go.RowKit

/- The draws out of a code: some number. -/
/-- the slice of bytes reads: each of its n cells holds a byte -/
def BR (w : World) (A : Option Addr) (n : Nat) : Prop := n ≤ 1048576 ∧ (0 < n → ∃ b o, A = some ⟨b, o, none⟩ ∧ b < w.heap.size ∧ ∀ k, k < n → ∃ x : Nat, x ≤ 255 ∧ w.cell? ⟨b, o + k, none⟩ = some (.int .u8 x))
theorem BR.below {w w' : World} {A : Option Addr} {n : Nat} (h : BR w A n) (hb : Below w.heap.size w w') : BR w' A n :=
  ⟨h.1, fun h0 => by
    obtain ⟨b, o, e, hlt, hc⟩ := h.2 h0
    refine ⟨b, o, e, Nat.lt_of_lt_of_le hlt hb.size, fun k hk => ?_⟩
    obtain ⟨x, hx, hc⟩ := hc k hk
    exact ⟨x, hx, ((bcell hb).1 b _ hlt).trans hc⟩⟩
theorem BR.only {w w' : World} {A : Option Addr} {n g : Nat} (h : BR w A n) (ho : Only w w' (some ⟨g, 0, none⟩)) (hne : ∀ x, A = some x → x.block ≠ g) : BR w' A n :=
  ⟨h.1, fun h0 => by
    obtain ⟨b, o, e, hlt, hc⟩ := h.2 h0
    refine ⟨b, o, e, Nat.lt_of_lt_of_le hlt ho.size, fun k hk => ?_⟩
    obtain ⟨x, hx, hc⟩ := hc k hk
    have := hne _ e
    refine ⟨x, hx, (World.cell?_of_block (w := w) (ho.block b hlt ?_)).trans hc⟩
    intro e'
    simp at e'
    exact this e'⟩
theorem BR.lt {w : World} {A : Option Addr} {n : Nat} (h : BR w A n) (h0 : 0 < n) : ∀ x, A = some x → x.block < w.heap.size := fun x hx => by
  obtain ⟨b, o, e, hlt, _⟩ := h.2 h0
  rw [e] at hx; injection hx with hx; subst hx; exact hlt
/-- the reader of a code: where it is and its state; the code lies elsewhere -/
structure Cur (w : World) (g : Nat) (A : Option Addr) (n c : Nat) : Prop where
  blk : ∃ (i : Nat) (h : Int), i ≤ n ∧ (-9223372036854775808 ≤ h ∧ h ≤ 9223372036854775807) ∧ Blk w g 54 #[.slice A n c, .int .i64 i, .int .i64 h]
  br : BR w A n
  ne : 0 < n → ∀ x, A = some x → x.block ≠ g
theorem Cur.below {w w' : World} {g n c : Nat} {A : Option Addr} (h : Cur w g A n c) (hb : Below w.heap.size w w') : Cur w' g A n c :=
  ⟨by obtain ⟨i, q, h1, h2, h3⟩ := h.blk; exact ⟨i, q, h1, h2, h3.below hb h3.lt⟩, h.br.below hb, h.ne⟩
theorem Cur.lt {w : World} {g n c : Nat} {A : Option Addr} (h : Cur w g A n c) : g < w.heap.size := by obtain ⟨i, q, _, _, h3⟩ := h.blk; exact h3.lt
theorem mask_any (a : Int) (m : Nat) (hm : m ≤ 4294967295) : ∃ q : Nat, q ≤ m ∧ bits .and .i64 a (m : Int) = (q : Int) := by
  have h2 : (BitVec.ofInt 64 (m : Int)).toNat = m := by rw [BitVec.ofInt_natCast, BitVec.toNat_ofNat]; exact Nat.mod_eq_of_lt (by omega)
  refine ⟨(BitVec.ofInt 64 a).toNat &&& m, Nat.and_le_right, ?_⟩
  have hx : (BitVec.ofInt 64 a).toNat &&& m ≤ m := Nat.and_le_right
  show IntKind.i64.wrap ((BitVec.ofInt 64 a &&& BitVec.ofInt 64 (m : Int)).toNat : Int) = _
  rw [BitVec.toNat_and, h2, IntWalk.i64_in _ (by omega)]
theorem wrap_bd (a : Int) : -9223372036854775808 ≤ wrap64 a ∧ wrap64 a ≤ 9223372036854775807 := by
  unfold wrap64
  omega
set_option maxHeartbeats 1000000 in
theorem l01New_any (A : Option Addr) (n c : Nat) (w : World) (hb : BR w A n) :
    Calls Try.prog 40 #[.slice A n c] w fun e w' => ∃ g, e = .returned (.pointer (some ⟨g, 0, none⟩)) ∧ w.heap.size ≤ g ∧ Cur w' g A n c ∧ Below w.heap.size w w' := by
  have hn := hb.1
  have HB := Bx.mk hb
  clear hb
  go_enter Try.func40, Try.ntmps40
  go_wp2_with fail
  go_loop [3, 4] (fun hv iv => ∃ (i h : Nat), i ≤ n ∧ i ≤ 4000 ∧ iv = .int .i64 i ∧ hv = .int .i64 h ∧ h ≤ 1073741823) (fun _ iv => n - (intOf iv).toNat)
  case atStart => exact ⟨0, 2141 + n, by omega, by omega, rfl, by go_num, by omega⟩
  case round =>
    obtain ⟨i, h, hi, hi4, rfl, rfl, hh⟩ := hrel
    by_cases hlt : i < n ∧ i < 4000
    · obtain ⟨hl1, hl2⟩ := hlt
      have hli : (i : Int) < n := by omega
      have h4i : (i : Int) < 4000 := by omega
      obtain ⟨b, o, rfl, hbl, hcc⟩ := HB.out.2 (by omega)
      obtain ⟨x, hx, hcx⟩ := hcc i hl1
      obtain ⟨q, hq, hbit⟩ := mask_any ((h : Int) * 157 + (x : Int) + 7) 1073741823 (by omega)
      clear hcc
      have hbit2 : bits .and .i64 ((h : Int) * 157 + (x : Int) + 7) 1073741823 = (q : Int) := hbit
      clear hbit
      go_wp2_with fail
      go_round
      case rel => exact ⟨i + 1, q, by omega, by omega, by go_num, rfl, by omega⟩
      case measure => simp [intOf]; omega
    · have HBW := Bx.mk (HB.out.below (below_alloc w (.cells #[.slice A n c, .int .i64 0, .int .i64 h] 54)))
      have HBK := Bx.mk (Blk.new w 54 #[.slice A n c, .int .i64 0, .int .i64 h])
      have HNE : Bx (0 < n → ∀ x, A = some x → x.block ≠ w.heap.size) := ⟨fun h0 x hx => by have := HB.out.lt h0 x hx; omega⟩
      by_cases hl1 : i < n
      · have hli : (i : Int) < n := by omega
        have h4i : ¬ (i : Int) < 4000 := by omega
        clear hlt
        go_wp2_with fail
        go_ret
        exact ⟨w.heap.size, rfl, Nat.le_refl _, ⟨⟨0, h, by omega, by omega, HBK.out⟩, HBW.out, HNE.out⟩, below_alloc _ _⟩
      · have hli : ¬ (i : Int) < n := by omega
        clear hlt
        go_wp2_with fail
        go_ret
        exact ⟨w.heap.size, rfl, Nat.le_refl _, ⟨⟨0, h, by omega, by omega, HBK.out⟩, HBW.out, HNE.out⟩, below_alloc _ _⟩
set_option maxHeartbeats 1000000 in
theorem l01Byte_any (g : Nat) (A : Option Addr) (n c : Nat) (w : World) (h : Cur w g A n c) :
    Calls Try.prog 24 #[.pointer (some ⟨g, 0, none⟩)] w fun e w' => ∃ x : Nat, x ≤ 255 ∧ e = .returned (.int .i64 x) ∧ Cur w' g A n c ∧ Only w w' (some ⟨g, 0, none⟩) := by
  obtain ⟨i, h0, hi, hb0, hk⟩ := h.blk
  have HC := Bx.mk h
  have hn := h.br.1
  have c0 := hk.at_ (i := 0) rfl
  have c1 := hk.at_ (i := 1) rfl
  have c2 := hk.at_ (i := 2) rfl
  have f1 := hk.frozen 1
  have f2 := hk.frozen 2
  go_enter Try.func24, Try.ntmps24
  go_upto_region 2 with (fail)
  obtain ⟨h1, hh1⟩ : ∃ h1, h1 = wrap64 (wrap64 (h0 * 6364136223846793005) + 1442695040888963407) := ⟨_, rfl⟩
  have hb1 : -9223372036854775808 ≤ h1 ∧ h1 ≤ 9223372036854775807 := by rw [hh1]; exact wrap_bd _
  rw [← hh1]
  obtain ⟨W1, hW1⟩ : ∃ W1, W1 = w.setCell ⟨g, 2, none⟩ (.int .i64 h1) := ⟨_, rfl⟩
  have hk1 : Blk W1 g 54 #[.slice A n c, .int .i64 i, .int .i64 h1] := by rw [hW1]; exact hk.set 2 (.int .i64 h1)
  have o1 : Only w W1 (some ⟨g, 0, none⟩) := by rw [hW1]; exact (Only.refl w _).set _
  rw [← hW1]
  clear hW1 hh1 c0 c1 c2 f1 f2 hk
  have c0 := hk1.at_ (i := 0) rfl
  have c1 := hk1.at_ (i := 1) rfl
  have c2 := hk1.at_ (i := 2) rfl
  have f1 := hk1.frozen 1
  go_quiet (fail)
  obtain ⟨q, hq, hbit⟩ := mask_any (bits .xor .i64 (h1 / 8589934592) (h1 / 35184372088832)) 255 (by omega)
  have hbit2 : bits .and .i64 (bits .xor .i64 (h1 / 8589934592) (h1 / 35184372088832)) 255 = (q : Int) := hbit
  simp only [hbit2]
  clear hbit hbit2
  obtain ⟨W2, hW2⟩ : ∃ W2, W2 = W1.drewN nq := ⟨_, rfl⟩
  have hk2 : Blk W2 g 54 #[.slice A n c, .int .i64 i, .int .i64 h1] := by rw [hW2]; exact hk1.drewN _
  have o2 : Only w W2 (some ⟨g, 0, none⟩) := by rw [hW2]; exact o1.drewN _
  rw [← hW2]
  clear hW2 c0 c1 c2 f1 hk1 o1 nq
  have c0 := hk2.at_ (i := 0) rfl
  have c1 := hk2.at_ (i := 1) rfl
  have f1 := hk2.frozen 1
  by_cases hin : i < n
  · have hini : (i : Int) < n := by omega
    obtain ⟨b, o, e, hbl, hcc⟩ := HC.out.br.2 (by omega)
    obtain ⟨x, hx, hcx⟩ := hcc i hin
    have hne : b ≠ g := HC.out.ne (by omega) _ e
    have cx : W2.cell? ⟨b, o + i, none⟩ = some (.int .u8 x) := (World.cell?_of_block (w := w) (o2.block b hbl (by simpa using hne))).trans hcx
    have HE := Bx.mk e
    subst e
    have HBR := Bx.mk (HC.out.br.only o2 fun x hx => by injection hx with hx; subst hx; exact hne)
    have HK2 := Bx.mk hk2
    have HO2 := Bx.mk o2
    obtain ⟨q2, hq2, hbit⟩ := mask_any ((q : Int) + (x : Int)) 255 (by omega)
    have hbit2 : bits .and .i64 ((q : Int) + (x : Int)) 255 = (q2 : Int) := hbit
    clear hbit hcc hcx HE hk2 o2 h
    go_wp2_with fail
    go_quiet (fail)
    go_upto_region 4 with (fail)
    go_quiet (fail)
    go_wp2_with fail
    go_ret
    refine ⟨q2, hq2, rfl, ⟨⟨i + 1, h1, by omega, hb1, ?_⟩, ?_, ?_⟩, ?_⟩
    · rw [show ((i + 1 : Nat) : Int) = (i : Int) + 1 by omega]
      exact Blk.set (cs := #[.slice (some ⟨b, o, none⟩) n c, .int .i64 i, .int .i64 h1]) (HK2.out.drewN _) 1 _
    · exact HBR.out.only (Only.set ((Only.refl W2 (some ⟨g, 0, none⟩)).drewN _) _) (fun x hx => by injection hx with hx; subst hx; exact hne)
    · exact fun _ x hx => by injection hx with hx; subst hx; exact hne
    · exact Only.set (HO2.out.drewN _) _
  · have hini : ¬ (i : Int) < n := by omega
    have HK2 := Bx.mk hk2
    have HO2 := Bx.mk o2
    have HNE := Bx.mk HC.out.ne
    have HBR : Bx (BR W2 A n) := ⟨by
      by_cases h0 : 0 < n
      · exact HC.out.br.only o2 (HC.out.ne h0)
      · exact ⟨HC.out.br.1, fun h => absurd h h0⟩⟩
    clear hk2 o2 h
    go_wp2_with fail
    go_quiet (fail)
    go_wp2_with fail
    go_ret
    exact ⟨q, hq, rfl, ⟨⟨i, h1, hi, hb1, HK2.out⟩, HBR.out, HNE.out⟩, HO2.out.drewN _⟩
set_option maxHeartbeats 1000000 in
theorem l31New_any (A : Option Addr) (n c k : Nat) (w : World) (hk : k ≤ 1000) (hb : BR w A n) :
    Calls Try.prog 23 #[.slice A n c, .int .i64 k] w fun e w' => ∃ g, e = .returned (.pointer (some ⟨g, 0, none⟩)) ∧ w.heap.size ≤ g ∧ Cur w' g A n c ∧ Below w.heap.size w w' := by
  have HB := Bx.mk hb
  clear hb
  go_enter Try.func23, Try.ntmps23
  go_wp2_with fail
  refine (l01New_any A n c _ (by exact HB.out)).mono ?_
  rintro e w1 ⟨g, rfl, hg, hc, b1⟩
  have HC1 := Bx.mk hc
  have HB1 := Bx.mk b1
  clear hc b1
  go_wp2_with fail
  go_loopw [6] (fun iv wr => ∃ (i : Nat), i ≤ k ∧ iv = .int .i64 i ∧ Bx (Cur wr g A n c ∧ Below w.heap.size w wr)) (fun iv _ => k - (intOf iv).toNat)
  case atStart => exact ⟨0, by omega, rfl, ⟨HC1.out, HB1.out⟩⟩
  case round =>
    obtain ⟨i, hi, rfl, HR⟩ := hrel
    by_cases hlt : i < k
    · have hli : (i : Int) < k := by omega
      go_wp2_with fail
      refine (l01Byte_any g A n c _ (by exact HR.out.1)).mono ?_
      rintro e w2 ⟨x, hx, rfl, hc2, o2⟩
      have HR2 := Bx.mk (And.intro hc2 (HR.out.2.trans (o2.below HR.out.2.size (fun x hx => by injection hx with hx; subst hx; exact hg))))
      clear hc2 o2
      go_wp2_with fail
      go_roundw
      case rel => exact ⟨i + 1, by omega, by go_num, HR2⟩
      case measure => simp [intOf]; omega
    · have hli : ¬ (i : Int) < k := by omega
      go_wp2_with fail
      go_ret
      exact ⟨g, rfl, hg, HR.out.1, HR.out.2⟩
set_option maxHeartbeats 1000000 in
theorem makeNum_any (A : Option Addr) (n c k : Nat) (w : World) (hk : k ≤ 1000) (hb : BR w A n) :
    Calls Try.prog 4 #[.slice A n c, .int .i64 k] w fun e w' => ∃ x : Nat, x ≤ 65535 ∧ e = .returned (.int .i64 x) ∧ Below w.heap.size w w' := by
  have HB := Bx.mk hb
  clear hb
  go_enter Try.func4, Try.ntmps4
  go_wp2_with fail
  refine (l31New_any A n c k _ hk (by exact HB.out)).mono ?_
  rintro e w1 ⟨g, rfl, hg, hc, b1⟩
  have HC1 := Bx.mk hc
  clear hc
  go_wp2_with fail
  refine (l01Byte_any g A n c _ (by exact HC1.out)).mono ?_
  rintro e w2 ⟨x, hx, rfl, hc2, o2⟩
  have HC2 := Bx.mk hc2
  have b2 := b1.trans (o2.below b1.size (fun x hx => by injection hx with hx; subst hx; exact hg))
  clear hc2 o2 b1
  go_wp2_with fail
  refine (l01Byte_any g A n c _ (by exact HC2.out)).mono ?_
  rintro e w3 ⟨y, hy, rfl, hc3, o3⟩
  have b3 := b2.trans (o3.below b2.size (fun x hx => by injection hx with hx; subst hx; exact hg))
  clear hc3 o3 b2
  go_wp2_with fail
  go_ret
  exact ⟨x * 256 + y, by omega, ret_int (by omega), b3⟩

/- The draws out of a code: some rhythm. -/
theorem Cur.below' {w w' : World} {g n c B : Nat} {A : Option Addr} (h : Cur w g A n c) (hb : Below B w w') (hB : g < B) (hA : 0 < n → ∀ x, A = some x → x.block < B) : Cur w' g A n c :=
  ⟨by obtain ⟨i, q, h1, h2, h3⟩ := h.blk; exact ⟨i, q, h1, h2, h3.below hb hB⟩, ⟨h.br.1, fun h0 => by
    obtain ⟨b, o, e, hlt, hc⟩ := h.br.2 h0
    refine ⟨b, o, e, Nat.lt_of_lt_of_le hlt hb.size, fun k hk => ?_⟩
    obtain ⟨x, hx, hc⟩ := hc k hk
    exact ⟨x, hx, (hb.cell (p := ⟨b, o + k, none⟩) (show b < B from hA h0 ⟨b, o, none⟩ e)).trans hc⟩⟩, h.ne⟩
theorem cur_only {w w' : World} {g n c g' : Nat} {A : Option Addr} (h : Cur w g A n c) (o : Only w w' (some ⟨g', 0, none⟩)) (hne : g ≠ g') (hA : 0 < n → ∀ x, A = some x → x.block ≠ g') : Cur w' g A n c :=
  ⟨by obtain ⟨i, q, h1, h2, h3⟩ := h.blk; exact ⟨i, q, h1, h2, h3.onlyAt o hne⟩, by
    by_cases h0 : 0 < n
    · exact h.br.only o (hA h0)
    · exact ⟨h.br.1, fun h => absurd h h0⟩, h.ne⟩
set_option maxHeartbeats 1000000 in
theorem l01Below_any (g : Nat) (A : Option Addr) (n c m : Nat) (w : World) (h1 : 1 ≤ m) (hm : m ≤ 256) (h : Cur w g A n c) :
    Calls Try.prog 42 #[.pointer (some ⟨g, 0, none⟩), .int .i64 m] w fun e w' => ∃ x : Nat, x < m ∧ e = .returned (.int .i64 x) ∧ Cur w' g A n c ∧ Only w w' (some ⟨g, 0, none⟩) := by
  have HC := Bx.mk h
  clear h
  have hm0 : ¬ (m : Int) ≤ 0 := by omega
  have hm1 : (m : Int) ≤ 256 := by omega
  have hmn : ¬ (m : Int) = 0 := by omega
  go_enter Try.func42, Try.ntmps42
  go_wp2_with fail
  refine (l01Byte_any g A n c _ (by exact HC.out)).mono ?_
  rintro e w1 ⟨x, hx, rfl, hc, o⟩
  have HC1 := Bx.mk hc
  have HO1 := Bx.mk o
  have hlt : x % m < m := Nat.mod_lt _ (by omega)
  obtain ⟨y, hy⟩ : ∃ y, y = x % m := ⟨_, rfl⟩
  have hmod : (x : Int).tmod (m : Int) = (y : Int) := by rw [hy]; exact (Int.ofNat_tmod x m).symm
  have hmod2 : (x : Int) % (m : Int) = (y : Int) := by rw [hy]; exact (Int.natCast_emod x m).symm
  rw [← hy] at hlt
  clear hc o hy
  go_wp2_with fail
  go_ret
  exact ⟨y, hlt, ret_int (by first | exact hmod2 | exact hmod | rfl), HC1.out, HO1.out⟩
set_option maxHeartbeats 1000000 in
theorem l01Once_any (g : Nat) (A : Option Addr) (n c : Nat) (w : World) (h : Cur w g A n c) :
    Calls Try.prog 27 #[.pointer (some ⟨g, 0, none⟩), .int .i64 2] w fun e w' => ∃ b : Bool, e = .returned (.bool b) ∧ Cur w' g A n c ∧ Only w w' (some ⟨g, 0, none⟩) := by
  have HC := Bx.mk h
  clear h
  go_enter Try.func27, Try.ntmps27
  go_wp2_with fail
  refine (l01Below_any g A n c 2 _ (by omega) (by omega) (by exact HC.out)).mono ?_
  rintro e w1 ⟨x, hx, rfl, hc, o⟩
  have HR := Bx.mk (And.intro hc o)
  clear hc o
  go_wp2_with fail
  go_ret
  exact ⟨_, rfl, HR.out.1, HR.out.2⟩
def GivesSome (w : World) (s : Int) (e : Ending) (w' : World) : Prop := ∃ xs, rhOk s xs = true ∧ GivesRh w s xs e w'
set_option maxHeartbeats 2000000 in
theorem makeOf_any (A : Option Addr) (n c k s : Nat) (w : World) (hk : k ≤ 1000) (h1 : 1 ≤ s) (h24 : s ≤ 24) (hb : BR w A n) :
    Calls Try.prog 7 #[.slice A n c, .int .i64 k, .int .i64 s] w (GivesSome w s) := by
  obtain ⟨W0, hW0⟩ : ∃ W0, W0 = w.alloc (.cells #[.int .i64 0, .slice none 0 0] 26) := ⟨_, rfl⟩
  have bw : Below w.heap.size w W0 := by rw [hW0]; exact below_alloc _ _
  have hz : w.heap.size < W0.heap.size := by rw [hW0]; simp
  have R0 : Blk W0 w.heap.size 26 #[.int .i64 0, .slice none 0 0] := by rw [hW0]; exact Blk.new w _ _
  have HA : Bx (0 < n → ∀ x, A = some x → x.block < w.heap.size) := ⟨fun h0 => hb.lt h0⟩
  have HB := Bx.mk (hb.below bw)
  clear hb
  go_enter Try.func7, Try.ntmps7
  go_wp2_with fail
  rw [← hW0]
  clear hW0
  refine (l31New_any A n c k _ hk (by exact HB.out)).mono ?_
  rintro e w1 ⟨g, rfl, hg, hc, b1⟩
  have HC1 := Bx.mk hc
  have R1 := R0.below b1 hz
  have bw1 := bw.trans (b1.mono bw.size)
  have hz1 : w.heap.size < w1.heap.size := Nat.lt_of_lt_of_le hz b1.size
  have hgl := hc.lt
  clear hc b1 R0
  obtain ⟨W2, hW2⟩ : ∃ W2, W2 = w1.alloc (.cells #[.int .i64 (s : Int), .slice none 0 0] 26) := ⟨_, rfl⟩
  obtain ⟨g8, hg8⟩ : ∃ g8, g8 = w1.heap.size := ⟨_, rfl⟩
  have b2 : Below w1.heap.size w1 W2 := by rw [hW2]; exact below_alloc _ _
  have G0 : Blk W2 g8 26 #[.int .i64 (s : Int), .slice none 0 0] := by rw [hW2, hg8]; exact Blk.new w1 _ _
  have HC2 := Bx.mk (HC1.out.below b2)
  have R2 := R1.below b2 hz1
  have bw2 := bw1.trans (b2.mono bw1.size)
  have hg8l : g8 < W2.heap.size := by rw [hW2, hg8]; simp
  have hgg : g < g8 := by omega
  have hwg : w.heap.size < g := by omega
  have t1 : ¬ (24 : Int) < (s : Int) := by omega
  have t2 : (s : Int) ≤ 24 := by omega
  have t3 : (1 : Int) ≤ (s : Int) := by omega
  have t4 : ¬ (s : Int) < 1 := by omega
  by_cases hs1 : s = 1
  · subst hs1
    have hW2' : W2 = w1.alloc (.cells #[.int .i64 1, .slice none 0 0] 26) := hW2
    have G0' : Blk W2 g8 26 #[.int .i64 1, .slice none 0 0] := G0
    go_wp2_with fail
    rw [← hW2', ← hg8]
    have HR2 := Bx.mk R2
    have HBW := Bx.mk bw2
    clear hW2 hW2' hg8 b2 G0 R1 bw1 hgl R2 bw2 bw hz
    go_loopw [9] (fun iv wr => ∃ (p : Nat) (v : Value) (xs : List Int), p ≤ 1 ∧ iv = .int .i64 p ∧ Bx (Cur wr g A n c) ∧ Blk wr g8 26 #[.int .i64 1, v] ∧ Row wr W2.heap.size v xs ∧ Bx (xs.Pairwise (· < ·) ∧ ∀ x ∈ xs, 0 ≤ x ∧ x < p) ∧ Bx (Blk wr w.heap.size 26 #[.int .i64 0, .slice none 0 0]) ∧ Bx (Below w.heap.size w wr) ∧ W2.heap.size ≤ wr.heap.size) (fun iv _ => 1 - (intOf iv).toNat)
    case atStart => exact ⟨0, _, [], by omega, rfl, HC2, G0', Row.nil _ _, ⟨List.Pairwise.nil, fun x hx => by cases hx⟩, HR2, HBW, Nat.le_refl _⟩
    case round =>
      clear G0' HR2 HBW HC2
      obtain ⟨p, v, xs, hp, rfl, HC, hG, hrow, HX, HR, HW, hzr⟩ := hrel
      have hlen : xs.length ≤ 24 := (rhOk_len (s := 24) (rhOk_iff.2 ⟨by omega, fun x hx => by have := HX.out.2 x hx; omega, HX.out.1⟩)).1
      have cg0 := hG.at_ (i := 0) rfl
      by_cases hlt : p < 1
      · have hli : (p : Int) < 1 := by omega
        have HG := Bx.mk hG
        have HO := Bx.mk hrow
        clear hG hrow
        go_wp2_with fail
        refine (l01Once_any g A n c _ (by exact HC.out)).mono ?_
        rintro e w2 ⟨b, rfl, hc, o⟩
        have hG2 := HG.out.onlyAt o (show g8 ≠ g by omega)
        have hrow2 := HO.out.onlyAt o (by omega)
        have HR2 := Bx.mk (HR.out.onlyAt o (by omega))
        have HW2 := Bx.mk (HW.out.trans (o.below HW.out.size (fun x hx => by injection hx with hx; subst hx; simp; omega)))
        have HC2 := Bx.mk hc
        have hz2 : W2.heap.size ≤ w2.heap.size := Nat.le_trans hzr o.size
        clear hc o HG HO HC cg0
        cases b with
        | false =>
          have HG2 := Bx.mk hG2
          have HO2 := Bx.mk hrow2
          clear hG2 hrow2
          go_wp2_with fail
          go_roundw
          case rel => exact ⟨p + 1, v, xs, by omega, by go_num, HC2, HG2.out, HO2.out, ⟨HX.out.1, fun x hx => by have := HX.out.2 x hx; omega⟩, HR2, HW2, hz2⟩
          case measure => simp [intOf]; omega
        | true =>
          obtain ⟨A', c', rfl⟩ := hrow2.slice
          have cg1 := hG2.at_ (i := 1) rfl
          have fg1 := hG2.frozen 1
          have HG2 := Bx.mk hG2
          have HO2 := Bx.mk hrow2
          clear hG2 hrow2
          go_wp2_with (at_builtin; go_must (refine wpList_app1 rfl _ _ rfl W2.heap.size _ xs (p : Int) rfl rfl (by exact HO2.out) (by omega) (by exact hz2) ?_); intro v1 w4 hown1 hb1; have hG4 := HG2.out.below hb1 (by omega); have cq1 := hG4.at_ (i := 1) rfl; have fq1 := hG4.frozen 1; obtain ⟨A5, c5, rfl⟩ := hown1.slice; obtain ⟨n5, hn5⟩ : ∃ n5, n5 = (xs ++ [(p : Int)]).length := ⟨_, rfl⟩; rw [← hn5] at hown1; rw [← hn5]; clear hn5)
          have HG5 := Bx.mk (hG4.set 1 (.slice A5 n5 c5))
          have hoo : Only w4 (w4.setCell ⟨g8, 1, none⟩ (.slice A5 n5 c5)) (some ⟨g8, 0, none⟩) := (Only.refl w4 _).set _
          have HO5 := Bx.mk (hown1.onlyAt hoo (by omega))
          have HC5 := Bx.mk (cur_only (HC2.out.below' hb1 (by omega) (fun h0 x hx => by have := HA.out h0 x hx; omega)) hoo (by omega) (fun h0 x hx => by have := HA.out h0 x hx; omega))
          have HR5 := Bx.mk ((HR2.out.below hb1 (by omega)).onlyAt hoo (by omega))
          have HW5 := Bx.mk ((HW2.out.trans (hb1.mono (by omega))).setCell (p := ⟨g8, 1, none⟩) (show w.heap.size ≤ g8 by omega) (.slice A5 n5 c5))
          have hz5 : W2.heap.size ≤ (w4.setCell ⟨g8, 1, none⟩ (.slice A5 n5 c5)).heap.size := Nat.le_trans hz2 (Nat.le_trans hb1.size hoo.size)
          have HX5 : Bx ((xs ++ [(p : Int)]).Pairwise (· < ·) ∧ ∀ x ∈ xs ++ [(p : Int)], 0 ≤ x ∧ x < ((p + 1 : Nat) : Int)) := ⟨List.pairwise_append.2 ⟨HX.out.1, by simp, fun x hx y hy => by rw [List.mem_singleton] at hy; have := HX.out.2 x hx; omega⟩, fun x hx => by
            rcases List.mem_append.1 hx with h | h
            · have := HX.out.2 x h; omega
            · rw [List.mem_singleton] at h; omega⟩
          clear hoo hown1 hb1 hG4
          go_wp2_with fail
          go_roundw
          case rel => exact ⟨p + 1, _, xs ++ [(p : Int)], by omega, by go_num, HC5, HG5.out, HO5.out, HX5, HR5, HW5, hz5⟩
          case measure => simp [intOf]; omega
      · have hpe : p = 1 := by omega
        have hli : ¬ (p : Int) < 1 := by omega
        obtain ⟨A', c', rfl⟩ := hrow.slice
        have cg1 := hG.at_ (i := 1) rfl
        have cr0 := HR.out.at_ (i := 0) rfl
        have cr1 := HR.out.at_ (i := 1) rfl
        have fr0 := HR.out.frozen 0
        have fr1 := HR.out.frozen 1
        have HF := Bx.mk ((HR.out.set 0 (.int .i64 1)).set 1 (.slice A' xs.length c'))
        have hwl : w.heap.size < W2.heap.size := by omega
        have HIO := Bx.mk (((hrow.io' rfl (by omega)).setLow (p := ⟨w.heap.size, 0, none⟩) hwl (.int .i64 1)).setLow (p := ⟨w.heap.size, 1, none⟩) hwl (.slice A' xs.length c'))
        have HBL := Bx.mk ((HW.out.setCell (p := ⟨w.heap.size, 0, none⟩) (Nat.le_refl _) (.int .i64 1)).setCell (p := ⟨w.heap.size, 1, none⟩) (Nat.le_refl _) (.slice A' xs.length c'))
        have HOK : Bx (rhOk 1 xs = true) := ⟨rhOk_iff.2 ⟨by omega, fun x hx => by have := HX.out.2 x hx; omega, HX.out.1⟩⟩
        clear hG hrow
        go_wp2_with fail
        exact bodyPost_ret (v := .agg #[.int .i64 1, .slice A' xs.length c']) (by simp [results, Try.results7, go_sem, HF.out.at_ (i := 0) rfl, HF.out.at_ (i := 1) rfl]) rfl ⟨xs, HOK.out, A', c', rfl, HIO.out.mono (by omega), HBL.out⟩
  · have t5 : (1 : Int) < (s : Int) := by omega
    have t6 : ¬ (s : Int) ≤ 1 := by omega
    have hW2' : W2 = w1.alloc (.cells #[.int .i64 (s : Int), .slice none 0 0] 26) := hW2
    have G0' : Blk W2 g8 26 #[.int .i64 (s : Int), .slice none 0 0] := G0
    go_wp2_with fail
    rw [← hW2', ← hg8]
    have HR2 := Bx.mk R2
    have HBW := Bx.mk bw2
    clear hW2 hW2' hg8 b2 G0 R1 bw1 hgl R2 bw2 bw hz
    go_loopw [9] (fun iv wr => ∃ (p : Nat) (v : Value) (xs : List Int), p ≤ s ∧ iv = .int .i64 p ∧ Bx (Cur wr g A n c) ∧ Blk wr g8 26 #[.int .i64 (s : Int), v] ∧ Row wr W2.heap.size v xs ∧ Bx (xs.Pairwise (· < ·) ∧ ∀ x ∈ xs, 0 ≤ x ∧ x < p) ∧ Bx (Blk wr w.heap.size 26 #[.int .i64 0, .slice none 0 0]) ∧ Bx (Below w.heap.size w wr) ∧ W2.heap.size ≤ wr.heap.size) (fun iv _ => s - (intOf iv).toNat)
    case atStart => exact ⟨0, _, [], by omega, rfl, HC2, G0', Row.nil _ _, ⟨List.Pairwise.nil, fun x hx => by cases hx⟩, HR2, HBW, Nat.le_refl _⟩
    case round =>
      clear G0' HR2 HBW HC2
      obtain ⟨p, v, xs, hp, rfl, HC, hG, hrow, HX, HR, HW, hzr⟩ := hrel
      have hlen : xs.length ≤ 24 := (rhOk_len (s := 24) (rhOk_iff.2 ⟨by omega, fun x hx => by have := HX.out.2 x hx; omega, HX.out.1⟩)).1
      have cg0 := hG.at_ (i := 0) rfl
      by_cases hlt : p < s
      · have hli : (p : Int) < (s : Int) := by omega
        have HG := Bx.mk hG
        have HO := Bx.mk hrow
        clear hG hrow
        go_wp2_with fail
        refine (l01Once_any g A n c _ (by exact HC.out)).mono ?_
        rintro e w2 ⟨b, rfl, hc, o⟩
        have hG2 := HG.out.onlyAt o (show g8 ≠ g by omega)
        have hrow2 := HO.out.onlyAt o (by omega)
        have HR2 := Bx.mk (HR.out.onlyAt o (by omega))
        have HW2 := Bx.mk (HW.out.trans (o.below HW.out.size (fun x hx => by injection hx with hx; subst hx; simp; omega)))
        have HC2 := Bx.mk hc
        have hz2 : W2.heap.size ≤ w2.heap.size := Nat.le_trans hzr o.size
        clear hc o HG HO HC cg0
        cases b with
        | false =>
          have HG2 := Bx.mk hG2
          have HO2 := Bx.mk hrow2
          clear hG2 hrow2
          go_wp2_with fail
          go_roundw
          case rel => exact ⟨p + 1, v, xs, by omega, by go_num, HC2, HG2.out, HO2.out, ⟨HX.out.1, fun x hx => by have := HX.out.2 x hx; omega⟩, HR2, HW2, hz2⟩
          case measure => simp [intOf]; omega
        | true =>
          obtain ⟨A', c', rfl⟩ := hrow2.slice
          have cg1 := hG2.at_ (i := 1) rfl
          have fg1 := hG2.frozen 1
          have HG2 := Bx.mk hG2
          have HO2 := Bx.mk hrow2
          clear hG2 hrow2
          go_wp2_with (at_builtin; go_must (refine wpList_app1 rfl _ _ rfl W2.heap.size _ xs (p : Int) rfl rfl (by exact HO2.out) (by omega) (by exact hz2) ?_); intro v1 w4 hown1 hb1; have hG4 := HG2.out.below hb1 (by omega); have cq1 := hG4.at_ (i := 1) rfl; have fq1 := hG4.frozen 1; obtain ⟨A5, c5, rfl⟩ := hown1.slice; obtain ⟨n5, hn5⟩ : ∃ n5, n5 = (xs ++ [(p : Int)]).length := ⟨_, rfl⟩; rw [← hn5] at hown1; rw [← hn5]; clear hn5)
          have HG5 := Bx.mk (hG4.set 1 (.slice A5 n5 c5))
          have hoo : Only w4 (w4.setCell ⟨g8, 1, none⟩ (.slice A5 n5 c5)) (some ⟨g8, 0, none⟩) := (Only.refl w4 _).set _
          have HO5 := Bx.mk (hown1.onlyAt hoo (by omega))
          have HC5 := Bx.mk (cur_only (HC2.out.below' hb1 (by omega) (fun h0 x hx => by have := HA.out h0 x hx; omega)) hoo (by omega) (fun h0 x hx => by have := HA.out h0 x hx; omega))
          have HR5 := Bx.mk ((HR2.out.below hb1 (by omega)).onlyAt hoo (by omega))
          have HW5 := Bx.mk ((HW2.out.trans (hb1.mono (by omega))).setCell (p := ⟨g8, 1, none⟩) (show w.heap.size ≤ g8 by omega) (.slice A5 n5 c5))
          have hz5 : W2.heap.size ≤ (w4.setCell ⟨g8, 1, none⟩ (.slice A5 n5 c5)).heap.size := Nat.le_trans hz2 (Nat.le_trans hb1.size hoo.size)
          have HX5 : Bx ((xs ++ [(p : Int)]).Pairwise (· < ·) ∧ ∀ x ∈ xs ++ [(p : Int)], 0 ≤ x ∧ x < ((p + 1 : Nat) : Int)) := ⟨List.pairwise_append.2 ⟨HX.out.1, by simp, fun x hx y hy => by rw [List.mem_singleton] at hy; have := HX.out.2 x hx; omega⟩, fun x hx => by
            rcases List.mem_append.1 hx with h | h
            · have := HX.out.2 x h; omega
            · rw [List.mem_singleton] at h; omega⟩
          clear hoo hown1 hb1 hG4
          go_wp2_with fail
          go_roundw
          case rel => exact ⟨p + 1, _, xs ++ [(p : Int)], by omega, by go_num, HC5, HG5.out, HO5.out, HX5, HR5, HW5, hz5⟩
          case measure => simp [intOf]; omega
      · have hpe : p = s := by omega
        have hli : ¬ (p : Int) < (s : Int) := by omega
        obtain ⟨A', c', rfl⟩ := hrow.slice
        have cg1 := hG.at_ (i := 1) rfl
        have cr0 := HR.out.at_ (i := 0) rfl
        have cr1 := HR.out.at_ (i := 1) rfl
        have fr0 := HR.out.frozen 0
        have fr1 := HR.out.frozen 1
        have HF := Bx.mk ((HR.out.set 0 (.int .i64 (s : Int))).set 1 (.slice A' xs.length c'))
        have hwl : w.heap.size < W2.heap.size := by omega
        have HIO := Bx.mk (((hrow.io' rfl (by omega)).setLow (p := ⟨w.heap.size, 0, none⟩) hwl (.int .i64 (s : Int))).setLow (p := ⟨w.heap.size, 1, none⟩) hwl (.slice A' xs.length c'))
        have HBL := Bx.mk ((HW.out.setCell (p := ⟨w.heap.size, 0, none⟩) (Nat.le_refl _) (.int .i64 (s : Int))).setCell (p := ⟨w.heap.size, 1, none⟩) (Nat.le_refl _) (.slice A' xs.length c'))
        have HOK : Bx (rhOk (s : Int) xs = true) := ⟨rhOk_iff.2 ⟨by omega, fun x hx => by have := HX.out.2 x hx; omega, HX.out.1⟩⟩
        clear hG hrow
        go_wp2_with fail
        exact bodyPost_ret (v := .agg #[.int .i64 (s : Int), .slice A' xs.length c']) (by simp [results, Try.results7, go_sem, HF.out.at_ (i := 0) rfl, HF.out.at_ (i := 1) rfl]) rfl ⟨xs, HOK.out, A', c', rfl, HIO.out.mono (by omega), HBL.out⟩

/- The draws out of a code: some rhythm of some size. -/
theorem only_bel {a b c : World} {A : Option Addr} {B : Nat} (h : Only a b A) (hb : Below B b c) (hB : a.heap.size ≤ B) : Only a c A :=
  ⟨hb.os.trans h.os, hb.tape.trans h.tape, hb.output.trans h.output, Nat.le_trans h.size hb.size, fun i hi hn => (hb.block i (by omega)).trans (h.block i hi hn)⟩
theorem only_far {a b c : World} {A : Option Addr} {g : Nat} (h : Only a b A) (o : Only b c (some ⟨g, 0, none⟩)) (hg : a.heap.size ≤ g) : Only a c A :=
  ⟨o.os.trans h.os, o.tape.trans h.tape, o.output.trans h.output, Nat.le_trans h.size o.size, fun i hi hn => (o.block i (Nat.lt_of_lt_of_le hi h.size) (by simp; omega)).trans (h.block i hi hn)⟩
theorem only_set {a b : World} {A : Option Addr} {g : Nat} (h : Only a b A) (hg : a.heap.size ≤ g) (i : Nat) (v : Value) : Only a (b.setCell ⟨g, i, none⟩ v) A := only_far h ((Only.refl b _).set v) hg
def GivesSomeN (w : World) (m : Nat) (e : Ending) (w' : World) : Prop := ∃ s : Nat, 1 ≤ s ∧ s ≤ m ∧ GivesSome w s e w'
end Go.Proofs.Ytpejnhcmelkmeaa
