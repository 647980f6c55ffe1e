/- A stretched tiling: the program's and the reference's. -/
import Derived.Test.YtgfdmjhdfddopaaTls
import Derived.Test.YtgfdmjhdfddopaaBas
import Derived.Test.YtgfdmjhdfddopaaLawCn
namespace Go.Proofs.Ytgfdmjhdfddopaa
open Go.RowKit
set_option maxRecDepth 20000

def mulL (k : Int) (xs : List Int) : List Int := xs.map fun x => k * x
def strX (k : Int) (xs : List Int) (a : Nat) : List Int := (xs.take a).map fun x => k * x
def strI (k q : Int) (i : Nat) : List Int := (List.range i).map fun (j : Nat) => k * q + (j : Int)
def strY (k : Int) (ys : List Int) (b : Nat) : List Int := (ys.take b).flatMap fun q => strI k q k.toNat
theorem strX_succ {k x : Int} {xs : List Int} {a : Nat} (h : xs[a]? = some x) : strX k xs (a + 1) = strX k xs a ++ [k * x] := by
  unfold strX
  rw [List.take_add_one, h]
  simp
theorem strX_len (k : Int) (xs : List Int) (a : Nat) (h : a ≤ xs.length) : (strX k xs a).length = a := by
  unfold strX
  rw [List.length_map, List.length_take]; omega
theorem strI_succ (k q : Int) (i : Nat) : strI k q (i + 1) = strI k q i ++ [k * q + (i : Int)] := by simp [strI, List.range_succ]
theorem strI_len (k q : Int) (i : Nat) : (strI k q i).length = i := by simp [strI]
theorem strY_succ {k x : Int} {ys : List Int} {b : Nat} (h : ys[b]? = some x) : strY k ys (b + 1) = strY k ys b ++ strI k x k.toNat := by
  unfold strY
  rw [List.take_add_one, h]
  simp
theorem strY_len (k : Int) (ys : List Int) : ∀ b, b ≤ ys.length → (strY k ys b).length = b * k.toNat := by
  intro b
  induction b with
  | zero => intro _; simp [strY]
  | succ b ih =>
    intro hb
    rw [strY_succ (List.getElem?_eq_getElem (show b < ys.length by omega)), List.length_append, ih (by omega), strI_len, Nat.succ_mul]
def strOk (s : Int) (xs : List Int) (t : Int) (ys : List Int) (k : Int) : Bool := btw s xs t ys 1 1 && (inB k 1 24 && decide (k * s ≤ 24))
def strS (s : Int) (xs : List Int) (t : Int) (ys : List Int) (k : Int) : Int := if strOk s xs t ys k = true then k * s else 0
def strA (s : Int) (xs : List Int) (t : Int) (ys : List Int) (k : Int) : List Int := if strOk s xs t ys k = true then strX k xs xs.length else []
def strB (s : Int) (xs : List Int) (t : Int) (ys : List Int) (k : Int) : List Int := if strOk s xs t ys k = true then strY k ys ys.length else []
/-- what a function that makes two rhythms hands back -/
def GivesRR (w : World) (s : Int) (xs : List Int) (t : Int) (ys : List Int) (ok : Bool) (e : Ending) (w' : World) : Prop :=
  ∃ A c A' c' m, e = .returned (.tuple #[.agg #[.int .i64 s, .slice A xs.length c], .agg #[.int .i64 t, .slice A' ys.length c'], .bool ok]) ∧ (w.heap.size ≤ m ∧ m ≤ w'.heap.size) ∧ OB w.heap.size m w' A c xs ∧ IO w' m A' c' ys ∧ Below w.heap.size w w'
theorem GivesRR.no {w w' : World} {s t k : Int} {xs ys : List Int} (h : strOk s xs t ys k = false) (hb : Below w.heap.size w w') : GivesRR w (strS s xs t ys k) (strA s xs t ys k) (strS s xs t ys k) (strB s xs t ys k) (strOk s xs t ys k) (.returned (.tuple #[.agg #[.int .i64 0, .slice none 0 0], .agg #[.int .i64 0, .slice none 0 0], .bool false])) w' := by
  have h1 : strS s xs t ys k = 0 := by simp [strS, h]
  have h2 : strA s xs t ys k = [] := by simp [strA, h]
  have h3 : strB s xs t ys k = [] := by simp [strB, h]
  rw [h1, h2, h3, h]
  exact ⟨none, 0, none, 0, w'.heap.size, rfl, ⟨hb.size, Nat.le_refl _⟩, ⟨IO.nil _ _, fun x hx => by cases hx⟩, IO.nil _ _, hb⟩
theorem GivesRR.yes {w w' : World} {s t k : Int} {xs ys : List Int} {A B : Option Addr} {c d lo m : Nat} {S : Int} {L M : List Int} (h : strOk s xs t ys k = true) (hS : k * s = S) (hL : strX k xs xs.length = L) (hM : strY k ys ys.length = M)
    (hlo : w.heap.size ≤ lo) (hm : lo ≤ m ∧ m ≤ w'.heap.size) (ha : OB lo m w' A c L) (hb' : IO w' m B d M) (hb : Below w.heap.size w w') :
    GivesRR w (strS s xs t ys k) (strA s xs t ys k) (strS s xs t ys k) (strB s xs t ys k) (strOk s xs t ys k) (.returned (.tuple #[.agg #[.int .i64 S, .slice A L.length c], .agg #[.int .i64 S, .slice B M.length d], .bool true])) w' := by
  have h1 : strS s xs t ys k = S := by simp [strS, h, hS]
  have h2 : strA s xs t ys k = L := by simp [strA, h, hL]
  have h3 : strB s xs t ys k = M := by simp [strB, h, hM]
  rw [h1, h2, h3, h]
  exact ⟨A, c, B, d, m, rfl, ⟨by omega, hm.2⟩, ⟨ha.1.mono hlo, ha.2⟩, hb', hb⟩
theorem two_new (w : World) (cs : Array Value) : Blk ((w.alloc (.cells cs 25)).alloc (.cells cs 25)).drew w.heap.size 25 cs ∧ Blk ((w.alloc (.cells cs 25)).alloc (.cells cs 25)).drew (w.heap.size + 1) 25 cs ∧ Below w.heap.size w ((w.alloc (.cells cs 25)).alloc (.cells cs 25)).drew :=
  ⟨(Blk.new w _ _).alloc _, (by
     have : Blk ((w.alloc (.cells cs 25)).alloc (.cells cs 25)) (w.heap.size + 1) 25 cs := (by have := Blk.new (w.alloc (.cells cs 25)) 25 cs; simpa using this)
     exact this), ((below_alloc _ _).alloc (by simp) _).drew⟩
theorem RB.below_only {w w' : World} {g lo hi : Nat} {A : Option Addr} {xs : List Int} (h : RB lo hi w A xs) (o : Only w w' (some ⟨g, 0, none⟩)) (hd : hi ≤ g ∨ g < lo) : RB lo hi w' A xs := ⟨IR.onlyAt h o hd, h.2⟩
theorem IO.onlyAt {w w' : World} {g base c : Nat} {A : Option Addr} {xs : List Int} (h : IO w base A c xs) (o : Only w w' (some ⟨g, 0, none⟩)) (hd : ∀ x, A = some x → x.block ≠ g) : IO w' base A c xs :=
  h.only o fun a b ea eb => by have := hd a ea; injection eb with eb; subst eb; simpa using this

set_option maxHeartbeats 2000000 in
set_option maxRecDepth 20000 in
theorem implStr_any (s t : Int) (A B : Option Addr) (c d : Nat) (xs ys : List Int) (k : Int) (w : World) (hs : -9223372036854775808 ≤ s ∧ s ≤ 9223372036854775807) (ht : -9223372036854775808 ≤ t ∧ t ≤ 9223372036854775807) (hk : -9223372036854775808 ≤ k ∧ k ≤ 9223372036854775807) (hx : IR w A xs) (hy : IR w B ys) :
    Calls Try.prog 6 #[.agg #[.int .i64 s, .slice A xs.length c], .agg #[.int .i64 t, .slice B ys.length d], .int .i64 k] w (GivesRR w (strS s xs t ys k) (strA s xs t ys k) (strS s xs t ys k) (strB s xs t ys k) (strOk s xs t ys k)) := by
  obtain ⟨W0, hW0⟩ : ∃ W0, W0 = (((w.alloc (.cells #[.int .i64 s, .slice A xs.length c] 25)).alloc (.cells #[.int .i64 t, .slice B ys.length d] 25)).alloc (.cells #[.int .i64 0, .slice none 0 0] 25)).alloc (.cells #[.int .i64 0, .slice none 0 0] 25) := ⟨_, rfl⟩
  have bw : Below w.heap.size w W0 := by rw [hW0]; exact (((below_alloc _ _).alloc (by simp) _).alloc (by simp <;> omega) _).alloc (by simp <;> omega) _
  have hz : w.heap.size + 4 ≤ W0.heap.size := by rw [hW0]; simp
  have k0 : W0.cell? ⟨w.heap.size, 0, none⟩ = some (.int .i64 s) := by rw [hW0]; simp [go_sem]
  have k1 : W0.cell? ⟨w.heap.size, 1, none⟩ = some (.slice A xs.length c) := by rw [hW0]; simp [go_sem]
  have k2 : W0.cell? ⟨w.heap.size + 1, 0, none⟩ = some (.int .i64 t) := by rw [hW0]; simp [go_sem]
  have k3 : W0.cell? ⟨w.heap.size + 1, 1, none⟩ = some (.slice B ys.length d) := by rw [hW0]; simp [go_sem]
  have R0 : Blk W0 (w.heap.size + 1 + 1) 25 #[.int .i64 0, .slice none 0 0] := by rw [hW0]; have := (Blk.new ((w.alloc (.cells #[.int .i64 s, .slice A xs.length c] 25)).alloc (.cells #[.int .i64 t, .slice B ys.length d] 25)) 25 #[.int .i64 0, .slice none 0 0]).alloc (.cells #[.int .i64 0, .slice none 0 0] 25); simpa using this
  have S0 : Blk W0 (w.heap.size + 1 + 1 + 1) 25 #[.int .i64 0, .slice none 0 0] := by rw [hW0]; have := Blk.new (((w.alloc (.cells #[.int .i64 s, .slice A xs.length c] 25)).alloc (.cells #[.int .i64 t, .slice B ys.length d] 25)).alloc (.cells #[.int .i64 0, .slice none 0 0] 25)) 25 #[.int .i64 0, .slice none 0 0]; simpa using this
  have HX := Bx.mk (hx.below bw)
  have HY := Bx.mk (hy.below bw)
  have HS := Bx.mk hs
  have HT := Bx.mk ht
  have HK := Bx.mk hk
  clear hx hy hs ht
  cases h1 : btw s xs t ys 1 1 with
  | false =>
    have HNO : Bx (strOk s xs t ys k = false) := ⟨by unfold strOk; rw [h1]; rfl⟩
    go_enter Try.func6, Try.ntmps6
    go_wp2_with fail
    rw [← hW0]
    clear hW0
    refine (implIsTiling_any _ _ _ _ _ _ _ _ _ HS.out HT.out (by exact HX.out) (by exact HY.out)).mono ?_
    rw [h1]
    rintro e w1 ⟨rfl, b⟩
    replace R0 := R0.below b (by omega)
    replace S0 := S0.below b (by omega)
    replace k0 := ((bcell b).1 _ _ (by omega)).trans k0
    replace k1 := ((bcell b).1 _ _ (by omega)).trans k1
    replace k2 := ((bcell b).1 _ _ (by omega)).trans k2
    replace k3 := ((bcell b).1 _ _ (by omega)).trans k3
    replace HX := Bx.mk (HX.out.below b)
    replace HY := Bx.mk (HY.out.below b)
    replace hz := Nat.le_trans hz b.size
    replace bw := bw.trans (b.mono bw.size)
    clear b
    have cr0 := R0.at_ (i := 0) rfl
    have cr1 := R0.at_ (i := 1) rfl
    have fr0 := R0.frozen 0
    have fr1 := R0.frozen 1
    have cs0 := S0.at_ (i := 0) rfl
    have cs1 := S0.at_ (i := 1) rfl
    have fs0 := S0.frozen 0
    have fs1 := S0.frozen 1
    have RF := Bx.mk ((((R0.set 0 (.int .i64 0)).set 1 (.slice none 0 0)).setAt (g' := w.heap.size + 1 + 1 + 1) (i := 0) (.int .i64 0) (by omega)).setAt (g' := w.heap.size + 1 + 1 + 1) (i := 1) (.slice none 0 0) (by omega))
    have SF := Bx.mk ((((S0.setAt (g' := w.heap.size + 1 + 1) (i := 0) (.int .i64 0) (by omega)).setAt (g' := w.heap.size + 1 + 1) (i := 1) (.slice none 0 0) (by omega)).set 0 (.int .i64 0)).set 1 (.slice none 0 0))
    have BF := Bx.mk ((((bw.setCell (p := ⟨w.heap.size + 1 + 1, 0, none⟩) (show w.heap.size ≤ w.heap.size + 1 + 1 by omega) (.int .i64 0)).setCell (p := ⟨w.heap.size + 1 + 1, 1, none⟩) (show w.heap.size ≤ w.heap.size + 1 + 1 by omega) (.slice none 0 0)).setCell (p := ⟨w.heap.size + 1 + 1 + 1, 0, none⟩) (show w.heap.size ≤ w.heap.size + 1 + 1 + 1 by omega) (.int .i64 0)).setCell (p := ⟨w.heap.size + 1 + 1 + 1, 1, none⟩) (show w.heap.size ≤ w.heap.size + 1 + 1 + 1 by omega) (.slice none 0 0))
    clear R0 S0
    go_wp2_with fail
    refine bodyPost_ret (v := .tuple #[.agg #[.int .i64 0, .slice none 0 0], .agg #[.int .i64 0, .slice none 0 0], .bool false]) (by simp [results, Try.results6, go_sem, RF.out.at_ (i := 0) rfl, RF.out.at_ (i := 1) rfl, SF.out.at_ (i := 0) rfl, SF.out.at_ (i := 1) rfl]) rfl (GivesRR.no HNO.out BF.out)
  | true =>
    have htw : twoOk s xs t ys = true := by unfold btw at h1; rw [Bool.and_eq_true] at h1; exact h1.1
    obtain ⟨hxo, hyo, hst⟩ := twoOk_iff.1 htw
    subst hst
    have hsb := (rhOk_iff.1 hxo).1
    have hxl := (rhOk_len hxo).1
    have hyl := (rhOk_len hyo).1
    have HXB := Bx.mk (rhOk_iff.1 hxo).2.1
    have HYB := Bx.mk (rhOk_iff.1 hyo).2.1
    clear htw hxo hyo
    obtain ⟨n, rfl⟩ := Int.eq_ofNat_of_zero_le (show 0 ≤ s by omega)
    by_cases hkr : 1 ≤ k ∧ k ≤ 24
    · obtain ⟨kn, rfl⟩ := Int.eq_ofNat_of_zero_le (show 0 ≤ k by omega)
      obtain ⟨m, hm⟩ : ∃ m : Nat, m = kn * n := ⟨_, rfl⟩
      have hmb : m ≤ 576 := by rw [hm]; have := Nat.mul_le_mul (show kn ≤ 24 by omega) (show n ≤ 24 by omega); omega
      have hmi : (kn : Int) * (n : Int) = (m : Int) := by rw [hm]; simp
      have hwm : IntKind.i64.wrap ((kn : Int) * (n : Int)) = (m : Int) := by rw [hmi]; exact IntWalk.i64_in _ (by omega)
      have hib : inB (kn : Int) 1 24 = true := inB_yes hkr
      obtain ⟨q, hq⟩ : ∃ q : Nat, q = 24 / n := ⟨_, rfl⟩
      have hqd : (24 : Int).tdiv (n : Int) = (q : Int) := by rw [hq]; exact (Int.ofNat_tdiv 24 n).symm
      have hqb : q ≤ 24 := by rw [hq]; exact Nat.div_le_self _ _
      have hwq : IntKind.i64.wrap (q : Int) = (q : Int) := IntWalk.i64_in _ (by omega)
      have hn0 : ¬ (n : Int) = 0 := by omega
      have hqm : kn ≤ q ↔ m ≤ 24 := by rw [hq, hm, Nat.le_div_iff_mul_le (by omega)]
      clear hq
      by_cases hm24 : m ≤ 24
      · have HOK : Bx (strOk n xs n ys kn = true) := ⟨by unfold strOk; rw [h1, hib, hmi]; simp; omega⟩
        have hmk : m = kn * n := hm
        have hkq : ¬ (kn : Int) > (q : Int) := by omega
        have hk1 : ¬ (kn : Int) < 1 := by omega
        have HMI := Bx.mk hmi
        clear hm hmk hqm
        go_enter Try.func6, Try.ntmps6
        go_wp2_with fail
        rw [← hW0]
        clear hW0
        refine (implIsTiling_any _ _ _ _ _ _ _ _ _ HS.out HT.out (by exact HX.out) (by exact HY.out)).mono ?_
        rw [h1]
        rintro e w1 ⟨rfl, b⟩
        replace R0 := R0.below b (by omega)
        replace S0 := S0.below b (by omega)
        replace k0 := ((bcell b).1 _ _ (by omega)).trans k0
        replace k1 := ((bcell b).1 _ _ (by omega)).trans k1
        replace k2 := ((bcell b).1 _ _ (by omega)).trans k2
        replace k3 := ((bcell b).1 _ _ (by omega)).trans k3
        replace HX := Bx.mk (HX.out.below b)
        replace HY := Bx.mk (HY.out.below b)
        replace hz := Nat.le_trans hz b.size
        replace bw := bw.trans (b.mono bw.size)
        clear b
        clear h1
        go_upto_region 3 with (fail)
        have hl1 : w.heap.size < w1.heap.size := by omega
        have hl2 : w.heap.size + 1 < w1.heap.size := by omega
        go_cut [9, 10] (fun s9 s10 wx => ∃ (g1 g2 : Nat), s9 = .pointer (some ⟨g1, 0, none⟩) ∧ s10 = .pointer (some ⟨g2, 0, none⟩) ∧ Bx (Blk wx g1 25 #[.int .i64 (m : Int), .slice none 0 0] ∧ Blk wx g2 25 #[.int .i64 (m : Int), .slice none 0 0] ∧ (w1.heap.size ≤ g1 ∧ w1.heap.size ≤ g2 ∧ g1 ≠ g2) ∧ Below w1.heap.size w1 wx))
        case first =>
          go_region
          all_goals (go_wp2_with fail; go_meet)
          · exact ⟨_, _, rfl, rfl, ⟨⟨(two_new w1 _).1, (two_new w1 _).2.1, ⟨by omega, by omega, by omega⟩, (two_new w1 _).2.2⟩⟩⟩
          · exact ⟨_, _, rfl, rfl, ⟨⟨(two_new w1 _).2.1, (two_new w1 _).1, ⟨by omega, by omega, by omega⟩, (two_new w1 _).2.2⟩⟩⟩
        case rest =>
          obtain ⟨g1, g2, rfl, rfl, HC⟩ := hcut
          rename World => W1
          obtain ⟨⟨G0, G1, ⟨hg1, hg2, hg12⟩, b1⟩⟩ := HC
          have R0 := Bx.mk (R0.below b1 (by omega))
          have S0 := Bx.mk (S0.below b1 (by omega))
          have HI := Bx.mk ((RB.of_ir HX.out).below b1 (Nat.le_refl _))
          have HY2 := Bx.mk ((RB.of_ir HY.out).below b1 (Nat.le_refl _))
          have bw1 := bw.trans (b1.mono bw.size)
          have hzW := b1.size
          have hGl := G0.lt
          have G1 := Bx.mk G1
          replace k3 := ((bcell b1).1 _ _ (by omega)).trans k3
          replace k0 := ((bcell b1).1 _ _ (by omega)).trans k0
          replace k1 := ((bcell b1).1 _ _ (by omega)).trans k1
          clear b1 hl2 k2
          go_wp2_with fail
          go_loopw [46] (fun i wr => ∃ (a : Nat) (v : Value), a ≤ xs.length ∧ i = .int .i64 a ∧ Blk wr g1 25 #[.int .i64 (m : Int), v] ∧ Row wr W1.heap.size v (strX kn xs a) ∧ Only W1 wr (some ⟨g1, 0, none⟩)) (fun i _ => xs.length - (intOf i).toNat)
          case atStart => exact ⟨0, _, by omega, rfl, G0, Row.nil _ _, Only.refl _ _⟩
          case round =>
            obtain ⟨a, v, ha, rfl, hG, hrow, ho⟩ := hrel
            clear G0
            obtain ⟨A', c', rfl⟩ := hrow.slice
            have hlen : (strX kn xs a).length ≤ 24 := by rw [strX_len kn xs a ha]; omega
            have HO := Bx.mk hrow
            have HN := Bx.mk ho
            have hi := IR.onlyAt HI.out ho (by omega)
            have hzr := ho.size
            have q0 := (ho.cellAt (b := w.heap.size) (i := 0) (by omega) (by omega)).trans k0
            have q3 := (ho.cellAt (b := w.heap.size + 1) (i := 1) (by omega) (by omega)).trans k3
            have cg0 := hG.at_ (i := 0) rfl
            have cg1 := hG.at_ (i := 1) rfl
            have fg0 := hG.frozen 0
            have fg1 := hG.frozen 1
            have HG := Bx.mk hG
            clear hrow ho hG
            by_cases hlt : a < xs.length
            · obtain ⟨b, o, x, rfl, hb, c1, H3⟩ := hi.one hlt
              have H4 := Bx.mk H3.out
              clear H3
              have hkl : (a : Int) < xs.length := by omega
              obtain ⟨hx0, hx1⟩ := HXB.out x (List.mem_of_getElem? H4.out)
              have HSU := Bx.mk (strX_succ (k := (kn : Int)) H4.out)
              obtain ⟨xn, rfl⟩ := Int.eq_ofNat_of_zero_le hx0
              obtain ⟨z, hz1⟩ : ∃ z : Nat, z = kn * xn := ⟨_, rfl⟩
              have hzb : z ≤ 576 := by rw [hz1]; have := Nat.mul_le_mul (show kn ≤ 24 by omega) (show xn ≤ 24 by omega); omega
              have hzi : (kn : Int) * (xn : Int) = (z : Int) := by rw [hz1]; simp
              have hwz : IntKind.i64.wrap ((kn : Int) * (xn : Int)) = (z : Int) := by rw [hzi]; exact IntWalk.i64_in _ (by omega)
              rw [hzi] at HSU
              clear hz1 hx0 hx1
              go_wp2_with (at_builtin; go_must (refine wpList_app1 rfl _ _ rfl W1.heap.size _ (strX kn xs a) (z : Int) rfl rfl (by exact HO.out) (by omega) (by exact hzr) ?_); intro v1 w4 hown1 hb1; have hG4 := HG.out.below hb1 (by omega); have cq1 := hG4.at_ (i := 1) rfl; have fq1 := hG4.frozen 1; obtain ⟨A5, c5, rfl⟩ := hown1.slice; obtain ⟨n5, hn5⟩ : ∃ n5, n5 = (strX kn xs a ++ [(z : Int)]).length := ⟨_, rfl⟩; rw [← hn5] at hown1; rw [← hn5]; clear hn5)
              have HG5 := Bx.mk (hG4.set 1 (.slice A5 n5 c5))
              have hoo : Only W1 (w4.setCell ⟨g1, 1, none⟩ (.slice A5 n5 c5)) (some ⟨g1, 0, none⟩) := (HN.out.after hb1).set _
              have HN5 := Bx.mk hoo
              have HO5 := Bx.mk (hown1.onlyAt ((Only.refl w4 (some ⟨g1, 0, none⟩)).set (i := 1) (.slice A5 n5 c5)) (by omega))
              clear hoo hown1 hb1 hG4
              go_wp2_with fail
              go_roundw
              case rel => exact ⟨a + 1, _, by omega, by go_num, HG5.out, by rw [HSU.out]; exact HO5.out, HN5.out⟩
              case measure => simp [intOf]; omega
            · have hae : a = xs.length := by omega
              subst hae
              obtain ⟨L, hL⟩ : ∃ L, L = strX kn xs xs.length := ⟨_, rfl⟩
              rw [← hL] at HO HG hlen cg1
              try rw [← hL]
              have HLL := Bx.mk hL
              clear hL
              have hLl : L.length ≤ 24 := by omega
              have hkln : ¬ (xs.length : Int) < xs.length := by omega
              have HYI := Bx.mk (RB.below_only HY2.out HN.out (by omega))
              have R1 := Bx.mk (R0.out.onlyAt HN.out (by omega))
              have S1 := Bx.mk (S0.out.onlyAt HN.out (by omega))
              have bw2 := bw1.trans (HN.out.below bw1.size (by intro x hx; injection hx with hx; subst hx; simp; omega))
              have HIO := Bx.mk (HO.out.io' rfl (by omega))
              clear hlt hi
              have G2 : Blk wr g2 25 #[.int .i64 (m : Int), .slice none 0 0] := G1.out.onlyAt HN.out (by omega)
              have hgg : g2 < W1.heap.size := G1.out.lt
              have HYJ := HYI
              have R2 := R1
              have S2 := S1
              have G3 := HG
              have HIO2 := Bx.mk (OB.of HIO.out (Nat.le_refl _))
              have HLT := Bx.mk HIO2.out.2
              have HNE : Bx (∀ x, A' = some x → x.block ≠ g2) := ⟨fun x hx => by have := HIO.out.ge x hx; omega⟩
              rename World => W2
              go_wp2_with fail
              go_loopw [62] (fun i wr => ∃ (a : Nat) (v : Value), a ≤ ys.length ∧ i = .int .i64 a ∧ Blk wr g2 25 #[.int .i64 (m : Int), v] ∧ Row wr W2.heap.size v (strY kn ys a) ∧ Only W2 wr (some ⟨g2, 0, none⟩)) (fun i _ => ys.length - (intOf i).toNat)
              case atStart => exact ⟨0, _, by omega, rfl, G2, Row.nil _ _, Only.refl _ _⟩
              case round =>
                obtain ⟨a, v, ha, rfl, hG, hrow, ho⟩ := hrel
                clear G2
                have hlen : (strY kn ys a).length ≤ 576 := by rw [strY_len kn ys a ha, Int.toNat_natCast]; have := Nat.mul_le_mul (show a ≤ 24 by omega) (show kn ≤ 24 by omega); omega
                have hi := IR.onlyAt HYJ.out ho (by omega)
                by_cases hlt : a < ys.length
                · obtain ⟨b, o, x, rfl, hb, c1, H3⟩ := hi.one hlt
                  have H4 := Bx.mk H3.out
                  clear H3
                  have hkl : (a : Int) < ys.length := by omega
                  obtain ⟨hx0, hx1⟩ := HYB.out x (List.mem_of_getElem? H4.out)
                  have HSU := Bx.mk (strY_succ (k := (kn : Int)) H4.out)
                  obtain ⟨xn, rfl⟩ := Int.eq_ofNat_of_zero_le hx0
                  obtain ⟨z, hz1⟩ : ∃ z : Nat, z = kn * xn := ⟨_, rfl⟩
                  have hzb : z ≤ 576 := by rw [hz1]; have := Nat.mul_le_mul (show kn ≤ 24 by omega) (show xn ≤ 24 by omega); omega
                  have hzi : (kn : Int) * (xn : Int) = (z : Int) := by rw [hz1]; simp
                  have hwz : IntKind.i64.wrap ((kn : Int) * (xn : Int)) = (z : Int) := by rw [hzi]; exact IntWalk.i64_in _ (by omega)
                  clear hz1 hx0 hx1
                  obtain ⟨LY, hLY⟩ : ∃ LY, LY = strY kn ys a := ⟨_, rfl⟩
                  rw [← hLY] at hrow hlen HSU
                  clear hLY
                  have HZI := Bx.mk hzi
                  go_wp2_with fail
                  go_loopw [67] (fun i wm => ∃ (j : Nat) (v : Value), j ≤ kn ∧ i = .int .i64 j ∧ Blk wm g2 25 #[.int .i64 (m : Int), v] ∧ Row wm W2.heap.size v (LY ++ strI kn xn j) ∧ Only W2 wm (some ⟨g2, 0, none⟩)) (fun i _ => kn - (intOf i).toNat)
                  case atStart => exact ⟨0, _, by omega, rfl, hG, by simpa [strI] using hrow, ho⟩
                  case round =>
                    clear hG hrow ho
                    obtain ⟨j, v, hj, rfl, hG, hrow, ho⟩ := hrel
                    obtain ⟨A5, c5, rfl⟩ := hrow.slice
                    have hlj : (LY ++ strI kn xn j).length ≤ 600 := by rw [List.length_append, strI_len]; omega
                    have HO := Bx.mk hrow
                    have HN := Bx.mk ho
                    have hzr := ho.size
                    have cg0 := hG.at_ (i := 0) rfl
                    have cg1 := hG.at_ (i := 1) rfl
                    have fg0 := hG.frozen 0
                    have fg1 := hG.frozen 1
                    have HG := Bx.mk hG
                    clear hrow ho hG
                    by_cases hltj : j < kn
                    · have hkj : (j : Int) < kn := by omega
                      have HSJ : Bx (LY ++ strI kn xn (j + 1) = (LY ++ strI kn xn j) ++ [(z : Int) + (j : Int)]) := ⟨by rw [strI_succ, HZI.out, List.append_assoc]⟩
                      obtain ⟨LJ, hLJ⟩ : ∃ LJ, LJ = LY ++ strI kn xn j := ⟨_, rfl⟩
                      rw [← hLJ] at HO HG hlj cg1 HSJ
                      try rw [← hLJ]
                      clear hLJ
                      go_wp2_with (at_builtin; go_must (refine wpList_app1 rfl _ _ rfl W2.heap.size _ LJ ((z : Int) + (j : Int)) rfl rfl (by exact HO.out) (by omega) (by exact hzr) ?_); intro v1 w4 hown1 hb1; have hG4 := HG.out.below hb1 (by omega); have cq1 := hG4.at_ (i := 1) rfl; have fq1 := hG4.frozen 1; obtain ⟨A6, c6, rfl⟩ := hown1.slice; obtain ⟨n5, hn5⟩ : ∃ n5, n5 = (LJ ++ [(z : Int) + (j : Int)]).length := ⟨_, rfl⟩; rw [← hn5] at hown1; rw [← hn5]; clear hn5)
                      have HG5 := Bx.mk (hG4.set 1 (.slice A6 n5 c6))
                      have hoo : Only W2 (w4.setCell ⟨g2, 1, none⟩ (.slice A6 n5 c6)) (some ⟨g2, 0, none⟩) := (HN.out.after hb1).set _
                      have HN5 := Bx.mk hoo
                      have HO5 := Bx.mk (hown1.onlyAt ((Only.refl w4 (some ⟨g2, 0, none⟩)).set (i := 1) (.slice A6 n5 c6)) (by omega))
                      clear hoo hown1 hb1 hG4
                      go_wp2_with fail
                      go_roundw
                      case rel => exact ⟨j + 1, _, by omega, by go_num, HG5.out, by rw [HSJ.out]; exact HO5.out, HN5.out⟩
                      case measure => simp [intOf]; omega
                    · have hje : j = kn := by omega
                      subst hje
                      rw [Int.toNat_natCast] at HSU
                      have hkj : ¬ (j : Int) < j := by omega
                      go_wp2_with fail
                      go_roundw
                      case rel => exact ⟨a + 1, _, by omega, by go_num, HG.out, by rw [HSU.out]; exact HO.out, HN.out⟩
                      case measure => simp [intOf]; omega
                · have hae : a = ys.length := by omega
                  subst hae
                  obtain ⟨A5, c5, rfl⟩ := hrow.slice
                  obtain ⟨M, hM⟩ : ∃ M, M = strY kn ys ys.length := ⟨_, rfl⟩
                  rw [← hM] at hrow hG hlen
                  try rw [← hM]
                  have HMM := Bx.mk hM
                  clear hM hi
                  have hzr := ho.size
                  have hkln : ¬ (ys.length : Int) < ys.length := by omega
                  have hGX := G3.out.onlyAt ho (by omega)
                  have cx0 := hGX.at_ (i := 0) rfl
                  have cx1 := hGX.at_ (i := 1) rfl
                  have cg0 := hG.at_ (i := 0) rfl
                  have cg1 := hG.at_ (i := 1) rfl
                  have R0 := R2.out.onlyAt ho (by omega)
                  have S0 := S2.out.onlyAt ho (by omega)
                  have bw := bw2.trans (ho.below bw2.size (by intro x hx; injection hx with hx; subst hx; simp; omega))
                  have HIA := Bx.mk (IO.onlyAt HIO2.out.1 ho HNE.out)
                  have HIB := Bx.mk (hrow.io' rfl (by omega))
                  have cr0 := R0.at_ (i := 0) rfl
                  have cr1 := R0.at_ (i := 1) rfl
                  have fr0 := R0.frozen 0
                  have fr1 := R0.frozen 1
                  have cs0 := S0.at_ (i := 0) rfl
                  have cs1 := S0.at_ (i := 1) rfl
                  have fs0 := S0.frozen 0
                  have fs1 := S0.frozen 1
                  clear hlt hrow ho
                  have RF := Bx.mk ((((R0.set 0 (.int .i64 (m : Int))).set 1 (.slice A' L.length c')).setAt (g' := w.heap.size + 1 + 1 + 1) (i := 0) (.int .i64 (m : Int)) (by omega)).setAt (g' := w.heap.size + 1 + 1 + 1) (i := 1) (.slice A5 M.length c5) (by omega))
                  have SF := Bx.mk ((((S0.setAt (g' := w.heap.size + 1 + 1) (i := 0) (.int .i64 (m : Int)) (by omega)).setAt (g' := w.heap.size + 1 + 1) (i := 1) (.slice A' L.length c') (by omega)).set 0 (.int .i64 (m : Int))).set 1 (.slice A5 M.length c5))
                  have BF := Bx.mk ((((bw.setCell (p := ⟨w.heap.size + 1 + 1, 0, none⟩) (by simp; omega) (.int .i64 (m : Int))).setCell (p := ⟨w.heap.size + 1 + 1, 1, none⟩) (by simp; omega) (.slice A' L.length c')).setCell (p := ⟨w.heap.size + 1 + 1 + 1, 0, none⟩) (by simp; omega) (.int .i64 (m : Int))).setCell (p := ⟨w.heap.size + 1 + 1 + 1, 1, none⟩) (by simp; omega) (.slice A5 M.length c5))
                  have IA := Bx.mk ((((HIA.out.setLow (p := ⟨w.heap.size + 1 + 1, 0, none⟩) (by simp; omega) (.int .i64 (m : Int))).setLow (p := ⟨w.heap.size + 1 + 1, 1, none⟩) (by simp; omega) (.slice A' L.length c')).setLow (p := ⟨w.heap.size + 1 + 1 + 1, 0, none⟩) (by simp; omega) (.int .i64 (m : Int))).setLow (p := ⟨w.heap.size + 1 + 1 + 1, 1, none⟩) (by simp; omega) (.slice A5 M.length c5))
                  have IB := Bx.mk ((((HIB.out.setLow (p := ⟨w.heap.size + 1 + 1, 0, none⟩) (by simp; omega) (.int .i64 (m : Int))).setLow (p := ⟨w.heap.size + 1 + 1, 1, none⟩) (by simp; omega) (.slice A' L.length c')).setLow (p := ⟨w.heap.size + 1 + 1 + 1, 0, none⟩) (by simp; omega) (.int .i64 (m : Int))).setLow (p := ⟨w.heap.size + 1 + 1 + 1, 1, none⟩) (by simp; omega) (.slice A5 M.length c5))
                  go_upto_region 18 with (fail)
                  have ne1 : ¬ g1 = w.heap.size + 1 + 1 := by omega
                  have ne2 : ¬ g1 = w.heap.size + 1 + 1 + 1 := by omega
                  have ne3 : ¬ g2 = w.heap.size + 1 + 1 := by omega
                  have ne4 : ¬ g2 = w.heap.size + 1 + 1 + 1 := by omega
                  go_region
                  all_goals go_wp2_with fail
                  all_goals refine bodyPost_ret (v := .tuple #[.agg #[.int .i64 (m : Int), .slice A' L.length c'], .agg #[.int .i64 (m : Int), .slice A5 M.length c5], .bool true]) (by simp [results, Try.results6, go_sem, RF.out.at_ (i := 0) rfl, RF.out.at_ (i := 1) rfl, SF.out.at_ (i := 0) rfl, SF.out.at_ (i := 1) rfl]) rfl (GivesRR.yes HOK.out HMI.out HLL.out.symm HMM.out.symm (lo := W1.heap.size) (m := W2.heap.size) (by omega) ⟨by omega, by simpa using hzr⟩ ⟨IA.out, HLT.out⟩ IB.out BF.out.drew)
      · have HNO : Bx (strOk n xs n ys kn = false) := ⟨by unfold strOk; rw [h1, hib, hmi]; simp; omega⟩
        have hkq : (kn : Int) > (q : Int) := by omega
        have hk1 : ¬ (kn : Int) < 1 := by omega
        clear hqm
        clear hm hm24
        go_enter Try.func6, Try.ntmps6
        go_wp2_with fail
        rw [← hW0]
        clear hW0
        refine (implIsTiling_any _ _ _ _ _ _ _ _ _ HS.out HT.out (by exact HX.out) (by exact HY.out)).mono ?_
        rw [h1]
        rintro e w1 ⟨rfl, b⟩
        replace R0 := R0.below b (by omega)
        replace S0 := S0.below b (by omega)
        replace k0 := ((bcell b).1 _ _ (by omega)).trans k0
        replace k1 := ((bcell b).1 _ _ (by omega)).trans k1
        replace k2 := ((bcell b).1 _ _ (by omega)).trans k2
        replace k3 := ((bcell b).1 _ _ (by omega)).trans k3
        replace HX := Bx.mk (HX.out.below b)
        replace HY := Bx.mk (HY.out.below b)
        replace hz := Nat.le_trans hz b.size
        replace bw := bw.trans (b.mono bw.size)
        clear b
        clear h1
        have cr0 := R0.at_ (i := 0) rfl
        have cr1 := R0.at_ (i := 1) rfl
        have fr0 := R0.frozen 0
        have fr1 := R0.frozen 1
        have cs0 := S0.at_ (i := 0) rfl
        have cs1 := S0.at_ (i := 1) rfl
        have fs0 := S0.frozen 0
        have fs1 := S0.frozen 1
        have RF := Bx.mk ((((R0.set 0 (.int .i64 0)).set 1 (.slice none 0 0)).setAt (g' := w.heap.size + 1 + 1 + 1) (i := 0) (.int .i64 0) (by omega)).setAt (g' := w.heap.size + 1 + 1 + 1) (i := 1) (.slice none 0 0) (by omega))
        have SF := Bx.mk ((((S0.setAt (g' := w.heap.size + 1 + 1) (i := 0) (.int .i64 0) (by omega)).setAt (g' := w.heap.size + 1 + 1) (i := 1) (.slice none 0 0) (by omega)).set 0 (.int .i64 0)).set 1 (.slice none 0 0))
        have BF := Bx.mk ((((bw.setCell (p := ⟨w.heap.size + 1 + 1, 0, none⟩) (show w.heap.size ≤ w.heap.size + 1 + 1 by omega) (.int .i64 0)).setCell (p := ⟨w.heap.size + 1 + 1, 1, none⟩) (show w.heap.size ≤ w.heap.size + 1 + 1 by omega) (.slice none 0 0)).setCell (p := ⟨w.heap.size + 1 + 1 + 1, 0, none⟩) (show w.heap.size ≤ w.heap.size + 1 + 1 + 1 by omega) (.int .i64 0)).setCell (p := ⟨w.heap.size + 1 + 1 + 1, 1, none⟩) (show w.heap.size ≤ w.heap.size + 1 + 1 + 1 by omega) (.slice none 0 0))
        clear R0 S0
        go_wp2_with fail
        refine bodyPost_ret (v := .tuple #[.agg #[.int .i64 0, .slice none 0 0], .agg #[.int .i64 0, .slice none 0 0], .bool false]) (by simp [results, Try.results6, go_sem, RF.out.at_ (i := 0) rfl, RF.out.at_ (i := 1) rfl, SF.out.at_ (i := 0) rfl, SF.out.at_ (i := 1) rfl]) rfl (GivesRR.no HNO.out BF.out)
    · have hib : inB k 1 24 = false := by rw [Bool.eq_false_iff]; intro h; exact hkr (inB_iff.1 h)
      have HNO : Bx (strOk n xs n ys k = false) := ⟨by unfold strOk; rw [h1, hib]; rfl⟩
      obtain ⟨q, hq⟩ : ∃ q : Nat, q = 24 / n := ⟨_, rfl⟩
      have hqd : (24 : Int).tdiv (n : Int) = (q : Int) := by rw [hq]; exact (Int.ofNat_tdiv 24 n).symm
      have hqb : q ≤ 24 := by rw [hq]; exact Nat.div_le_self _ _
      have hwq : IntKind.i64.wrap (q : Int) = (q : Int) := IntWalk.i64_in _ (by omega)
      have hn0 : ¬ (n : Int) = 0 := by omega
      clear hq
      by_cases hk1 : k < 1
      · skip
        go_enter Try.func6, Try.ntmps6
        go_wp2_with fail
        rw [← hW0]
        clear hW0
        refine (implIsTiling_any _ _ _ _ _ _ _ _ _ HS.out HT.out (by exact HX.out) (by exact HY.out)).mono ?_
        rw [h1]
        rintro e w1 ⟨rfl, b⟩
        replace R0 := R0.below b (by omega)
        replace S0 := S0.below b (by omega)
        replace k0 := ((bcell b).1 _ _ (by omega)).trans k0
        replace k1 := ((bcell b).1 _ _ (by omega)).trans k1
        replace k2 := ((bcell b).1 _ _ (by omega)).trans k2
        replace k3 := ((bcell b).1 _ _ (by omega)).trans k3
        replace HX := Bx.mk (HX.out.below b)
        replace HY := Bx.mk (HY.out.below b)
        replace hz := Nat.le_trans hz b.size
        replace bw := bw.trans (b.mono bw.size)
        clear b
        clear h1
        have cr0 := R0.at_ (i := 0) rfl
        have cr1 := R0.at_ (i := 1) rfl
        have fr0 := R0.frozen 0
        have fr1 := R0.frozen 1
        have cs0 := S0.at_ (i := 0) rfl
        have cs1 := S0.at_ (i := 1) rfl
        have fs0 := S0.frozen 0
        have fs1 := S0.frozen 1
        have RF := Bx.mk ((((R0.set 0 (.int .i64 0)).set 1 (.slice none 0 0)).setAt (g' := w.heap.size + 1 + 1 + 1) (i := 0) (.int .i64 0) (by omega)).setAt (g' := w.heap.size + 1 + 1 + 1) (i := 1) (.slice none 0 0) (by omega))
        have SF := Bx.mk ((((S0.setAt (g' := w.heap.size + 1 + 1) (i := 0) (.int .i64 0) (by omega)).setAt (g' := w.heap.size + 1 + 1) (i := 1) (.slice none 0 0) (by omega)).set 0 (.int .i64 0)).set 1 (.slice none 0 0))
        have BF := Bx.mk ((((bw.setCell (p := ⟨w.heap.size + 1 + 1, 0, none⟩) (show w.heap.size ≤ w.heap.size + 1 + 1 by omega) (.int .i64 0)).setCell (p := ⟨w.heap.size + 1 + 1, 1, none⟩) (show w.heap.size ≤ w.heap.size + 1 + 1 by omega) (.slice none 0 0)).setCell (p := ⟨w.heap.size + 1 + 1 + 1, 0, none⟩) (show w.heap.size ≤ w.heap.size + 1 + 1 + 1 by omega) (.int .i64 0)).setCell (p := ⟨w.heap.size + 1 + 1 + 1, 1, none⟩) (show w.heap.size ≤ w.heap.size + 1 + 1 + 1 by omega) (.slice none 0 0))
        clear R0 S0
        go_wp2_with fail
        refine bodyPost_ret (v := .tuple #[.agg #[.int .i64 0, .slice none 0 0], .agg #[.int .i64 0, .slice none 0 0], .bool false]) (by simp [results, Try.results6, go_sem, RF.out.at_ (i := 0) rfl, RF.out.at_ (i := 1) rfl, SF.out.at_ (i := 0) rfl, SF.out.at_ (i := 1) rfl]) rfl (GivesRR.no HNO.out BF.out)
      · have hkq : k > (q : Int) := by omega
        go_enter Try.func6, Try.ntmps6
        go_wp2_with fail
        rw [← hW0]
        clear hW0
        refine (implIsTiling_any _ _ _ _ _ _ _ _ _ HS.out HT.out (by exact HX.out) (by exact HY.out)).mono ?_
        rw [h1]
        rintro e w1 ⟨rfl, b⟩
        replace R0 := R0.below b (by omega)
        replace S0 := S0.below b (by omega)
        replace k0 := ((bcell b).1 _ _ (by omega)).trans k0
        replace k1 := ((bcell b).1 _ _ (by omega)).trans k1
        replace k2 := ((bcell b).1 _ _ (by omega)).trans k2
        replace k3 := ((bcell b).1 _ _ (by omega)).trans k3
        replace HX := Bx.mk (HX.out.below b)
        replace HY := Bx.mk (HY.out.below b)
        replace hz := Nat.le_trans hz b.size
        replace bw := bw.trans (b.mono bw.size)
        clear b
        clear h1
        have cr0 := R0.at_ (i := 0) rfl
        have cr1 := R0.at_ (i := 1) rfl
        have fr0 := R0.frozen 0
        have fr1 := R0.frozen 1
        have cs0 := S0.at_ (i := 0) rfl
        have cs1 := S0.at_ (i := 1) rfl
        have fs0 := S0.frozen 0
        have fs1 := S0.frozen 1
        have RF := Bx.mk ((((R0.set 0 (.int .i64 0)).set 1 (.slice none 0 0)).setAt (g' := w.heap.size + 1 + 1 + 1) (i := 0) (.int .i64 0) (by omega)).setAt (g' := w.heap.size + 1 + 1 + 1) (i := 1) (.slice none 0 0) (by omega))
        have SF := Bx.mk ((((S0.setAt (g' := w.heap.size + 1 + 1) (i := 0) (.int .i64 0) (by omega)).setAt (g' := w.heap.size + 1 + 1) (i := 1) (.slice none 0 0) (by omega)).set 0 (.int .i64 0)).set 1 (.slice none 0 0))
        have BF := Bx.mk ((((bw.setCell (p := ⟨w.heap.size + 1 + 1, 0, none⟩) (show w.heap.size ≤ w.heap.size + 1 + 1 by omega) (.int .i64 0)).setCell (p := ⟨w.heap.size + 1 + 1, 1, none⟩) (show w.heap.size ≤ w.heap.size + 1 + 1 by omega) (.slice none 0 0)).setCell (p := ⟨w.heap.size + 1 + 1 + 1, 0, none⟩) (show w.heap.size ≤ w.heap.size + 1 + 1 + 1 by omega) (.int .i64 0)).setCell (p := ⟨w.heap.size + 1 + 1 + 1, 1, none⟩) (show w.heap.size ≤ w.heap.size + 1 + 1 + 1 by omega) (.slice none 0 0))
        clear R0 S0
        go_wp2_with fail
        refine bodyPost_ret (v := .tuple #[.agg #[.int .i64 0, .slice none 0 0], .agg #[.int .i64 0, .slice none 0 0], .bool false]) (by simp [results, Try.results6, go_sem, RF.out.at_ (i := 0) rfl, RF.out.at_ (i := 1) rfl, SF.out.at_ (i := 0) rfl, SF.out.at_ (i := 1) rfl]) rfl (GivesRR.no HNO.out BF.out)
end Go.Proofs.Ytgfdmjhdfddopaa
