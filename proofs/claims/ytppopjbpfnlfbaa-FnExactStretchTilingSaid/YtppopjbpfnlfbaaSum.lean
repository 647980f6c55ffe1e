/- The sum of two rhythms; tilings. -/
import Derived.Test.YtppopjbpfnlfbaaBtw
import Derived.Test.YtppopjbpfnlfbaaSel
import Derived.Test.YtppopjbpfnlfbaaBas
namespace Go.Proofs.Ytppopjbpfnlfbaa
open Go.RowKit

theorem Only.cellAt {w w' : World} {g b i : Nat} (o : Only w w' (some ⟨g, 0, none⟩)) (hb : b < w.heap.size) (hne : b ≠ g) : w'.cell? ⟨b, i, none⟩ = w.cell? ⟨b, i, none⟩ :=
  World.cell?_of_block (w := w) (o.block b hb (by intro e; simp at e; omega))
theorem IR.onlyAt {w w' : World} {g : Nat} {A : Option Addr} {xs : List Int} {lo hi : Nat} (h : RB lo hi w A xs) (o : Only w w' (some ⟨g, 0, none⟩)) (hd : hi ≤ g ∨ g < lo) : IR w' A xs := by
  by_cases h0 : 0 < xs.length
  · exact h.1.only o fun a b ea eb => by have := h.2 h0 a ea; injection eb with eb; subst eb; simp; omega
  · exact ⟨h.1.1, fun h1 => absurd h1 h0⟩
theorem Row.onlyAt {w w' : World} {base g : Nat} {v : Value} {xs : List Int} (h : Row w base v xs) (o : Only w w' (some ⟨g, 0, none⟩)) (hg : g < base) : Row w' base v xs := by
  refine ⟨h.1, ?_⟩
  rcases h.2 with h' | ⟨g', cap, cur, e, hg', hh, r⟩
  · exact .inl h'
  · exact .inr ⟨g', cap, cur, e, hg', (o.block g' (heap_lt hh) (by intro e; simp at e; omega)).trans hh, r⟩
theorem Row.io' {w : World} {base n c : Nat} {A : Option Addr} {xs : List Int} (h : Row w base (.slice A n c) xs) (_hn : n = xs.length) (hl : xs.length ≤ 17592186044415) : IO w base A c xs := by
  obtain ⟨A1, c1, e, hio⟩ := h.io hl
  injection e with e1 e2 e3
  subst e1 e3
  exact hio
theorem Only.after {a b c : World} {A : Option Addr} (h : Only a b A) (k : Below a.heap.size b c) : Only a c A :=
  ⟨k.os.trans h.os, k.tape.trans h.tape, k.output.trans h.output, Nat.le_trans h.size k.size, fun i hi hn => (k.block i hi).trans (h.block i hi hn)⟩
theorem Blk.onlyAt {w w' : World} {g g' : Nat} {t : TypeId} {cs : Array Value} (h : Blk w g t cs) (o : Only w w' (some ⟨g', 0, none⟩)) (hne : g ≠ g') : Blk w' g t cs :=
  (o.block g h.lt (by intro e; simp at e; omega)).trans h
theorem Blk.at_ {w : World} {g : Nat} {t : TypeId} {cs : Array Value} (h : Blk w g t cs) {i : Nat} {v : Value} (hv : cs[i]? = some v) : w.cell? ⟨g, i, none⟩ = some v := (h.cell i).trans hv
def sumP (L : List Int) (p : Int) : Bool := decide (0 < L[p.toNat]?.getD 0)
/-- the beats of the sum -/
def sumL (s : Int) (xs ys : List Int) : List Int := selTo (sumP (sumC s xs ys)) s.toNat
/-- what a function that makes a rhythm hands back -/
def GivesRh (w : World) (s : Int) (xs : List Int) (e : Ending) (w' : World) : Prop := ∃ A c, e = .returned (.agg #[.int .i64 s, .slice A xs.length c]) ∧ IO w' w.heap.size A c xs ∧ Below w.heap.size w w'
set_option maxHeartbeats 1000000 in
theorem sum_any (s : Int) (A B : Option Addr) (c d : Nat) (xs ys : List Int) (w : World) (hxo : rhOk s xs = true) (hyo : rhOk s ys = true) (hx : IR w A xs) (hy : IR w B ys) :
    Calls Try.prog 25 #[.agg #[.int .i64 s, .slice A xs.length c], .agg #[.int .i64 s, .slice B ys.length d]] w (GivesRh w s (sumL s xs ys)) := by
  have H1 := Bx.mk hxo
  have H2 := Bx.mk hyo
  have hln : Bx ((sumC s xs ys).length = s.toNat) := ⟨sumC_len _ _ _⟩
  obtain ⟨⟨hs1, hs2⟩, _, _⟩ := rhOk_iff.1 hxo
  clear hxo hyo
  obtain ⟨W0, hW0⟩ : ∃ W0, W0 = (((w.alloc (.cells #[.int .i64 s, .slice A xs.length c] 26)).alloc (.cells #[.int .i64 s, .slice B ys.length d] 26)).alloc (.cells #[.int .i64 0, .slice none 0 0] 26)).alloc (.cells #[.int .i64 s, .slice none 0 0] 26) := ⟨_, rfl⟩
  have bw : Below w.heap.size w W0 := by rw [hW0]; exact (((below_alloc _ _).alloc (by simp) _).alloc (by simp <;> omega) _).alloc (by simp <;> omega) _
  have hz : w.heap.size + 4 ≤ W0.heap.size := by rw [hW0]; simp
  have HR0 : Blk W0 (w.heap.size + 1 + 1) 26 #[.int .i64 0, .slice none 0 0] := by rw [hW0]; have := (Blk.new ((w.alloc (.cells #[.int .i64 s, .slice A xs.length c] 26)).alloc (.cells #[.int .i64 s, .slice B ys.length d] 26)) 26 #[.int .i64 0, .slice none 0 0]).alloc (.cells #[.int .i64 s, .slice none 0 0] 26); simpa using this
  have HG0 : Blk W0 (w.heap.size + 1 + 1 + 1) 26 #[.int .i64 s, .slice none 0 0] := by rw [hW0]; have := Blk.new (((w.alloc (.cells #[.int .i64 s, .slice A xs.length c] 26)).alloc (.cells #[.int .i64 s, .slice B ys.length d] 26)).alloc (.cells #[.int .i64 0, .slice none 0 0] 26)) 26 #[.int .i64 s, .slice none 0 0]; simpa using this
  have HX := Bx.mk (hx.below bw)
  have HY := Bx.mk (hy.below bw)
  clear hx hy
  go_enter Try.func25, Try.ntmps25
  go_wp2_with fail
  rw [← hW0]
  clear hW0
  refine (sumCounts_any _ _ _ _ _ _ _ _ H1.out H2.out (by exact HX.out) (by exact HY.out)).mono ?_
  rintro e w1 ⟨A2, c2, rfl, io, b⟩
  replace HR0 := HR0.below b (by omega)
  replace HG0 := HG0.below b (by omega)
  have bw1 := bw.trans (b.mono bw.size)
  have hz1 := b.size
  have HI := Bx.mk (OB.of io (Nat.le_refl _)).rb
  obtain ⟨g, hg⟩ : ∃ g, g = w.heap.size + 1 + 1 + 1 := ⟨_, rfl⟩
  obtain ⟨gr, hgr⟩ : ∃ gr, gr = w.heap.size + 1 + 1 := ⟨_, rfl⟩
  obtain ⟨L, hL⟩ : ∃ L, L = sumC s xs ys := ⟨_, rfl⟩
  have HS : Bx (sumL s xs ys = selTo (sumP L) s.toNat) := ⟨by rw [hL]; rfl⟩
  have hll : (L.length : Int) = s := by rw [hL, hln.out]; omega
  rw [← hL] at HI
  rw [← hL]
  clear hL b io hln
  rw [← hg] at HG0
  rw [← hgr] at HR0
  have hg1 : W0.heap.size ≤ w1.heap.size := hz1
  have hg2 : g < W0.heap.size := by omega
  have hg3 : gr < g := by omega
  have hg4 : w.heap.size ≤ gr := by omega
  go_wp2_with fail
  rw [← hg, ← hgr]
  clear hg hgr
  go_loopw [15] (fun i wr => ∃ (k : Nat) (v : Value), (k : Int) ≤ s ∧ i = .int .i64 k ∧ Blk wr g 26 #[.int .i64 s, v] ∧ Row wr w1.heap.size v (selTo (sumP L) k) ∧ Only w1 wr (some ⟨g, 0, none⟩)) (fun i _ => (s - intOf i).toNat)
  case atStart => exact ⟨0, _, by omega, rfl, HG0, Row.nil _ _, Only.refl _ _⟩
  case round =>
    obtain ⟨k, v, hk, rfl, hG, hrow, ho⟩ := hrel
    clear HG0
    obtain ⟨A', c', rfl⟩ := hrow.slice
    have hlen := selTo_len (sumP L) k
    have HO := Bx.mk hrow
    have HN := Bx.mk ho
    have HR := Bx.mk (HR0.onlyAt ho (by omega))
    have hi := IR.onlyAt HI.out ho (by omega)
    have hzr := ho.size
    have cg0 := hG.at_ (i := 0) rfl
    have cg1 := hG.at_ (i := 1) rfl
    have fg0 := hG.frozen 0
    have fg1 := hG.frozen 1
    have HG := Bx.mk hG
    clear hrow ho hG
    by_cases hlt : (k : Int) < s
    · obtain ⟨b, o, x, rfl, hb, c1, H3⟩ := hi.one (k := k) (by omega)
      have H4 := Bx.mk H3.out
      clear H3
      by_cases hp : 0 < x
      · have HH := Bx.mk (selTo_hit (p := sumP L) (k := k) (by unfold sumP; rw [Int.toNat_natCast, H4.out]; simpa using hp))
        go_wp2_with (at_builtin; go_must (refine wpList_app1 rfl _ _ rfl w1.heap.size _ (selTo (sumP L) k) (k : Int) rfl rfl (by exact HO.out) (by omega) (by exact hzr) ?_); intro v1 w4 hown1 hb1; have hG4 := HG.out.below hb1 (by omega); have cq1 := hG4.at_ (i := 1) rfl; have fq1 := hG4.frozen 1; obtain ⟨A5, c5, rfl⟩ := hown1.slice; obtain ⟨n5, hn5⟩ : ∃ n5, n5 = (selTo (sumP L) k ++ [(k : Int)]).length := ⟨_, rfl⟩; rw [← hn5] at hown1; rw [← hn5]; clear hn5)
        have HG5 := Bx.mk (hG4.set 1 (.slice A5 n5 c5))
        have hoo : Only w1 (w4.setCell ⟨g, 1, none⟩ (.slice A5 n5 c5)) (some ⟨g, 0, none⟩) := (HN.out.after hb1).set _
        have HN5 := Bx.mk hoo
        have HO5 := Bx.mk (hown1.onlyAt ((Only.refl w4 (some ⟨g, 0, none⟩)).set (i := 1) (.slice A5 n5 c5)) (by omega))
        clear hoo hown1 hb1 hG4
        go_wp2_with fail
        go_roundw
        case rel => exact ⟨k + 1, _, by omega, by go_num, HG5.out, by rw [HH.out]; exact HO5.out, HN5.out⟩
        case measure => simp [intOf]; omega
      · have HH := Bx.mk (selTo_miss (p := sumP L) (k := k) (by unfold sumP; rw [Int.toNat_natCast, H4.out]; simpa using hp))
        have hp2 : x ≤ 0 := by omega
        go_wp2_with fail
        go_roundw
        case rel => exact ⟨k + 1, _, by omega, by go_num, HG.out, by rw [HH.out]; exact HO.out, HN.out⟩
        case measure => simp [intOf]; omega
    · have hks : k = s.toNat := by omega
      have HS2 : Bx (sumL s xs ys = selTo (sumP L) k) := ⟨by rw [HS.out, hks]⟩
      clear hks
      have cr0 := HR.out.at_ (i := 0) rfl
      have cr1 := HR.out.at_ (i := 1) rfl
      have fr0 := HR.out.frozen 0
      have fr1 := HR.out.frozen 1
      have hln2 : (selTo (sumP L) k).length ≤ 17592186044415 := by omega
      have HF := Bx.mk ((HR.out.set 0 (.int .i64 s)).set 1 (.slice A' (selTo (sumP L) k).length c'))
      have HIO := Bx.mk (((HO.out.io' rfl hln2).setLow (p := ⟨gr, 0, none⟩) (show gr < w1.heap.size by omega) (.int .i64 s)).setLow (p := ⟨gr, 1, none⟩) (show gr < w1.heap.size by omega) (.slice A' (selTo (sumP L) k).length c'))
      have hbl : Below w.heap.size w wr := bw1.trans (HN.out.below bw1.size (by intro x hx; injection hx with hx; subst hx; simp; omega))
      have HBL := Bx.mk ((hbl.setCell (p := ⟨gr, 0, none⟩) hg4 (.int .i64 s)).setCell (p := ⟨gr, 1, none⟩) hg4 (.slice A' (selTo (sumP L) k).length c'))
      have hwm : w.heap.size ≤ w1.heap.size := by omega
      clear hbl
      go_wp2_with fail
      refine bodyPost_ret (v := .agg #[.int .i64 s, .slice A' (selTo (sumP L) k).length c']) (by simp [results, Try.results25, go_sem, HF.out.at_ (i := 0) rfl, HF.out.at_ (i := 1) rfl]) rfl ⟨A', c', ?_, ?_, HBL.out⟩
      · rw [HS2.out]
      · rw [HS2.out]; exact HIO.out.mono hwm
end Go.Proofs.Ytppopjbpfnlfbaa
