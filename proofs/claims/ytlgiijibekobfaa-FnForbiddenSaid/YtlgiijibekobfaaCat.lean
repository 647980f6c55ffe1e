/- Lists put one behind the other. -/
import Derived.Test.YtlgiijibekobfaaBas
import Derived.Test.YtlgiijibekobfaaRhOf
import Derived.Lib.AppendZeros
namespace Go.Proofs.Ytlgiijibekobfaa
open Go.RowKit

theorem run_append_empty {ty : TypeId} (w : World) (B A : Option Addr) (n cap c : Nat) (hn : n ≤ cap) : (Builtin.append_ #[26, 26] ty #[.slice B n cap, .slice A 0 c]).run Try.prog w = .ok (.slice B n cap) w := by
  obtain ⟨i0, hi0, hz0, hz1, hz2⟩ := info_parts info_int
  have ht : Try.prog.underlying 26 = some (.slice 3) := Try.underlying26
  cases B <;> cases A <;> simp [Builtin.append_, run_underlying ht, sizeOf, typeInfo, hi0, Builtin.lenOf, hn, Builtin.firstCells, storeCells, loadCells, loadCellsFrom]
theorem wpList_appN {ops : Array Oper} {rest : List Oper} {o : Oper} {a : Act} {Q : Exit → Act → World → Prop} {w : World} (hgd : o.guard = none) (s x : Operand)
    (ho : o.op = .call { callee := .builtin .append, args := #[s, x], argTypes := #[26, 26] })
    (base : Nat) (v : Value) (xs ys : List Int) (A : Option Addr) (c : Nat) (hs : a.eval s = v) (hx : a.eval x = .slice A ys.length c) (hy : IR w A ys) (hown : Row w base v xs) (hl : xs.length + ys.length ≤ 1000000000) (hbase : base ≤ w.heap.size)
    (h : ∀ v' w', Row w' base v' (xs ++ ys) → Below base w w' → wpList Try.prog ops Q rest (a.put o.dst v') w') :
    wpList Try.prog ops Q (o :: rest) a w := by
  by_cases h0 : 0 < ys.length
  · obtain ⟨i0, hi0, hz0, hz1, hz2⟩ := info_parts info_int
    obtain ⟨b, p, rfl, hb, hc⟩ := hy.2 h0
    refine wpList_append_own _ hgd s x 26 ho base 3 i0 (.int .i64 0) 1 8 Try.underlying26 hi0 hz0 hz1 hz2 rfl (by decide) v xs.length (ints xs) hs hown
      ⟨b, p, none⟩ ys.length c (ints ys) hx (by simp [ints]) ?_ ?_ (by unfold maxLen; omega) (by omega) hbase ?_
    · intro j u hj
      have hjl : j < ys.length := by
        have := (List.getElem?_eq_some_iff.1 hj).1
        simpa [ints] using this
      have e := hc j hjl
      have hadd : (⟨b, p, none⟩ : Addr).add j = ⟨b, p + j, none⟩ := by unfold Addr.add; split <;> simp_all
      rw [hadd, e]
      rw [ints_get hjl] at hj
      exact hj
    · intro u hu
      simp [ints] at hu
      obtain ⟨z, _, rfl⟩ := hu
      rfl
    · intro v' w' h1 h2 _
      refine h v' w' ?_ ?_
      · unfold Row
        rw [List.length_append, show ints (xs ++ ys) = ints xs ++ ints ys by simp [ints]]
        exact h1
      · refine ⟨h2.os, h2.tape, h2.output, h2.size, fun i hi => h2.block i (by omega) ?_⟩
        intro e
        rcases hown.2 with ⟨e1, _⟩ | ⟨g, cap, cur, e1, hg', _⟩
        · rw [e1] at e; simp [Value.ownBlock] at e
        · rw [e1] at e; simp [Value.ownBlock] at e; omega
  · have hy0 : ys = [] := List.eq_nil_of_length_eq_zero (by omega)
    subst hy0
    have key : ∃ B n cap, v = .slice B n cap ∧ n ≤ cap := by
      rcases hown.2 with ⟨e1, _⟩ | ⟨g, cap, cur, e1, _, _, hn, _⟩
      · exact ⟨none, 0, 0, e1, Nat.le_refl _⟩
      · exact ⟨_, _, _, e1, hn⟩
    obtain ⟨B, n, cap, rfl, hn⟩ := key
    refine Lib.wpList_append_run w hgd s x _ _ ho _ _ hs hx _ w (run_append_empty w B A n cap c hn) ?_
    refine h _ w ?_ (Below.refl _ _)
    rw [List.append_nil]; exact hown
theorem grow_row {w : World} {n : Nat} (hn : n ≤ 1000000) : Row (w.drew.alloc (.cells (Builtin.zeroCells (Value.int .i64 0).cells n ++ Builtin.zeroCells (Value.int .i64 0).cells (grownCap w n 0 3 - n)) 3)) w.heap.size (.slice (some ⟨w.heap.size, 0, none⟩) 0 (grownCap w n 0 3)) [] := by
  have hge := grownCap_ge w n 0 3
  have hle := grownCap_le_maxLen w n 0 3 (by unfold maxLen; omega)
  refine ⟨by simp [ints], .inr ⟨w.heap.size, _, _, rfl, Nat.le_refl _, heap_alloc_new w.drew _, Nat.zero_le _, hle, ?_, by simp [ints]⟩⟩
  simp [Builtin.zeroCells, Value.cells]
  omega
set_option maxHeartbeats 1000000 in
set_option maxRecDepth 20000 in
theorem grow_any (n : Nat) (hn : n ≤ 1000000) (w : World) : Calls Try.prog 97 #[.slice none 0 0, .int .i64 n] w fun e w' => ∃ v, e = .returned v ∧ Row w' w.heap.size v [] ∧ Below w.heap.size w w' := by
  have h1 : ¬ ((n : Int) < 0) := by omega
  by_cases h0 : n = 0
  · subst h0
    go_enter Try.func97, Try.ntmps97
    go_wp2_with fail
    go_ret
    exact ⟨_, rfl, Row.nil _ _, Below.refl _ _⟩
  · have h2 : (n : Int) > 0 := by omega
    obtain ⟨i0, hi0, hz0, hz1, hz2⟩ := info_parts info_int
    have hr : ∀ ty, (Builtin.append_ #[26, 3] ty #[.slice none 0 0, .int .i64 n]).run Try.prog w = _ := fun ty =>
      Lib.run_append_nil_zeros w 26 3 ty 3 i0 (.int .i64 0) .i64 .i64 Try.underlying26 Try.underlying3 hi0 hz0 n (by omega) (by omega) (by omega) (by rw [hz2]; omega)
    have hge := grownCap_ge w n 0 3
    have HR := Bx.mk (grow_row (w := w) hn)
    have HB : Bx (Below w.heap.size w (w.drew.alloc (.cells (Builtin.zeroCells (Value.int .i64 0).cells n ++ Builtin.zeroCells (Value.int .i64 0).cells (grownCap w n 0 3 - n)) 3))) := ⟨((Below.refl _ _).drew).trans (below_alloc w.drew _)⟩
    obtain ⟨G, hG⟩ : ∃ G, G = grownCap w n 0 3 := ⟨_, rfl⟩
    rw [← hG] at hge
    have hle := grownCap_le_maxLen w n 0 3 (by unfold maxLen; omega)
    rw [← hG] at hle
    unfold maxLen at hle
    obtain ⟨W1, hW1⟩ : ∃ W1, W1 = w.drew.alloc (.cells (Builtin.zeroCells (Value.int .i64 0).cells n ++ Builtin.zeroCells (Value.int .i64 0).cells (grownCap w n 0 3 - n)) 3) := ⟨_, rfl⟩
    rw [← hW1, ← hG] at HR
    rw [← hW1] at HB
    have HRun : Bx (∀ ty, (Builtin.append_ #[26, 3] ty #[.slice none 0 0, .int .i64 n]).run Try.prog w = .ok (.slice (some ⟨w.heap.size, 0, none⟩) n G) W1) := ⟨fun ty => by rw [hr, ← hG, hW1, ← hG]⟩
    clear hr hW1 hG h0
    go_enter Try.func97, Try.ntmps97
    go_wp2_with (at_builtin; go_must (refine Lib.wpList_append_run _ rfl _ _ _ _ rfl _ _ rfl rfl _ _ (HRun.out _) ?_))
    go_ret
    exact ⟨_, rfl, HR.out, HB.out⟩
set_option maxHeartbeats 2000000 in
set_option maxRecDepth 20000 in
theorem concat2 (g c0 : Nat) (A B : Option Addr) (c d : Nat) (xs ys : List Int) (w : World) (hg : g < w.heap.size) (k0 : w.cell? ⟨g, 0, none⟩ = some (.slice A xs.length c)) (k1 : w.cell? ⟨g, 1, none⟩ = some (.slice B ys.length d))
    (hx : IR w A xs) (hy : IR w B ys) (hxl : xs.length ≤ 1000) (hyl : ys.length ≤ 1000) :
    Calls Try.prog 65 #[.slice (some ⟨g, 0, none⟩) 2 c0] w (GivesInts w (xs ++ ys)) := by
  have HX := Bx.mk hx
  have HY := Bx.mk hy
  clear hx hy
  go_enter Try.func65, Try.ntmps65
  go_wp2_with fail
  go_loopw [3, 11] (fun s i wr => w = wr ∧ ((i = .int .i64 0 ∧ s = .int .i64 0) ∨ (i = .int .i64 1 ∧ s = .int .i64 (xs.length : Nat)) ∨ (i = .int .i64 2 ∧ s = .int .i64 ((xs.length + ys.length : Nat) : Int)))) (fun _ i _ => 2 - (intOf i).toNat)
  case atStart => exact ⟨rfl, .inl ⟨rfl, rfl⟩⟩
  case round =>
    obtain ⟨rfl, ⟨rfl, rfl⟩ | ⟨rfl, rfl⟩ | ⟨rfl, rfl⟩⟩ := hrel
    · have h1 : ¬ ((0 : Int) + (xs.length : Int) < 0) := by omega
      go_wp2_with fail
      go_roundw
      case rel => exact ⟨trivial, .inr (.inl ⟨by go_num, by go_num⟩)⟩
      case measure => simp [intOf]
    · have h1 : ¬ ((xs.length : Int) + (ys.length : Int) < 0) := by omega
      go_wp2_with fail
      go_roundw
      case rel => exact ⟨trivial, .inr (.inr ⟨by go_num, by go_num⟩)⟩
      case measure => simp [intOf]
    · obtain ⟨m, hm⟩ : ∃ m : Nat, m = xs.length + ys.length := ⟨_, rfl⟩
      rw [← hm]
      have hml : m ≤ 1000000 := by omega
      have HM := Bx.mk hm
      clear hm
      go_wp2_with fail
      refine (grow_any _ hml _).mono ?_
      rintro e w1 ⟨v0, rfl, row, b⟩
      have HR := Bx.mk row
      have k0z := k0
      have k1z := k1
      replace k0 := ((bcell b).1 _ _ hg).trans k0
      replace k1 := ((bcell b).1 _ _ hg).trans k1
      have HX1 := Bx.mk (HX.out.below b)
      have HY1 := Bx.mk (HY.out.below b)
      have HB1 := Bx.mk b
      clear row b
      go_wp2_with fail
      go_loopw [6, 27] (fun v i wr => Below w.heap.size w wr ∧ ((i = .int .i64 0 ∧ Row wr w.heap.size v []) ∨ (i = .int .i64 1 ∧ Row wr w.heap.size v xs) ∨ (i = .int .i64 2 ∧ Row wr w.heap.size v (xs ++ ys)))) (fun _ i _ => 2 - (intOf i).toNat)
      case atStart => exact ⟨HB1.out, .inl ⟨rfl, HR.out⟩⟩
      case round =>
        obtain ⟨b, ⟨rfl, row⟩ | ⟨rfl, row⟩ | ⟨rfl, row⟩⟩ := hrel
        · have HB2 := Bx.mk b
          have HR2 := Bx.mk row
          have hz := b.size
          replace k0 := ((bcell b).1 _ _ hg).trans k0z
          have HX2 := Bx.mk (HX.out.below b)
          clear b row k1
          go_wp2_with (at_builtin; go_must (refine wpList_appN rfl _ _ rfl w.heap.size _ [] xs A c rfl rfl (by exact HX2.out) (by exact HR2.out) (by simp; omega) (by exact hz) ?_); intro v1 w6 hrow hb)
          have HB3 := Bx.mk (HB2.out.trans hb)
          have HR3 := Bx.mk hrow
          clear hb hrow
          go_wp2_with fail
          go_roundw
          case rel => exact ⟨HB3.out, .inr (.inl ⟨by go_num, HR3.out⟩)⟩
          case measure => simp [intOf]
        · have HB2 := Bx.mk b
          have HR2 := Bx.mk row
          have hz := b.size
          replace k1 := ((bcell b).1 _ _ hg).trans k1z
          have HX2 := Bx.mk (HY.out.below b)
          clear b row k0
          go_wp2_with (at_builtin; go_must (refine wpList_appN rfl _ _ rfl w.heap.size _ xs ys B d rfl rfl (by exact HX2.out) (by exact HR2.out) (by omega) (by exact hz) ?_); intro v1 w6 hrow hb)
          have HB3 := Bx.mk (HB2.out.trans hb)
          have HR3 := Bx.mk hrow
          clear hb hrow
          go_wp2_with fail
          go_roundw
          case rel => exact ⟨HB3.out, .inr (.inr ⟨by go_num, HR3.out⟩)⟩
          case measure => simp [intOf]
        · have HB2 := Bx.mk b
          have HR2 := Bx.mk row
          clear b row k0 k1
          go_wp2_with fail
          go_ret
          exact GivesInts.of_row HR2.out (by rw [List.length_append]; omega) HB2.out
end Go.Proofs.Ytlgiijibekobfaa
