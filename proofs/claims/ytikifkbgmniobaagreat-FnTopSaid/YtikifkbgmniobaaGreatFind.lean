/- How many partners the reference's search finds. -/
import Derived.Test.YtikifkbgmniobaaGreatPtz
import Derived.Test.YtikifkbgmniobaaGreatCms
import Derived.Test.YtikifkbgmniobaaGreatTls
import Derived.Test.YtikifkbgmniobaaGreatStepLaw
import Derived.Test.YtikifkbgmniobaaGreatRts
import Derived.Deep.RegionHeld3
import Derived.Deep.DeepCutAuto
import Derived.Deep.AppendLies
import Derived.Deep.QuietTactic
import Derived.BigQuiet
namespace Go.Proofs.YtikifkbgmniobaaGreat
open Go.RowKit
set_option maxRecDepth 20000

theorem step_appNil {ops : Array Oper} {o : Oper} {a : Act} {K : Act → World → Prop} {Q : Exit → Act → World → Prop} {E : Prop} {w : World} (hgd : o.guard = none) (s x : Operand)
    (ho : o.op = .call { callee := .builtin .append, args := #[s, x], argTypes := #[24, 24] })
    (base : Nat) (v : Value) (xs : List Int) (hs : a.eval s = v) (hown : Row w base v xs) (hx : a.eval x = .slice none 0 0)
    (h : K (a.put o.dst v) w) :
    if Region.wanted o (yielded ops a.tmps) = true then Oper.wp Tryz.prog o a w K Q else E := by
  have hw : Region.wanted o (yielded ops a.tmps) = true := by simp [Region.wanted, hgd]
  rw [if_pos hw]
  obtain ⟨i0, hi0, hz0, hz1, hz2⟩ := info_parts info_int
  have hrun := run_append_owned_none (P := Tryz.prog) (w := w) base 24 o.type 3 i0 1 Tryz.underlying24 hi0 v xs.length (ints xs) hown
  unfold Oper.wp
  simp [execOp, ho, resolve, invoke, builtin, hs, hx, hrun, Result.andThen]
  exact h
theorem io_off {w : World} {base c g g' i : Nat} {xs : List Int} {v : Value} (h : IO w base (some ⟨g, 0, none⟩) c xs) (hne : g ≠ g') : IO (w.setCell ⟨g', i, none⟩ v) base (some ⟨g, 0, none⟩) c xs := by
  refine ⟨h.1, h.2.1, ?_⟩
  rcases h.2.2 with ⟨e, _⟩ | ⟨g2, cur, e, hg, hh, r⟩
  · cases e
  · injection e with e; injection e with e
    subst e
    exact .inr ⟨g, cur, rfl, hg, (Below.heap_setCell w ⟨g', i, none⟩ v g (by intro e; simp at e; omega)).trans hh, r⟩
theorem io_two {w : World} {base c g : Nat} {A : Option Addr} {xs : List Int} (h : IO w base A c xs) (hne : ∀ x, A = some x → x.block ≠ g) (u v : Value) : IO ((w.setCell ⟨g, 0, none⟩ u).setCell ⟨g, 1, none⟩ v) base A c xs := by
  cases A with
  | none => exact ⟨h.1, h.2.1, .inl ⟨rfl, by rcases h.2.2 with ⟨_, e⟩ | ⟨_, _, e, _⟩; exact e; cases e⟩⟩
  | some x =>
    rcases h.2.2 with ⟨e, _⟩ | ⟨g', cur, e, _⟩
    · cases e
    · injection e with e
      subst e
      have := hne _ rfl
      exact io_off (io_off h this) this
theorem io_alloc {w : World} {base c : Nat} {A : Option Addr} {xs : List Int} (h : IO w base A c xs) (o : Obj) : IO (w.alloc o) base A c xs := h.below (below_alloc _ _) (Nat.le_refl _)
theorem own_blk (A : Option Addr) (n c : Nat) : (Value.slice A n c).ownBlock = A.map (·.block) := by cases A <;> rfl
theorem Only.then {a b c : World} {A B : Option Addr} (h : Only a b A) (k : Only b c B) (hB : ∀ y, B = some y → A.map (·.block) = some y.block ∨ a.heap.size ≤ y.block) : Only a c A :=
  ⟨k.os.trans h.os, k.tape.trans h.tape, k.output.trans h.output, Nat.le_trans h.size k.size, fun i hi hn => by
    rw [k.block i (Nat.lt_of_lt_of_le hi h.size) (fun e => ?_)]
    · exact h.block i hi hn
    · cases B with
      | none => cases e
      | some y =>
        have e' : i = y.block := by injection e
        rcases hB y rfl with h1 | h1
        · exact hn (by rw [h1, e'])
        · omega⟩
def GivesFd (w : World) (base : Nat) (AV : Option Addr) (q : Nat) (e : Ending) (w' : World) : Prop := ∃ AV' cV' vs', e = .returned (.slice AV' q cV') ∧ w'.ownsRow base 26 2 (.slice AV' q cV') q vs' ∧ Only w w' AV ∧ ∀ y, AV' = some y → AV.map (·.block) = some y.block ∨ w.heap.size ≤ y.block
theorem wpList_appGL {ops : Array Oper} {rest : List Oper} {o : Oper} {a : Act} {Q : Exit → Act → World → Prop} {w : World} (T e size bytes : Nat) (z : Value) (hT : Tryz.prog.underlying T = some (.slice e))
    (hinfo : (Tryz.prog.info? e).map (fun i => (i.zero, i.size, i.bytes)) = some (some z, size, bytes)) (hzs : z.cells.size = size) (hsz : 0 < size) (hby : bytes ≤ 100) (hgd : o.guard = none) (s x : Operand)
    (ho : o.op = .call { callee := .builtin .append, args := #[s, x], argTypes := #[T, T] })
    (base : Nat) (v : Value) (n : Nat) (xs news : List Value) (hs : a.eval s = v) (hx : a.eval x = .slice (some ⟨w.heap.size, 0, none⟩) 1 1) (hnl : news.length = size) (h1 : ∀ u ∈ news, u.oneCell' = true)
    (hown : w.ownsRow base e size v n xs) (hl : n ≤ 1000000000) (hbase : base ≤ w.heap.size)
    (h : ∀ g cap w', w'.ownsRow base e size (.slice (some ⟨g, 0, none⟩) (n + 1) cap) (n + 1) (xs ++ news) → w.grownBy w' v.ownBlock → (v.ownBlock = some g ∨ w.heap.size ≤ g) → wpList Tryz.prog ops Q rest (a.put o.dst (.slice (some ⟨g, 0, none⟩) (n + 1) cap)) w') :
    wpList Tryz.prog ops Q (o :: rest) a (w.alloc (.cells news.toArray e)) := by
  obtain ⟨i0, hi0, hz0, hz1, hz2⟩ := info_parts hinfo
  refine wpList_append_lies _ hgd s x T ho base e i0 z size bytes hT hi0 hz0 hz1 hz2 hzs hsz v n xs hs (World.ownsRow.alloc hown _)
    ⟨w.heap.size, 0, none⟩ 1 1 news hx (by rw [hnl]; omega) ?_ h1 (by decide) (by unfold maxLen; omega) ?_ (by simp; omega) _ rfl ?_
  · intro j u hj
    have hadd : (⟨w.heap.size, 0, none⟩ : Addr).add j = ⟨w.heap.size, j, none⟩ := by unfold Addr.add; split <;> simp_all
    rw [hadd, World.cell?_alloc_new]
    simpa using hj
  · calc (n + 1) * bytes ≤ (1000000000 + 1) * 100 := Nat.mul_le_mul (by omega) hby
      _ ≤ 140737488355328 := by omega
  · intro g cap w' h1 h2 h3 _
    exact h g cap w' h1 ⟨h2.os, h2.tape, h2.output, Nat.le_trans (by simp) h2.size, fun k hk hne => (h2.block k (by simp; omega) hne).trans (heap_alloc_old w _ hk)⟩ (h3.imp id fun e => by rw [e]; simp)
theorem ptD_le (n : Nat) (xs : List Int) : ∀ m hi, ptD n xs m hi ≤ 2 ^ m := by
  intro m
  induction m with
  | zero => intro hi; simp only [ptD]; split <;> simp
  | succ m ih =>
    intro hi
    have h1 := ih hi
    have h2 := ih (hi + 2 ^ m)
    have h3 := Nat.two_pow_pos m
    rw [Nat.pow_succ]
    simp only [ptD]
    split
    · omega
    · split
      · omega
      · split <;> split <;> omega
theorem drct_le {n : Nat} {xs ys : List Int} (hx : rhOk n xs = true) (hd : drct n xs ys = true) : xs.length * ys.length ≤ n := by
  unfold drct at hd
  rw [List.all_eq_true] at hd
  have hn := (rhOk_iff.1 hx).1
  have h1 := le_sum1 (l := sumC n xs ys) (fun x hx => (inB_iff.1 (hd x hx)).2)
  rw [sumC_sum (by omega), sumC_len, Int.toNat_natCast] at h1
  omega
set_option maxHeartbeats 4000000 in
set_option maxRecDepth 20000 in
theorem l09Find_full (n : Nat) (AX : Option Addr) (cX : Nat) (xs S : List Int) (pi : Int) (h12 : n ≤ 12) (_hxl : xs.length ≤ 24) (_hSl : S.length ≤ 24) (hl : xs.length * S.length = n) (A : Option Addr) (c : Nat) (AV : Option Addr) (N cV : Nat) (vs : List Value) (base : Nat) (w : World)
    (hx : IR w AX xs) (hy : IR w A S) (hown : w.ownsRow base 26 2 (.slice AV N cV) N vs) (hb : base ≤ w.heap.size) (hN : N ≤ 100000) (hdx : ∀ x y, AX = some x → AV = some y → x.block ≠ y.block) (hdy : ∀ x y, A = some x → AV = some y → x.block ≠ y.block) :
    Calls Tryz.prog 70 #[.agg #[.int .i64 n, .slice AX xs.length cX], .agg #[.int .i64 n, .slice A S.length c], .slice AV N cV, .int .i64 pi, .bool false] w (GivesFd w base AV (N + 1)) := by
  have hmi : (xs.length : Int) * (S.length : Int) = (n : Int) := by rw [← hl]; simp
  have hwm : IntKind.i64.wrap ((xs.length : Int) * (S.length : Int)) = (n : Int) := by rw [hmi]; exact IntWalk.i64_in _ (by omega)
  have hwn : IntKind.i64.wrap (n : Int) = (n : Int) := IntWalk.i64_in _ (by omega)
  have hnn : (((n : Int) == (n : Int))) = true := by simp
  clear hl
  obtain ⟨W0, hW0⟩ : ∃ W0, W0 = (w.alloc (.cells #[.int .i64 n, .slice AX xs.length cX] 26)).alloc (.cells #[.int .i64 n, .slice A S.length c] 26) := ⟨_, rfl⟩
  have bw : Below w.heap.size w W0 := by rw [hW0]; exact (below_alloc _ _).alloc (by simp) _
  have hz : w.heap.size + 2 ≤ W0.heap.size := by rw [hW0]; simp
  have k0 : W0.cell? ⟨w.heap.size, 0, none⟩ = some (.int .i64 n) := by rw [hW0]; simp [go_sem]
  have kx1 : W0.cell? ⟨w.heap.size, 1, none⟩ = some (.slice AX xs.length cX) := by rw [hW0]; simp [go_sem]
  have kb0 : W0.cell? ⟨w.heap.size + 1, 0, none⟩ = some (.int .i64 n) := by rw [hW0]; simp [go_sem]
  have k1 : W0.cell? ⟨w.heap.size + 1, 1, none⟩ = some (.slice A S.length c) := by rw [hW0]; simp [go_sem]
  have HX := Bx.mk (hx.below bw)
  have HXS := Bx.mk (hy.below bw)
  have HOW := Bx.mk (own_below hown bw (Nat.le_refl _))
  have hAVl : ∀ y, AV = some y → y.block < w.heap.size := by
    intro y hy
    rcases hown.2 with ⟨e1, _⟩ | ⟨g, cap, cur, e1, _, hh, _⟩
    · injection e1 with e1; rw [hy] at e1; cases e1
    · injection e1 with e1; rw [hy] at e1; injection e1 with e1; rw [e1]; exact heap_lt hh
  have HAV := Bx.mk hAVl
  have HD1 := Bx.mk hdx
  have HD2 := Bx.mk hdy
  clear hx hy hown hAVl hdx hdy
  go_enter Tryz.func70, Tryz.ntmps70
  go_upto_region 4 with (fail)
  rw [← hW0]
  clear hW0
  go_wp2_with (at_builtin; go_must (refine wpList_appGL 33 26 2 32 (.agg #[.int .i64 0, .slice none 0 0]) Tryz.underlying33 info_rh rfl (by decide) (by decide) rfl _ _ rfl base (.slice AV N cV) N vs [.int .i64 n, .slice A S.length c] rfl rfl rfl (by intro u hu; simp at hu; rcases hu with rfl | rfl <;> rfl) (by exact HOW.out) (by omega) (by omega) ?_); intro g1 cap1 w6 hown1 hg1 hat1)
  have R := Bx.mk (And.intro hown1 (And.intro hg1 hat1))
  clear hown1 hg1 hat1
  go_wp2_with fail
  go_ret
  obtain ⟨r1, r2, r3⟩ := R.out
  rw [own_blk] at r2 r3
  exact ⟨some ⟨g1, 0, none⟩, cap1, _, rfl, r1, (((Only.refl w AV).trans (Only.of_below AV (bw))).trans r2), fun y hy => by injection hy with hy; subst hy; exact r3.imp id fun h => by simp; omega⟩
set_option maxHeartbeats 4000000 in
set_option maxRecDepth 20000 in
theorem l09Find_prune (n : Nat) (AX : Option Addr) (cX : Nat) (xs S : List Int) (p r : Nat) (h12 : n ≤ 12) (hk : 1 ≤ xs.length) (hxl : xs.length ≤ 24) (hSl : S.length ≤ 24) (hl : xs.length * S.length ≠ n) (hpr : p + r = n) (hlt : S.length + r < n / xs.length) (A : Option Addr) (c : Nat) (AV : Option Addr) (N cV : Nat) (vs : List Value) (base : Nat) (w : World)
    (hx : IR w AX xs) (hy : IR w A S) (hown : w.ownsRow base 26 2 (.slice AV N cV) N vs) (hdx : ∀ x y, AX = some x → AV = some y → x.block ≠ y.block) (hdy : ∀ x y, A = some x → AV = some y → x.block ≠ y.block) :
    Calls Tryz.prog 70 #[.agg #[.int .i64 n, .slice AX xs.length cX], .agg #[.int .i64 n, .slice A S.length c], .slice AV N cV, .int .i64 p, .bool false] w (GivesFd w base AV (N + 0)) := by
  obtain ⟨m1, hm1⟩ : ∃ m1 : Nat, m1 = xs.length * S.length := ⟨_, rfl⟩
  have hm1b : m1 ≤ 576 := by rw [hm1]; have := Nat.mul_le_mul hxl hSl; omega
  have hmi : (xs.length : Int) * (S.length : Int) = (m1 : Int) := by rw [hm1]; simp
  have hwm : IntKind.i64.wrap ((xs.length : Int) * (S.length : Int)) = (m1 : Int) := by rw [hmi]; exact IntWalk.i64_in _ (by omega)
  have hwn : IntKind.i64.wrap (m1 : Int) = (m1 : Int) := IntWalk.i64_in _ (by omega)
  have hnn : (((m1 : Int) == (n : Int))) = false := by rw [beq_eq_false_iff_ne]; omega
  obtain ⟨q, hq⟩ : ∃ q : Nat, q = n / xs.length := ⟨_, rfl⟩
  have hqd : (n : Int).tdiv (xs.length : Int) = (q : Int) := by rw [hq]; exact (Int.ofNat_tdiv n xs.length).symm
  have hqb : q ≤ 12 := by rw [hq]; exact Nat.le_trans (Nat.div_le_self _ _) h12
  have hwq : IntKind.i64.wrap (q : Int) = (q : Int) := IntWalk.i64_in _ (by omega)
  have hw1 : IntKind.i64.wrap ((S.length : Int) + (n : Int)) = (S.length : Int) + (n : Int) := IntWalk.i64_in _ (by omega)
  have hw2 : IntKind.i64.wrap ((S.length : Int) + (n : Int) - (p : Int)) = (S.length : Int) + (n : Int) - (p : Int) := IntWalk.i64_in _ (by omega)
  have hltq : (S.length : Int) + (n : Int) - (p : Int) < (q : Int) := by rw [hq]; omega
  have hxn0 : ¬ xs.length = 0 := by omega
  have hxi0 : ¬ (xs.length : Int) = 0 := by omega
  have hxe : xs ≠ [] := List.ne_nil_of_length_pos (by omega)
  clear hl hm1 hq hlt
  obtain ⟨W0, hW0⟩ : ∃ W0, W0 = (w.alloc (.cells #[.int .i64 n, .slice AX xs.length cX] 26)).alloc (.cells #[.int .i64 n, .slice A S.length c] 26) := ⟨_, rfl⟩
  have bw : Below w.heap.size w W0 := by rw [hW0]; exact (below_alloc _ _).alloc (by simp) _
  have hz : w.heap.size + 2 ≤ W0.heap.size := by rw [hW0]; simp
  have k0 : W0.cell? ⟨w.heap.size, 0, none⟩ = some (.int .i64 n) := by rw [hW0]; simp [go_sem]
  have kx1 : W0.cell? ⟨w.heap.size, 1, none⟩ = some (.slice AX xs.length cX) := by rw [hW0]; simp [go_sem]
  have kb0 : W0.cell? ⟨w.heap.size + 1, 0, none⟩ = some (.int .i64 n) := by rw [hW0]; simp [go_sem]
  have k1 : W0.cell? ⟨w.heap.size + 1, 1, none⟩ = some (.slice A S.length c) := by rw [hW0]; simp [go_sem]
  have HX := Bx.mk (hx.below bw)
  have HXS := Bx.mk (hy.below bw)
  have HOW := Bx.mk (own_below hown bw (Nat.le_refl _))
  have hAVl : ∀ y, AV = some y → y.block < w.heap.size := by
    intro y hy
    rcases hown.2 with ⟨e1, _⟩ | ⟨g, cap, cur, e1, _, hh, _⟩
    · injection e1 with e1; rw [hy] at e1; cases e1
    · injection e1 with e1; rw [hy] at e1; injection e1 with e1; rw [e1]; exact heap_lt hh
  have HAV := Bx.mk hAVl
  have HD1 := Bx.mk hdx
  have HD2 := Bx.mk hdy
  clear hx hy hown hAVl hdx hdy
  go_enter Tryz.func70, Tryz.ntmps70
  go_upto_region 5 with (fail)
  rw [← hW0]
  clear hW0
  go_quiet (fail)
  go_wp2_with fail
  go_ret
  refine ⟨AV, cV, vs, rfl, HOW.out, ((Only.of_below AV bw).drewN _), fun y hy => .inl (by rw [hy]; rfl)⟩
end Go.Proofs.YtikifkbgmniobaaGreat
