/- The text of a rhythm: its bytes, and how the program makes it. -/
import Derived.Test.YtikifkbgmniobaaGreatBas
import Derived.Lib.MakeNoZero
import Derived.Lib.SlBuf
import Derived.Lib.SlBytesConst
import Derived.Laws.BytesArg
import Derived.Deep.DeepCutAuto
import Derived.Deep.RegionHeld3
namespace Go.Proofs.YtikifkbgmniobaaGreat
open Go.RowKit
set_option maxRecDepth 20000

/-- the bytes after k beats -/
def fmTo (n : Nat) (xs : List Int) : Nat → List UInt8
  | 0 => List.replicate n 46
  | k + 1 => (fmTo n xs k).set (xs[k]?.getD 0).toNat 120
theorem fmTo_len (n : Nat) (xs : List Int) (k : Nat) : (fmTo n xs k).length = n := by
  induction k with
  | zero => simp [fmTo]
  | succ k ih => simp [fmTo, ih]
def fmT (n : Nat) (xs : List Int) : ByteArray := ⟨(fmTo n xs xs.length).toArray⟩
/-- a part of the buffer copied behind itself -/
theorem buf_self (w0 wr : World) (h N : Nat) (acc : List UInt8) (q cap : Nat) (t ty e : TypeId) (hu : (Tryz.prog).underlying t = some (.slice e)) (hs : ((Tryz.prog).info? e).map (·.size) = some 1)
    (hb : Lib.Buf w0 wr h N acc) (hq : q = min acc.length (N - acc.length)) (hN : acc.length < N) :
    ∃ wr', (Builtin.copy_ #[t, t] ty #[Lib.tailV h N acc.length, .slice (some ⟨h, 0, none⟩) acc.length cap]).run Tryz.prog wr = .ok (.int .i64 (q : Int)) wr' ∧ Lib.Buf w0 wr' h N (acc ++ acc.take q) := by
  have hql : (acc.take q).length = q := by rw [List.length_take]; omega
  have hne : ¬ N = acc.length := by omega
  have hr := run_copy_cells (P := Tryz.prog) wr t t ty e h acc.length (N - acc.length) (N - acc.length) ⟨h, 0, none⟩ acc.length cap ((acc.take q).map fun x => Value.int .u8 (x.toNat : Int)) hu hs (by rw [List.length_map, hql]; exact hq)
    (fun j u hj => by
      rw [List.getElem?_map] at hj
      obtain ⟨x, hx, rfl⟩ := Option.map_eq_some_iff.1 hj
      have hx2 : acc[j]? = some x := by
        rw [List.getElem?_take] at hx
        split at hx
        · exact hx
        · cases hx
      have := hb.holds j x hx2
      rwa [show (⟨h, 0, none⟩ : Addr).add j = ⟨h, j, none⟩ by unfold Addr.add; split <;> simp_all])
    (fun j hj => by rw [List.length_map, hql] at hj; exact hb.there _ (by omega)) (fun j hj => by rw [List.length_map, hql] at hj; exact hb.free _ (by omega))
    (fun u hu' => by obtain ⟨x, _, rfl⟩ := List.mem_map.1 hu'; rfl)
  rw [List.length_map, hql] at hr
  refine ⟨_, by unfold Lib.tailV; rw [if_neg hne]; exact hr, ?_⟩
  have hin := World.cell?_setCells_in h ((acc.take q).map fun x => Value.int .u8 (x.toNat : Int)) acc.length wr (fun j hj => by rw [List.length_map, hql] at hj; exact hb.there _ (by omega))
  have hout := World.cell?_setCells_out h ((acc.take q).map fun x => Value.int .u8 (x.toNat : Int)) acc.length wr
  refine ⟨?_, ?_, ?_, ?_, by rw [List.length_append, hql]; omega⟩
  · exact Lib.below_setCells h (Nat.le_refl _) _ _ hb.below
  · intro j hj
    by_cases h1 : acc.length ≤ j ∧ j < acc.length + q
    · obtain ⟨d, rfl⟩ : ∃ d, j = acc.length + d := ⟨j - acc.length, by omega⟩
      rw [hin d (by rw [List.length_map, hql]; omega)]
      rfl
    · rw [hout ⟨h, j, none⟩ (fun _ _ => by rw [List.length_map, hql]; show j < _ ∨ _ ≤ j; omega)]
      exact hb.there j hj
  · intro j hj
    rw [World.frozen?_setCells]
    exact hb.free j hj
  · intro j x hx
    by_cases h1 : j < acc.length
    · rw [List.getElem?_append_left h1] at hx
      rw [hout ⟨h, j, none⟩ (fun _ _ => Or.inl h1)]
      exact hb.holds j x hx
    · rw [List.getElem?_append_right (by omega)] at hx
      obtain ⟨d, rfl⟩ : ∃ d, j = acc.length + d := ⟨j - acc.length, by omega⟩
      rw [Nat.add_sub_cancel_left] at hx
      have hd : d < (acc.take q).length := (List.getElem?_eq_some_iff.1 hx).1
      rw [hin d (by rw [List.length_map]; exact hd), List.getElem_map]
      obtain ⟨h', e⟩ := List.getElem?_eq_some_iff.1 hx
      rw [e]
theorem buf_set {w0 wr : World} {h N : Nat} {acc : List UInt8} (hb : Lib.Buf w0 wr h N acc) (p : Nat) (hp : p < acc.length) (x : UInt8) : Lib.Buf w0 (wr.setCell ⟨h, p, none⟩ (.int .u8 (x.toNat : Int))) h N (acc.set p x) := by
  have hc : ∀ j, (wr.setCell ⟨h, p, none⟩ (.int .u8 (x.toNat : Int))).cell? ⟨h, j, none⟩ = if j = p then some (.int .u8 (x.toNat : Int)) else wr.cell? ⟨h, j, none⟩ := fun j => by
    have hin := World.cell?_setCells_in h [Value.int .u8 (x.toNat : Int)] p wr (fun i hi => by
      have hi0 : i = 0 := by simpa using hi
      subst hi0
      exact hb.there _ (by have := hb.fits; omega))
    have hout := World.cell?_setCells_out h [Value.int .u8 (x.toNat : Int)] p wr
    by_cases e : j = p
    · subst e
      rw [if_pos rfl]
      have := hin 0 (by simp)
      simpa [World.setCells] using this
    · rw [if_neg e]
      have := hout ⟨h, j, none⟩ (fun _ _ => by simp; omega)
      simpa [World.setCells] using this
  refine ⟨hb.below.setCell (p := ⟨h, p, none⟩) (Nat.le_refl _) _, fun j hj => ?_, fun j hj => ?_, fun j y hy => ?_, by rw [List.length_set]; exact hb.fits⟩
  · rw [hc]
    split
    · rfl
    · exact hb.there j hj
  · have e : wr.setCells h p [Value.int .u8 (x.toNat : Int)] = wr.setCell ⟨h, p, none⟩ (.int .u8 (x.toNat : Int)) := rfl
    rw [← e, World.frozen?_setCells]
    exact hb.free j hj
  · rw [hc]
    rw [List.getElem?_set] at hy
    by_cases e : j = p
    · subst e
      rw [if_pos rfl, if_pos hp] at hy
      injection hy with hy
      rw [if_pos rfl, hy]
    · rw [if_neg (fun h => e h.symm)] at hy
      rw [if_neg e]
      exact hb.holds j y hy
theorem step_copy {ops : Array Oper} {o : Oper} {a : Act} {K : Act → World → Prop} {Q : Exit → Act → World → Prop} {E : Prop} {w : World} (hgd : o.guard = none) (d s : Operand) (t t' : TypeId)
    (ho : o.op = .call { callee := .builtin .copy, args := #[d, s], argTypes := #[t, t'] }) (v u : Value) (hd : a.eval d = v) (hs : a.eval s = u) {v' : Value} {w' : World}
    (hr : (Builtin.copy_ #[t, t'] o.type #[v, u]).run Tryz.prog w = .ok v' w') (h : K (a.put o.dst v') w') :
    if Region.wanted o (yielded ops a.tmps) = true then Oper.wp Tryz.prog o a w K Q else E := by
  rw [if_pos (by simp [Region.wanted, hgd])]
  exact Lib.wp_copy_run w d s t t' ho v u hd hs hr h
theorem buf_drew {w0 wr : World} {h N : Nat} {acc : List UInt8} (hb : Lib.Buf w0 wr h N acc) : Lib.Buf w0 wr.drew h N acc := ⟨hb.below.drew, hb.there, hb.free, hb.holds, hb.fits⟩
set_option maxHeartbeats 4000000 in
theorem mul64_lit (m : Nat) (h1 : 1 ≤ m) (h : m ≤ 12) (w : World) : Calls Tryz.prog 86 #[.int .u64 1, .int .u64 m] w fun e w' => e = .returned (.tuple #[.int .u64 0, .int .u64 m]) ∧ w = w' := by
  have : m = 1 ∨ m = 2 ∨ m = 3 ∨ m = 4 ∨ m = 5 ∨ m = 6 ∨ m = 7 ∨ m = 8 ∨ m = 9 ∨ m = 10 ∨ m = 11 ∨ m = 12 := by omega
  rcases this with rfl | rfl | rfl | rfl | rfl | rfl | rfl | rfl | rfl | rfl | rfl | rfl <;>
  · go_enter Tryz.func86, Tryz.ntmps86
    go_wp2
    go_ret2
    exact ⟨rfl, rfl⟩
theorem mul_lit (m : Nat) (h1 : 1 ≤ m) (h : m ≤ 12) (w : World) : Calls Tryz.prog 75 #[.int .u64 1, .int .u64 m] w fun e w' => e = .returned (.tuple #[.int .u64 0, .int .u64 m]) ∧ w = w' := by
  go_enter Tryz.func75, Tryz.ntmps75
  go_wp2_with (go_at_call 86; refine (mul64_lit m h1 h _).mono ?_; rintro e w' ⟨rfl, rfl⟩)
  go_ret2
  exact ⟨rfl, rfl⟩
theorem z8 (w : World) : (Go.sizeOf 5).run Tryz.prog w = .ok 1 w := by kernel_rfl
set_option maxHeartbeats 8000000 in
theorem repeat_any (g c n : Nat) (w : World) (h1 : 1 ≤ n) (h12 : n ≤ 12) (k0 : w.cell? ⟨g, 0, none⟩ = some (.int .u8 46)) :
    Calls Tryz.prog 65 #[.slice (some ⟨g, 0, none⟩) 1 c, .int .i64 n] w fun e w' => ∃ h, e = .returned (.slice (some ⟨h, 0, none⟩) n n) ∧ w.heap.size ≤ h ∧ Bx (Lib.Buf w w' h n (List.replicate n 46)) := by
  have t22 := Tryz.underlying22
  have hs5 : ((Tryz.prog).info? 5).map (·.size) = some 1 := by kernel_rfl
  obtain ⟨cs, hrunM, hle, _⟩ := Lib.run_makeNoZero (P := Tryz.prog) w #[3] 22 5 t22 n (by omega)
  have hcall : (callFunc 76 #[.int .i64 (n : Int)]).run Tryz.prog w = .ok (.value (.slice (some ⟨w.heap.size, 0, none⟩) n cs.size)) ((w.alloc (.cells cs 5)).drewN 2) := by
    rw [run_callFunc_extern Tryz.func76 (by kernel_rfl) (by kernel_rfl) (by kernel_rfl) (e := Extern.BytealgMakeNoZero.makeNoZero #[3] #[22]) (by kernel_rfl), hrunM]
    rfl
  clear hrunM
  have i0 : (0 : Int) ≤ (n : Int) := by omega
  have i1 : (n : Int) ≤ (cs.size : Int) := by omega
  have B0 := Lib.Buf.start w cs 5 n 2 hle
  obtain ⟨w1, hr1, B1⟩ := Lib.copy_part (P := Tryz.prog) w _ w.heap.size n [] [46] (.slice (some ⟨g, 0, none⟩) 1 c) 22 3 5 t22 hs5 (Nat.le_refl _) B0 ⟨some ⟨g, 0, none⟩, c, rfl, by simp, fun a ha j x hx => by
    injection ha with ha
    subst ha
    cases j with
    | succ j => simp at hx
    | zero =>
      simp at hx
      subst hx
      exact k0⟩ (by simp; omega)
  rw [List.length_nil, Lib.tailV_zero] at hr1
  rw [List.nil_append] at B1
  obtain ⟨hh, hhe⟩ : ∃ hh, hh = w.heap.size := ⟨_, rfl⟩
  have HB1 : Bx (Lib.Buf w w1 hh n (List.replicate 1 46)) := ⟨by rw [hhe]; exact B1⟩
  have hcz : ((n : Int) == 0) = false := beq_eq_false_iff_ne.2 (by omega)
  have hcn : ¬ (n : Int) < 0 := by omega
  have hcm : ¬ (n : Int) > 8192 := by omega
  rw [← hhe] at hr1 hcall
  have hwh : w.heap.size ≤ hh := by omega
  clear B0 B1 hhe i0
  go_enter Tryz.func65, Tryz.ntmps65
  go_wp2_with (first | (go_at_call 75; refine (mul_lit n h1 h12 _).mono ?_; rintro e w' ⟨rfl, rfl⟩) | (at_builtin; refine Lib.wpList_copy_run _ rfl _ _ 22 22 rfl _ _ rfl rfl hr1 ?_))
  clear hr1 hcall
  go_loopw [10] (fun v wr => ∃ b : Nat, 1 ≤ b ∧ b ≤ n ∧ v = .int .i64 b ∧ Bx (Lib.Buf w wr hh n (List.replicate b 46))) (fun v _ => n - (intOf v).toNat)
  case atStart => exact ⟨1, by omega, h1, rfl, HB1⟩
  case round =>
    clear HB1
    obtain ⟨b, hb1, hbn, rfl, HB⟩ := hrel
    by_cases hlt : b < n
    · have hli : (b : Int) < (n : Int) := by omega
      have hmn : min (b : Int) (n : Int) = (b : Int) := by omega
      obtain ⟨q, hq⟩ : ∃ q, q = min b (n - b) := ⟨_, rfl⟩
      have hsl1 : ∀ W, (Instr.slice 22 (.slice (some ⟨hh, 0, none⟩) n n) (some (.int .i64 (b : Int))) none none).run Tryz.prog W = .ok (Lib.tailV hh n b) W := fun W => Lib.run_slice_tailV W 22 5 t22 z8 _ n b hbn
      obtain ⟨w2, hr2, B2⟩ := buf_self w wr.drew hh n (List.replicate b 46) q n 22 3 5 t22 hs5 (buf_drew HB.out) (by rw [List.length_replicate]; exact hq) (by rw [List.length_replicate]; exact hlt)
      rw [List.length_replicate] at hr2
      have HB2 : Bx (Lib.Buf w w2 hh n (List.replicate (b + q) 46)) := ⟨by
        have : List.replicate b 46 ++ (List.replicate b (46 : UInt8)).take q = List.replicate (b + q) 46 := by
          rw [List.take_replicate, show min q b = q by omega, List.replicate_append_replicate]
        rw [← this]; exact B2⟩
      have hqb : b + q ≤ n := by omega
      have hq1 : 1 ≤ q := by omega
      obtain ⟨v, hv⟩ : ∃ v, v = b + q := ⟨_, rfl⟩
      rw [← hv] at HB2 hqb
      have hbv : b < v := by omega
      have hwv : IntKind.i64.wrap ((b : Int) + (q : Int)) = (v : Int) := by rw [IntWalk.i64_in _ (by omega)]; omega
      clear B2 hq hv
      go_upto_region 20 with (fail)
      go_region_held3 (fun _ => True) (trivial) (refine step_copy (by rfl) _ _ 22 22 (by rfl) _ _ (by rfl) (by rfl) hr2 ?_)
      go_wp2_with fail
      go_roundw
      case rel => exact ⟨v, by omega, hqb, rfl, HB2⟩
      case measure => simp [intOf]; omega
    · have hbe : b = n := by omega
      have hli : ¬ (b : Int) < (n : Int) := by omega
      rw [hbe] at HB
      clear hbe
      go_wp2_with fail
      go_ret
      exact ⟨hh, rfl, hwh, HB⟩
theorem str_nums (l : List UInt8) : strOfNums (l.map fun x => (x.toNat : Int)) = ⟨l.toArray⟩ := by
  unfold strOfNums
  congr 1
  rw [List.map_map]
  congr 1
  have : ((fun n : Int => UInt8.ofNat n.toNat) ∘ fun x : UInt8 => (x.toNat : Int)) = id := by
    funext x
    simp [Function.comp]
  rw [this, List.map_id]
set_option maxHeartbeats 8000000 in
theorem text_any (n : Nat) (A : Option Addr) (c : Nat) (xs : List Int) (w : World) (h12 : n ≤ 12) (hok : rhOk n xs = true) (hx : IR w A xs) :
    Calls Tryz.prog 42 #[.agg #[.int .i64 n, .slice A xs.length c]] w fun e w' => e = .returned (.string (fmT n xs)) ∧ Below w.heap.size w w' := by
  obtain ⟨hn, hb, _⟩ := rhOk_iff.1 hok
  have hll := (rhOk_len hok).1
  obtain ⟨W0, hW0⟩ : ∃ W0, W0 = w.alloc (.cells #[.int .i64 n, .slice A xs.length c] 26) := ⟨_, rfl⟩
  have bw : Below w.heap.size w W0 := by rw [hW0]; exact below_alloc _ _
  have k0 : W0.cell? ⟨w.heap.size, 0, none⟩ = some (.int .i64 n) := by rw [hW0]; simp [go_sem]
  have k1 : W0.cell? ⟨w.heap.size, 1, none⟩ = some (.slice A xs.length c) := by rw [hW0]; simp [go_sem]
  have hz : w.heap.size < W0.heap.size := by rw [hW0]; simp
  have kc := Lib.run_convert_bytes_const (P := Tryz.prog) W0 22 5 #[.int .u8 46] 1 1 Tryz.underlying22 Tryz.underlying5
  obtain ⟨W1, hW1⟩ : ∃ W1, W1 = W0.alloc (.cells #[.int .u8 46] 5 (1, 2)) := ⟨_, rfl⟩
  have kc2 : (convert 22 22 (.slice (some ⟨W0.heap.size, 0, none⟩) 1 1)).run Tryz.prog (W0.alloc (.cells #[.int .u8 46] 5)) = .ok (.slice (some ⟨W0.heap.size, 0, none⟩) 1 1) W1 := by rw [hW1]; exact kc
  have b1 : Below W0.heap.size W0 W1 := by rw [hW1]; exact below_alloc _ _
  have kd : W1.cell? ⟨W0.heap.size, 0, none⟩ = some (.int .u8 46) := by rw [hW1, World.cell?_alloc_mark]; rfl
  have k0' := ((bcell b1).1 _ _ hz).trans k0
  have k1' := ((bcell b1).1 _ _ hz).trans k1
  have HX := Bx.mk (((RB.of_ir hx).below bw (Nat.le_refl _)).below b1 (by omega))
  have HBD := Bx.mk hb
  have bw1 := bw.trans (b1.mono bw.size)
  have hz1 : w.heap.size < W1.heap.size := Nat.lt_of_lt_of_le hz b1.size
  clear hx hb hW1 b1 kc k0 k1 bw
  go_enter Tryz.func42, Tryz.ntmps42
  go_upto_region 1 with (fail)
  rw [← hW0]
  clear hW0
  go_wp2_with fail
  refine (repeat_any W0.heap.size 1 n _ (by omega) h12 (by exact kd)).mono ?_
  rintro e w2 ⟨hh, rfl, hh1, HB⟩
  replace k0' := ((bcell (HB.out.below)).1 _ _ (by omega)).trans k0'
  replace k1' := ((bcell (HB.out.below)).1 _ _ (by omega)).trans k1'
  have hzh : w.heap.size < hh := by omega
  clear hh1 kd
  go_wp2_with fail
  go_loopw [14] (fun iv wr => ∃ k : Nat, k ≤ xs.length ∧ iv = .int .i64 k ∧ Bx (Lib.Buf W1 wr hh n (fmTo n xs k))) (fun iv _ => xs.length - (intOf iv).toNat)
  case atStart => exact ⟨0, by omega, rfl, HB⟩
  case round =>
    clear HB
    obtain ⟨k, hk, rfl, HB⟩ := hrel
    by_cases hlt : k < xs.length
    · have hli : (k : Int) < (xs.length : Int) := by omega
      obtain ⟨bA, oA, p, rfl, hbA, kA, H1⟩ := (HX.out.below HB.out.below (by omega)).ir.one (k := k) hlt
      have hp := HBD.out p (List.mem_of_getElem? H1.out)
      obtain ⟨q, rfl⟩ := Int.eq_ofNat_of_zero_le hp.1
      have hqn : q < n := by omega
      have hqi : (q : Int) < (n : Int) := by omega
      obtain ⟨v, hv⟩ : ∃ v, wr.cell? ⟨hh, q, none⟩ = some v := by
        have := HB.out.there q hqn
        exact Option.isSome_iff_exists.1 this
      have hf := HB.out.free q hqn
      have HB2 : Bx (Lib.Buf W1 (wr.setCell ⟨hh, q, none⟩ (.int .u8 120)) hh n (fmTo n xs (k + 1))) := ⟨by
        simp only [fmTo]
        rw [H1.out]
        exact buf_set HB.out q (by rw [fmTo_len]; exact hqn) 120⟩
      clear H1 hp
      go_wp2_with fail
      go_roundw
      case rel => exact ⟨k + 1, by omega, by go_num, HB2⟩
      case measure => simp [intOf]; omega
    · have hke : k = xs.length := by omega
      have hli : ¬ (k : Int) < (xs.length : Int) := by omega
      have hcv := run_convert_bytes_arg (P := Tryz.prog) wr 22 5 Tryz.underlying22 Tryz.underlying5 hh 0 n n ((fmTo n xs k).map fun x => (x.toNat : Int)) (by rw [List.length_map, fmTo_len]) (fun i hi => by
        have hl := fmTo_len n xs k
        have := HB.out.holds i _ (List.getElem?_eq_getElem (l := fmTo n xs k) (i := i) (by omega))
        rw [Nat.zero_add, this]
        simp [List.getD, List.getElem?_map, List.getElem?_eq_getElem (l := fmTo n xs k) (i := i) (by omega)]) 9 Tryz.underlying9
      rw [str_nums] at hcv
      obtain ⟨T, hT⟩ : ∃ T, T = fmT n xs := ⟨_, rfl⟩
      rw [show (⟨(fmTo n xs k).toArray⟩ : ByteArray) = T by rw [hT, hke]; rfl] at hcv
      have HBW := Bx.mk (bw1.trans (HB.out.below.mono (by omega)))
      have HT := Bx.mk hT
      clear hT hke
      go_wp2_with fail
      go_ret
      exact ⟨by rw [HT.out]; rfl, HBW.out⟩
set_option maxHeartbeats 2000000 in
theorem format_any (n : Nat) (A : Option Addr) (c : Nat) (xs : List Int) (w : World) (h12 : n ≤ 12) (hok : rhOk n xs = true) (hx : IR w A xs) :
    Calls Tryz.prog 17 #[.agg #[.int .i64 n, .slice A xs.length c]] w fun e w' => e = .returned (.string (fmT n xs)) ∧ Below w.heap.size w w' := by
  obtain ⟨hn, hb, _⟩ := rhOk_iff.1 hok
  obtain ⟨W0, hW0⟩ : ∃ W0, W0 = w.alloc (.cells #[.int .i64 n, .slice A xs.length c] 26) := ⟨_, rfl⟩
  have bw : Below w.heap.size w W0 := by rw [hW0]; exact below_alloc _ _
  have k0 : W0.cell? ⟨w.heap.size, 0, none⟩ = some (.int .i64 n) := by rw [hW0]; simp [go_sem]
  have k1 : W0.cell? ⟨w.heap.size, 1, none⟩ = some (.slice A xs.length c) := by rw [hW0]; simp [go_sem]
  have hz : w.heap.size < W0.heap.size := by rw [hW0]; simp
  have HX := Bx.mk (hx.below bw)
  have HS : Bx (-9223372036854775808 ≤ (n : Int) ∧ (n : Int) ≤ 9223372036854775807) := ⟨by omega⟩
  have HOK := Bx.mk hok
  clear hx hb
  go_enter Tryz.func17, Tryz.ntmps17
  go_wp2_with fail
  rw [← hW0]
  clear hW0
  have hr := implRhythmOk_any n A c xs W0 HS.out HX.out
  rw [hok] at hr
  refine hr.mono ?_
  clear hr hok
  rintro e w1 ⟨rfl, b⟩
  replace k0 := ((bcell b).1 _ _ hz).trans k0
  replace k1 := ((bcell b).1 _ _ hz).trans k1
  have HX1 := Bx.mk (HX.out.below b)
  have bw1 := bw.trans (b.mono bw.size)
  clear b HX
  go_wp2_with fail
  refine (text_any n A c xs _ h12 HOK.out (by exact HX1.out)).mono ?_
  rintro e w2 ⟨rfl, b⟩
  have HB := Bx.mk (bw1.trans (b.mono bw1.size))
  clear b
  go_wp2_with fail
  go_ret
  exact ⟨rfl, HB.out⟩
end Go.Proofs.YtikifkbgmniobaaGreat
