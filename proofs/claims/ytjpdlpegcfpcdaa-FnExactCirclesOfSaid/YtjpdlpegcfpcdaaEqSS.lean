/- The law's helpers on lists of lists of ints. -/
import Derived.Test.YtjpdlpegcfpcdaaAppG
import Derived.Test.YtjpdlpegcfpcdaaEqInt
namespace Go.Proofs.Ytjpdlpegcfpcdaa
open Go.RowKit

/-- the marks that a list of lists is given from k on -/
def markRows : Int → List (List Int) → List (List Int)
  | _, [] => []
  | k, xs :: r => marksFrom k xs.length :: markRows (k + xs.length) r
def totLen : List (List Int) → Nat
  | [] => 0
  | xs :: r => xs.length + totLen r
theorem markRows_len (k : Int) (xss : List (List Int)) : (markRows k xss).length = xss.length := by
  induction xss generalizing k with
  | nil => rfl
  | cons xs r ih => simp [markRows, ih]
theorem totLen_take (xss : List (List Int)) : ∀ (i : Nat) (xs : List Int), xss[i]? = some xs → totLen (xss.take (i + 1)) = totLen (xss.take i) + xs.length := by
  induction xss with
  | nil => intro i xs h; simp at h
  | cons ys r ih =>
    intro i xs h
    cases i with
    | zero => simp at h; subst h; simp [totLen]
    | succ i => simp at h; simp only [List.take_succ_cons, totLen]; rw [ih i xs h]; omega
theorem markRows_set (xss : List (List Int)) : ∀ (k : Int) (i : Nat) (xs : List Int), xss[i]? = some xs →
    (markRows k (xss.take i) ++ xss.drop i).set i (marksFrom (k + totLen (xss.take i)) xs.length) = markRows k (xss.take (i + 1)) ++ xss.drop (i + 1) := by
  induction xss with
  | nil => intro k i xs h; simp at h
  | cons ys r ih =>
    intro k i xs h
    cases i with
    | zero => simp at h; subst h; simp [markRows, totLen]
    | succ i =>
      simp at h
      have := ih (k + ys.length) i xs h
      simp only [List.take_succ_cons, List.drop_succ_cons, markRows, totLen, List.cons_append, List.set_cons_succ]
      rw [← this]
      congr 3
      omega
theorem markRows_at (xss : List (List Int)) (k : Int) (i : Nat) : (markRows k (xss.take i) ++ xss.drop i)[i]? = xss[i]? := by
  by_cases h : i ≤ xss.length
  · rw [List.getElem?_append_right (by rw [markRows_len, List.length_take]; omega), markRows_len, List.length_take, Nat.min_eq_left h, List.getElem?_drop]
    simp
  · rw [List.getElem?_eq_none (by simp [markRows_len]; omega), List.getElem?_eq_none (by omega)]
theorem markRows_get (xss : List (List Int)) : ∀ (k : Int) (i : Nat) (xs : List Int), xss[i]? = some xs → (markRows k xss)[i]? = some (marksFrom (k + totLen (xss.take i)) xs.length) := by
  induction xss with
  | nil => intro k i xs h; simp at h
  | cons ys r ih =>
    intro k i xs h
    cases i with
    | zero => simp at h; subst h; simp [markRows, totLen]
    | succ i =>
      simp at h
      have := ih (k + ys.length) i xs h
      simp only [markRows, List.getElem?_cons_succ, this, List.take_succ_cons, totLen]
      congr 2
      omega
/-- the lists are short: no count over them wraps -/
structure Short (xss : List (List Int)) : Prop where
  one : ∀ (i : Nat) (xs : List Int), xss[i]? = some xs → xs.length ≤ 1000000
  tot : ∀ i, totLen (xss.take i) ≤ 100000000
  len : xss.length ≤ 1000000

set_option maxHeartbeats 400000 in
theorem eqIntSS_same (V V' : Value) (b b' : Nat) (gs gs' : List Nat) (vs vs' : List Value) (xss : List (List Int)) (w : World) (hs : Short xss) (h : Rows2 w b V gs vs xss) (h' : Rows2 w b' V' gs' vs' xss) :
    Calls Try.prog 26 #[V, V'] w fun e w' => e = .returned (.bool true) ∧ Below w.heap.size w w' := by
  obtain ⟨A, c, rfl⟩ := h.slice
  obtain ⟨A', c', rfl⟩ := h'.slice
  have hl := hs.len
  have HS := Bx.mk hs
  clear hs
  go_enter Try.func26, Try.ntmps26
  go_wp2
  go_loopw [5] (fun x wr => ∃ (i : Nat), i ≤ xss.length ∧ x = .int .i64 i ∧ Bx (∃ n, wr = w.drewN n)) (fun x _ => xss.length - (intOf x).toNat)
  case atStart => exact ⟨0, by omega, rfl, ⟨0, rfl⟩⟩
  case round =>
    obtain ⟨i, hi, rfl, HN⟩ := hrel
    by_cases hlt : i < xss.length
    · have hw : Rows2 wr b (.slice A xss.length c) gs vs xss := by obtain ⟨n, rfl⟩ := HN.out; exact h.below (bdrewN_refl _ n) (Nat.le_refl _)
      have hw' : Rows2 wr b' (.slice A' xss.length c') gs' vs' xss := by obtain ⟨n, rfl⟩ := HN.out; exact h'.below (bdrewN_refl _ n) (Nat.le_refl _)
      obtain ⟨g0, gk, ck, xs, rfl, hg0, c1, io1, Hx, _⟩ := hw.cell hlt
      obtain ⟨g0', gk', ck', ys, rfl, hg0', c1', io1', Hy, _⟩ := hw'.cell hlt
      have hxy : ys = xs := by have := Hx.out.1; rw [Hy.out.1] at this; exact Option.some.inj this
      subst hxy
      have hi1 : (i : Int) < xss.length := by omega
      have r1 := Bx.mk io1.reads
      have r2 := Bx.mk io1'.reads
      clear io1 io1' hw hw' h h'
      go_wp2
      go_quiet ((go_at_call 18; exact Calls.quiet_of (eqIntS_any _ _ _ _ _ _ _ (by exact r1.out) (by exact r2.out))))
      go_wp2
      go_roundw
      case rel => exact ⟨i + 1, by omega, by go_num, ⟨by obtain ⟨n, rfl⟩ := HN.out; exact ex_drewN _ _ _⟩⟩
      case measure => simp [intOf]; omega
    · go_wp2
      go_ret
      exact ⟨rfl, by obtain ⟨n, rfl⟩ := HN.out; exact bdrewN_refl _ _⟩

set_option maxHeartbeats 400000 in
theorem markIntSS_any (V : Value) (b : Nat) (gs : List Nat) (vs : List Value) (xss : List (List Int)) (q : Int) (w : World) (hs : Short xss) (h : Rows2 w b V gs vs xss) (hb : b ≤ w.heap.size) (h0 : 0 ≤ q) (h1 : q ≤ 100000000) :
    Calls Try.prog 27 #[V, .int .i64 q] w fun e w' => e = .returned (.int .i64 (q + totLen xss)) ∧ Rows2 w' b V gs vs (markRows q xss) ∧ Below b w w' := by
  obtain ⟨A, c, rfl⟩ := h.slice
  have hl := hs.len
  have HS := Bx.mk hs
  clear hs
  go_enter Try.func27, Try.ntmps27
  go_wp2
  go_loopw [1, 5] (fun p x wr => ∃ (i : Nat), i ≤ xss.length ∧ x = .int .i64 i ∧ p = .int .i64 (q + totLen (xss.take i)) ∧ Rows2 wr b (.slice A xss.length c) gs vs (markRows q (xss.take i) ++ xss.drop i) ∧ Below b w wr) (fun _ x _ => xss.length - (intOf x).toNat)
  case atStart => exact ⟨0, by omega, rfl, by simp [totLen], by simpa [markRows] using h, Below.refl _ _⟩
  case round =>
    obtain ⟨i, hi, rfl, rfl, hR, hB⟩ := hrel
    have hlen : (markRows q (xss.take i) ++ xss.drop i).length = xss.length := by simp [markRows_len]; omega
    by_cases hlt : i < xss.length
    · obtain ⟨g0, gk, ck, xs, rfl, hg0, c1, io1, Hx, hbk⟩ := hR.cell (k := i) (by rw [hlen]; exact hlt)
      have hxi : Bx (xss[i]? = some xs) := ⟨by rw [← markRows_at xss q i]; exact Hx.out.1⟩
      have hi1 : (i : Int) < xss.length := by omega
      have ht := HS.out.tot i
      have ht1 := HS.out.tot (i + 1)
      have HT := Bx.mk (totLen_take xss i xs hxi.out)
      have hxl := HS.out.one i xs hxi.out
      have hvs : Bx (vs[i]? = some (.slice (some ⟨gk, 0, none⟩) xs.length ck)) := ⟨hR.vcell Hx.out.1 Hx.out.2 c1⟩
      generalize hTT : totLen (xss.take i) = t at *
      clear hlen
      go_wp2_with (go_at_call 19; refine (markIntS_any _ gk _ _ _ _ (by exact io1) (by omega) (by omega)).mono ?_; rintro e w1 ⟨rfl, io2, o2⟩)
      have R1 := Bx.mk (hR.setRow Hx.out.1 Hx.out.2 io2 (by rw [marksFrom_length]; exact hvs.out) o2)
      have hB1 : Below b w w1 := hB.trans (o2.below (Nat.le_trans hb hB.size) (fun x hx => by injection hx with hx; rw [← hx]; exact hbk))
      clear io2 o2 hR hB io1
      go_wp2
      go_roundw
      case rel =>
        refine ⟨i + 1, by omega, by go_num, by rw [HT.out]; go_num, ?_, hB1⟩
        have hm := markRows_set xss q i xs hxi.out
        rw [hTT] at hm
        rw [← hm]
        exact R1.out
      case measure => simp [intOf]; omega
    · have hix : i = xss.length := by omega
      have HB : Bx (totLen (xss.take i) = totLen xss) := ⟨by rw [hix, List.take_length]⟩
      have HR : Bx (Rows2 wr b (.slice A xss.length c) gs vs (markRows q xss)) := ⟨by rw [hix, List.take_length, List.drop_length, List.append_nil] at hR; exact hR⟩
      clear hix hlen hR
      go_wp2
      go_ret
      exact ⟨ret_int (by rw [HB.out]), HR.out, hB⟩

set_option maxHeartbeats 400000 in
theorem heldIntSS_any (V : Value) (b : Nat) (gs : List Nat) (vs : List Value) (xss : List (List Int)) (q : Int) (w : World) (hs : Short xss) (h : Rows2 w b V gs vs (markRows q xss)) (h0 : 0 ≤ q) (h1 : q ≤ 100000000) :
    Calls Try.prog 28 #[V, .int .i64 q] w fun e w' => e = .returned (.int .i64 (q + totLen xss)) ∧ Below w.heap.size w w' := by
  obtain ⟨A, c, rfl⟩ := h.slice
  rw [markRows_len] at *
  have hl := hs.len
  have HS := Bx.mk hs
  clear hs
  go_enter Try.func28, Try.ntmps28
  go_wp2
  go_loopw [1, 5] (fun p x wr => ∃ (i : Nat), i ≤ xss.length ∧ x = .int .i64 i ∧ p = .int .i64 (q + totLen (xss.take i)) ∧ Bx (∃ n, wr = w.drewN n)) (fun _ x _ => xss.length - (intOf x).toNat)
  case atStart => exact ⟨0, by omega, rfl, by simp [totLen], ⟨0, rfl⟩⟩
  case round =>
    obtain ⟨i, hi, rfl, rfl, HN⟩ := hrel
    by_cases hlt : i < xss.length
    · have hw : Rows2 wr b (.slice A xss.length c) gs vs (markRows q xss) := by obtain ⟨n, rfl⟩ := HN.out; exact h.below (bdrewN_refl _ n) (Nat.le_refl _)
      obtain ⟨g0, gk, ck, ms, rfl, hg0, c1, io1, Hx, _⟩ := hw.cell (k := i) (by rw [markRows_len]; exact hlt)
      obtain ⟨xs, hxs⟩ : ∃ xs, xss[i]? = some xs := ⟨_, List.getElem?_eq_getElem hlt⟩
      have hms := markRows_get xss q i xs hxs
      rw [Hx.out.1] at hms
      injection hms with hms
      subst hms
      rw [marksFrom_length] at c1
      have HXS := Bx.mk hxs
      clear hxs
      have hi1 : (i : Int) < xss.length := by omega
      have ht := HS.out.tot i
      have HT := Bx.mk (totLen_take xss i xs HXS.out)
      have hxl := HS.out.one i xs HXS.out
      have r1 := Bx.mk io1.reads
      generalize hTT : totLen (xss.take i) = t at *
      clear io1 hw h
      go_wp2_with (go_at_call 20; refine (heldIntS_marks _ _ _ _ _ (by exact r1.out) (by omega) (by omega)).mono ?_; rintro e w' ⟨rfl, m, rfl⟩)
      go_roundw
      case rel => exact ⟨i + 1, by omega, by go_num, by rw [HT.out]; go_num, ⟨by obtain ⟨n, rfl⟩ := HN.out; exact ex_drewN _ _ _⟩⟩
      case measure => simp [intOf]; omega
    · have hix : i = xss.length := by omega
      have HB : Bx (totLen (xss.take i) = totLen xss) := ⟨by rw [hix, List.take_length]⟩
      clear hix
      go_wp2
      go_ret
      exact ⟨ret_int (by rw [HB.out]), by obtain ⟨n, rfl⟩ := HN.out; exact bdrewN_refl _ _⟩
end Go.Proofs.Ytjpdlpegcfpcdaa
