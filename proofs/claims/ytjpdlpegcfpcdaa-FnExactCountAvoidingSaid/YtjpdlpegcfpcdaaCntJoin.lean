/- The two counts of the rhythms that avoid an interval are one number. -/
import Derived.Test.YtjpdlpegcfpcdaaCntA
import Derived.Test.YtjpdlpegcfpcdaaCntB
import Derived.Test.YtjpdlpegcfpcdaaCntC
import Derived.Test.YtjpdlpegcfpcdaaCntD
import Derived.Test.YtjpdlpegcfpcdaaCntImpl
import Derived.Test.YtjpdlpegcfpcdaaCntSpec2
namespace Go.Proofs.Ytjpdlpegcfpcdaa
open Go.RowKit

theorem check_all (n : Nat) (h2 : 2 ≤ n) (h16 : n ≤ 16) : checkN n = true := by
  have : n = 2 ∨ n = 3 ∨ n = 4 ∨ n = 5 ∨ n = 6 ∨ n = 7 ∨ n = 8 ∨ n = 9 ∨ n = 10 ∨ n = 11 ∨ n = 12 ∨ n = 13 ∨ n = 14 ∨ n = 15 ∨ n = 16 := by omega
  rcases this with rfl | rfl | rfl | rfl | rfl | rfl | rfl | rfl | rfl | rfl | rfl | rfl | rfl | rfl | rfl
  · exact check_2
  · exact check_3
  · exact check_4
  · exact check_5
  · exact check_6
  · exact check_7
  · exact check_8
  · exact check_9
  · exact check_10
  · exact check_11
  · exact check_12
  · exact check_13
  · exact check_14
  · exact check_15
  · exact check_16
theorem check_open (n g : Nat) (h : checkN n = true) (hg0 : 0 < g) (hgle : g ≤ n / 2) (hgn : n % g = 0) : checkG n g = true ∧ checkV n g (top n g) = true := by
  have h1 : checkAt n g = true := List.all_eq_true.1 h g (List.mem_range.2 (by omega))
  have e1 : (g == 0) = false := by simp; omega
  have e2 : (n % g == 0) = true := by simpa using hgn
  have h2 : (g == 0 || !(n % g == 0) || (checkG n g && forceV n g (top n g))) = true := h1
  rw [e1, e2, Bool.not_true, Bool.or_false, Bool.false_or, Bool.and_eq_true] at h2
  exact ⟨h2.1, forceV_open h2.2⟩
theorem checkV_open (n g d v : Nat) (h : checkV n g v = true) (hdn : d < n) (hd : 1 ≤ d) (hg : Nat.gcd n d = g) : dfs n d n 0 = v := by
  unfold checkV at h
  rw [List.all_eq_true] at h
  have := h d (List.mem_range.2 hdn)
  have hd0 : (d == 0) = false := by simp; omega
  rw [hd0, hg] at this
  simpa using this
theorem checkG_open (n g : Nat) (h : checkG n g = true) (j : Nat) (hj : j ≤ n) : 0 ≤ refG n g j ∧ refG n g j < 16777216 := by
  unfold checkG at h
  rw [List.all_eq_true] at h
  have := h j (List.mem_range.2 (by omega))
  simpa using this
theorem half_of (n g d : Nat) (hgd : g ∣ d) (hgn : g ∣ n) (hd : 1 ≤ d) (hdn : d < n) : g ≤ n / 2 := by
  obtain ⟨q, hq⟩ := hgn
  have hgle2 : g ≤ d := Nat.le_of_dvd (by omega) hgd
  have h2 : 2 ≤ q := by
    rcases q with _ | _ | q
    · omega
    · omega
    · omega
  have := Nat.mul_le_mul_left g h2
  omega
theorem cnt_lt (n d j : Nat) (h16 : n ≤ 16) : cntTo n d j (2 ^ n) < bB := by
  have h1 := cntTo_le n d j (2 ^ n)
  have h2 : 2 ^ n ≤ 2 ^ 16 := Nat.pow_le_pow_right (by omega) h16
  generalize 2 ^ n = M at *
  unfold bB
  omega
theorem join_K (n d g k K : Nat) (hK : 24 < K) (h16 : n ≤ 16) (hdn : d < n) (hk : k ≤ n) (hval : dfs n d n 0 = digs (refNG n g) K)
    (hG : ∀ j, j ≤ n → 0 ≤ refG n g j ∧ refG n g j < 16777216) : cntI n d k = refG n g k := by
  rw [dfs_gen (by omega) (by omega) n 0 (Nat.le_refl _) (Nat.dvd_zero _) (by omega), gen_digs n d (2 ^ n) K hK] at hval
  have hb2 : ∀ j, refNG n g j < bB := by
    intro j
    have hj := hG j
    unfold refNG bB
    generalize refG n g j = r at *
    split
    · rename_i h; have := hj h; omega
    · omega
  have h := digs_inj _ _ (fun j => cnt_lt n d j h16) hb2 K hval k (by omega)
  have hk2 := hG k hk
  unfold cntI
  rw [h]
  simp only [refNG, if_pos hk]
  generalize refG n g k = r at *
  omega
theorem cnt_ref (n d k : Nat) (h2 : 2 ≤ n) (h16 : n ≤ 16) (hd : 1 ≤ d) (hdn : d < n) (hk : k ≤ n) : cntI n d k = refG n (Nat.gcd n d) k := by
  have hgd : Nat.gcd n d ∣ d := Nat.gcd_dvd_right n d
  have hgn : Nat.gcd n d ∣ n := Nat.gcd_dvd_left n d
  have hg0 : 0 < Nat.gcd n d := Nat.gcd_pos_of_pos_left d (by omega)
  obtain ⟨hG, hV⟩ := check_open n (Nat.gcd n d) (check_all n h2 h16) hg0 (half_of n _ d hgd hgn hd hdn) (Nat.mod_eq_zero_of_dvd hgn)
  have h : dfs n d n 0 = digs (refNG n (Nat.gcd n d)) 25 := checkV_open n _ d _ hV hdn hd rfl
  exact join_K n d _ k 25 (by omega) h16 hdn hk h (checkG_open n _ hG)
theorem count_eq (n d k : Int) : countI n d k = refI n d k := by
  unfold countI refI
  split
  · rename_i h
    have b1 := inB_iff.1 h.1; have b2 := inB_iff.1 h.2.1; have b3 := inB_iff.1 h.2.2
    exact cnt_ref _ _ _ (by omega) (by omega) (by omega) (by omega) (by omega)
  · rfl
end Go.Proofs.Ytjpdlpegcfpcdaa
