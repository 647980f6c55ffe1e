/- Rhythms that avoid an interval: the plain laws of FnForbidden. -/
import Derived.Test.YtlgiijibekobfaaCntImpl
import Derived.Test.YtlgiijibekobfaaMostAv
import Derived.Test.YtlgiijibekobfaaFirst
import Derived.Test.YtlgiijibekobfaaTls
import Derived.Test.YtlgiijibekobfaaFree
import Derived.Test.YtlgiijibekobfaaOpp
import Derived.Test.YtlgiijibekobfaaOddity
import Derived.Test.YtlgiijibekobfaaCirc
import Derived.Test.YtlgiijibekobfaaCircPlain
import Derived.Test.YtlgiijibekobfaaCmPlain
import Derived.Test.YtlgiijibekobfaaSumsPl
import Derived.Test.YtlgiijibekobfaaRhOf
namespace Go.Proofs.Ytlgiijibekobfaa
open Go.RowKit

def mostN (n d : Nat) : Nat := Nat.gcd n d * (n / Nat.gcd n d / 2)
def forbC (n d k : Nat) : Bool :=
  (decide (0 < cntTo n d k (2 ^ n)) == decide (k ≤ mostN n d)) && (cntTo n d k (2 ^ n) == cntTo n (n - d) k (2 ^ n)) && (k != 1 || cntTo n d k (2 ^ n) == n) && decide (1 ≤ mostN n d) && decide (2 * mostN n d ≤ n)
def forbN (n : Nat) : Bool := (List.range n).all fun d => (List.range (n + 1)).all fun k => d == 0 || forbC n d k
theorem forb2 : forbN 2 = true := by decide +kernel
theorem forb3 : forbN 3 = true := by decide +kernel
theorem forb4 : forbN 4 = true := by decide +kernel
theorem forb5 : forbN 5 = true := by decide +kernel
theorem forb6 : forbN 6 = true := by decide +kernel
theorem forb7 : forbN 7 = true := by decide +kernel
theorem forb8 : forbN 8 = true := by decide +kernel
theorem forb9 : forbN 9 = true := by decide +kernel
theorem forb10 : forbN 10 = true := by decide +kernel
theorem forb_all {n d k : Nat} (h2 : 2 ≤ n) (h10 : n ≤ 10) (hd : 1 ≤ d) (hdn : d < n) (hk : k ≤ n) : forbC n d k = true := by
  have h : forbN n = true := by
    have : n = 2 ∨ n = 3 ∨ n = 4 ∨ n = 5 ∨ n = 6 ∨ n = 7 ∨ n = 8 ∨ n = 9 ∨ n = 10 := by omega
    rcases this with e | e | e | e | e | e | e | e | e <;> subst e
    · exact forb2
    · exact forb3
    · exact forb4
    · exact forb5
    · exact forb6
    · exact forb7
    · exact forb8
    · exact forb9
    · exact forb10
  have h1 := List.all_eq_true.1 h d (List.mem_range.2 hdn)
  have h3 := List.all_eq_true.1 h1 k (List.mem_range.2 (by omega))
  have : (d == 0) = false := by rw [beq_eq_false_iff_ne]; omega
  rw [this, Bool.false_or] at h3
  exact h3
theorem forb_parts {n d k : Nat} (h2 : 2 ≤ n) (h10 : n ≤ 10) (hd : 1 ≤ d) (hdn : d < n) (hk : k ≤ n) :
    (0 < cntTo n d k (2 ^ n) ↔ k ≤ mostN n d) ∧ cntTo n d k (2 ^ n) = cntTo n (n - d) k (2 ^ n) ∧ (k = 1 → cntTo n d k (2 ^ n) = n) ∧ 1 ≤ mostN n d ∧ 2 * mostN n d ≤ n := by
  have h := forb_all h2 h10 hd hdn hk
  unfold forbC at h
  simp only [Bool.and_eq_true, decide_eq_true_eq, beq_iff_eq, Bool.or_eq_true, bne_iff_ne] at h
  obtain ⟨⟨⟨⟨h1, h3⟩, h4⟩, h5⟩, h6⟩ := h
  refine ⟨?_, h3, fun e => ?_, h5, h6⟩
  · have := decide_eq_decide.1 h1
    exact this
  · rcases h4 with h4 | h4
    · exact absurd e h4
    · exact h4
theorem cntTo_pos {n d k : Nat} : ∀ {m : Nat}, 0 < cntTo n d k m ↔ ∃ c, c < m ∧ popc 24 c = k ∧ av n d c = true := by
  intro m
  induction m with
  | zero => simp [cntTo]
  | succ m ih =>
    simp only [cntTo]
    by_cases h : popc 24 m = k ∧ av n d m = true
    · rw [if_pos h]
      exact ⟨fun _ => ⟨m, by omega, h⟩, fun _ => by omega⟩
    · rw [if_neg h, Nat.add_zero, ih]
      constructor
      · rintro ⟨c, hc, hp⟩; exact ⟨c, by omega, hp⟩
      · rintro ⟨c, hc, hp⟩
        refine ⟨c, ?_, hp⟩
        rcases Nat.lt_or_ge c m with h1 | h1
        · exact h1
        · have : c = m := by omega
          subst this; exact absurd hp h
theorem fd_spec {P : Nat → Bool} : ∀ {m : Nat}, (∀ c, fd P 0 m = some c → c < m ∧ P c = true) ∧ (fd P 0 m = none → ∀ c, c < m → P c = false) := by
  intro m
  induction m with
  | zero => exact ⟨fun c h => by simp [fd] at h, fun _ c h => by omega⟩
  | succ m ih =>
    cases h : P m with
    | true =>
      rw [fd_hit h]
      exact ⟨fun c e => by injection e with e; subst e; exact ⟨by omega, h⟩, fun e => by cases e⟩
    | false =>
      rw [fd_miss h]
      refine ⟨fun c e => ⟨by have := (ih.1 c e).1; omega, (ih.1 c e).2⟩, fun e c hc => ?_⟩
      rcases Nat.lt_or_ge c m with h1 | h1
      · exact ih.2 e c h1
      · have : c = m := by omega
        subst this; exact h
theorem first_some {n d k : Nat} : (firstR n d k).isSome = decide (0 < cntTo n d k (2 ^ n)) := by
  rw [Bool.eq_iff_iff, decide_eq_true_iff, cntTo_pos]
  unfold firstR
  rw [Option.isSome_map]
  cases h : fd (fP n d k) 0 (2 ^ n) with
  | none =>
    have h1 := fd_spec.2 h
    constructor
    · intro h2; cases h2
    · rintro ⟨c, hc, hp, ha⟩
      have := h1 c hc
      unfold fP at this
      rw [hp, ha] at this
      simp at this
  | some c =>
    have h1 := fd_spec.1 c h
    unfold fP at h1
    simp only [Bool.and_eq_true, beq_iff_eq] at h1
    exact ⟨fun _ => ⟨c, h1⟩, fun _ => rfl⟩
theorem first_is {n d k : Nat} {r : List Int} (h : firstR n d k = some r) : ∃ c, c < 2 ^ n ∧ r = bt n c ∧ popc 24 c = k ∧ av n d c = true := by
  unfold firstR at h
  obtain ⟨c, hc, rfl⟩ := Option.map_eq_some_iff.1 h
  have h1 := fd_spec.1 c hc
  unfold fP at h1
  simp only [Bool.and_eq_true, beq_iff_eq] at h1
  exact ⟨c, h1.1, rfl, h1.2⟩
theorem bt_ok {n c : Nat} (h1 : 1 ≤ n) (h24 : n ≤ 24) : rhOk n (bt n c) = true := by
  have := selTo_ok (s := (n : Int)) ⟨by omega, by omega⟩ (btP n c); rw [Int.toNat_natCast] at this; exact this
theorem bt_mem {n c : Nat} {x : Int} : x ∈ bt n c ↔ ∃ k : Nat, k < n ∧ x = k ∧ c.testBit (n - 1 - k) = true := by
  unfold bt
  rw [selTo_mem]
  constructor
  · rintro ⟨i, hi, rfl, h⟩; exact ⟨i, hi, rfl, by unfold btP at h; rw [Int.toNat_natCast] at h; exact h⟩
  · rintro ⟨i, hi, rfl, h⟩; exact ⟨i, hi, rfl, by unfold btP; rw [Int.toNat_natCast]; exact h⟩
theorem bt_codeR {n : Nat} {xs : List Int} (h : rhOk n xs = true) : bt n (codeR n xs) = xs := by
  obtain ⟨hn, hb, ha⟩ := rhOk_iff.1 h
  refine asc_ext (selTo_asc _ _) ha fun x => ?_
  change x ∈ bt n _ ↔ _
  rw [bt_mem]
  constructor
  · rintro ⟨k, hk, rfl, ht⟩
    have := (codeR_tb h (n - 1 - k) (by omega)).1 ht
    rw [show ((n : Int) - 1 - ((n - 1 - k : Nat) : Int)) = (k : Int) by omega] at this
    exact this
  · intro hx
    obtain ⟨k, rfl⟩ := Int.eq_ofNat_of_zero_le (hb x hx).1
    have hk := (hb _ hx).2
    refine ⟨k, by omega, rfl, (codeR_tb h (n - 1 - k) (by omega)).2 ?_⟩
    rw [show ((n : Int) - 1 - ((n - 1 - k : Nat) : Int)) = (k : Int) by omega]
    exact hx
theorem codeR_bt {n c : Nat} (h1 : 1 ≤ n) (h24 : n ≤ 24) (hc : c < 2 ^ n) : codeR n (bt n c) = c := by
  have hok := bt_ok (c := c) h1 h24
  refine Nat.eq_of_testBit_eq fun j => ?_
  by_cases hj : j < n
  · rw [Bool.eq_iff_iff, codeR_tb hok j (by omega), bt_mem]
    constructor
    · rintro ⟨k, hk, e, ht⟩
      rw [show n - 1 - k = j by omega] at ht
      exact ht
    · intro h
      exact ⟨n - 1 - j, by omega, by omega, by rw [show n - 1 - (n - 1 - j) = j by omega]; exact h⟩
  · have h2 : codeR n (bt n c) < 2 ^ n := by have := codeR_lt hok; rw [Int.toNat_natCast] at this; exact this
    have h3 : 2 ^ n ≤ 2 ^ j := Nat.pow_le_pow_right (by omega) (by omega)
    rw [Nat.testBit_lt_two_pow (by omega), Nat.testBit_lt_two_pow (by omega)]
theorem popc_codeR {n : Nat} {xs : List Int} (h : rhOk n xs = true) : popc 24 (codeR n xs) = xs.length := by
  have h2 : codeR n xs < 2 ^ n := by have := codeR_lt h; rw [Int.toNat_natCast] at this; exact this
  have := bt_len (n := n) (c := codeR n xs) (by have := (rhOk_iff.1 h).1.2; omega) h2
  rw [bt_codeR h] at this
  exact this.symm
theorem avoids_cnt {n d : Nat} {xs : List Int} (h : rhOk n xs = true) (hd : 1 ≤ d ∧ d < n) (ha : avoidsL n d xs = true) : 0 < cntTo n d xs.length (2 ^ n) := by
  have h2 : codeR n xs < 2 ^ n := by have := codeR_lt h; rw [Int.toNat_natCast] at this; exact this
  have h3 := av_code h (d := (d : Int)) ⟨by omega, by omega⟩
  rw [Int.toNat_natCast, Int.toNat_natCast, ha] at h3
  exact cntTo_pos.2 ⟨codeR n xs, h2, popc_codeR h, h3⟩
/-- the first one's facts -/
theorem first_facts {n d k : Nat} {r : List Int} (h2 : 2 ≤ n) (h10 : n ≤ 10) (hd : 1 ≤ d) (hdn : d < n) (h : firstR n d k = some r) : rhOk n r = true ∧ avoidsL n d r = true ∧ r.length = k := by
  obtain ⟨c, hc, rfl, hp, ha⟩ := first_is h
  have hok := bt_ok (n := n) (c := c) (by omega) (by omega)
  have h3 := av_code hok (d := (d : Int)) ⟨by omega, by omega⟩
  rw [Int.toNat_natCast, Int.toNat_natCast, codeR_bt (by omega) (by omega) hc, ha] at h3
  refine ⟨hok, h3.symm, ?_⟩
  rw [bt_len (by omega) hc, hp]
theorem modL_id {n : Nat} {xs : List Int} (h : ∀ x ∈ xs, 0 ≤ x ∧ x < n) : modL n xs = xs := by
  unfold modL
  conv => rhs; rw [← List.map_id xs]
  exact List.map_congr_left fun x hx => Int.emod_eq_of_lt (h x hx).1 (h x hx).2
theorem coll_id {xs : List Int} (h : xs.Pairwise (· < ·)) : coll xs = xs := asc_ext (coll_asc _) h fun _ => coll_mem _ _
theorem coll_snoc_len {zs : List Int} {x : Int} (h : x ∉ zs) (ha : zs.Pairwise (· < ·)) : (coll (zs ++ [x])).length = zs.length + 1 := by
  have asc_nodup : ∀ ys : List Int, ys.Pairwise (· < ·) → ys.Nodup := fun ys h => h.imp (fun hab e => by omega)
  have hp : (coll (zs ++ [x])).Perm (x :: zs) := by
    refine (List.perm_ext_iff_of_nodup (asc_nodup _ (coll_asc _)) (List.nodup_cons.2 ⟨h, asc_nodup _ ha⟩)).2 fun y => ?_
    rw [coll_mem, List.mem_append, List.mem_singleton, List.mem_cons]
    exact Or.comm
  rw [hp.length_eq, List.length_cons]
/-- what a free pulse gives -/
theorem free_join {n d : Nat} {r : List Int} {p : Int} (hd : 1 ≤ d) (hdn : d < n) (hok : rhOk n r = true) (ha : avoidsL n d r = true) (hp : p ∈ freeL n r d) :
    rhOk n (coll (modL n (r ++ [p]))) = true ∧ avoidsL n d (coll (modL n (r ++ [p]))) = true ∧ (coll (modL n (r ++ [p]))).length = r.length + 1 := by
  obtain ⟨hn, hb, has⟩ := rhOk_iff.1 hok
  unfold freeL at hp
  split at hp
  rotate_left
  · cases hp
  rw [Int.toNat_natCast] at hp
  obtain ⟨i, hi, rfl, hf⟩ := selTo_mem.1 hp
  unfold freeP hasR at hf
  simp only [Bool.and_eq_true, Bool.not_eq_true'] at hf
  obtain ⟨⟨f1, f2⟩, f3⟩ := hf
  have m1 : (i : Int) ∉ r := fun h => by rw [(memB_iff).2 h] at f1; cases f1
  have m2 : ((i : Int) + d) % n ∉ r := fun h => by rw [(memB_iff).2 h] at f2; cases f2
  have m3 : ((i : Int) - d) % n ∉ r := fun h => by rw [(memB_iff).2 h] at f3; cases f3
  have hbb : ∀ x ∈ r ++ [(i : Int)], 0 ≤ x ∧ x < n := fun x hx => by
    rcases List.mem_append.1 hx with h | h
    · have := hb x h; omega
    · rw [List.mem_singleton] at h; omega
  rw [modL_id hbb]
  refine ⟨rhOk_iff.2 ⟨hn, fun x hx => by have := hbb x ((coll_mem _ _).1 hx); omega, coll_asc _⟩, ?_, coll_snoc_len m1 has⟩
  rw [avoidsL_iff] at ha ⊢
  intro x hx hy
  rw [coll_mem, List.mem_append, List.mem_singleton] at hx hy
  rcases hx with hx | hx
  · rcases hy with hy | hy
    · exact ha x hx hy
    · apply m3
      have hxb := hb x hx
      rw [← hy, Int.emod_sub_emod, show x + (d : Int) - d = x by omega, Int.emod_eq_of_lt (by omega) (by omega)]
      exact hx
  · subst hx
    rcases hy with hy | hy
    · exact m2 hy
    · by_cases hw : (i : Int) + d < n
      · rw [Int.emod_eq_of_lt (by omega) hw] at hy; omega
      · have : ((i : Int) + d) % n = (i : Int) + d - n := by
          rw [← Int.sub_emod_right, Int.emod_eq_of_lt (by omega) (by omega)]
        omega
theorem free_full {n d : Nat} {r : List Int} (h2 : 2 ≤ n) (h10 : n ≤ 10) (hd : 1 ≤ d) (hdn : d < n) (hok : rhOk n r = true) (ha : avoidsL n d r = true) (hk : r.length = mostN n d) : freeL n r d = [] := by
  rw [List.eq_nil_iff_forall_not_mem]
  intro p hp
  obtain ⟨h3, h4, h5⟩ := free_join hd hdn hok ha hp
  have h6 := avoids_cnt h3 ⟨hd, hdn⟩ h4
  have h7 := (rhOk_len h3).2
  rw [h5] at h6 h7
  have := (forb_parts (k := r.length + 1) h2 h10 hd hdn (by omega)).1.1 h6
  omega
theorem dfI_avoids {n d : Nat} {xs : List Int} (h : rhOk n xs = true) (hdn : d < n) : avoidsL n d xs = decide (dfI n xs d = 0) := by
  obtain ⟨hn, hb, _⟩ := rhOk_iff.1 h
  rw [Bool.eq_iff_iff, decide_eq_true_iff, avoidsL_iff]
  have hpos := dfI_pos (s := (n : Int)) (xs := xs) (i := (d : Int))
  constructor
  · intro hA
    refine Classical.byContradiction fun hc => ?_
    obtain ⟨p, hp, q, hq, e⟩ := hpos.1 (by omega)
    refine hA q hq ?_
    have hpb := hb p hp
    have : (q + (d : Int)) % n = p := by
      rw [← e, Int.add_emod_emod, show q + (p - q) = p by omega, Int.emod_eq_of_lt (by omega) (by omega)]
    rw [this]; exact hp
  · intro h0 p hp hm
    have : 0 < dfI n xs d := hpos.2 ⟨_, hm, p, hp, by
      rw [Int.emod_sub_emod, show p + (d : Int) - p = d by omega, Int.emod_eq_of_lt (by omega) (by omega)]⟩
    omega
theorem oddity_opp {n : Nat} {xs : List Int} (h : rhOk n xs = true) : oddityI n xs = (decide ((n : Int) % 2 = 1) || decide ((oppL n xs).length = 0)) := by
  obtain ⟨hn, hb, _⟩ := rhOk_iff.1 h
  unfold oddityI
  rw [h, Bool.true_and]
  by_cases ho : (n : Int) % 2 = 1
  · simp [ho]
  · rw [decide_eq_false ho, Bool.false_or, Bool.false_or]
    unfold oppL
    rw [if_pos ⟨h, ho⟩]
    obtain ⟨m, hm⟩ : ∃ m : Nat, n = 2 * m := ⟨n / 2, by omega⟩
    have hd2 : (n : Int) / 2 = (m : Int) := by omega
    rw [hd2, Int.toNat_natCast, Bool.eq_iff_iff, decide_eq_true_iff, avoidsL_iff, List.length_eq_zero_iff, List.eq_nil_iff_forall_not_mem]
    constructor
    · intro hA x hx
      obtain ⟨i, hi, rfl, hp⟩ := selTo_mem.1 hx
      unfold oppP at hp
      rw [hd2, Bool.and_eq_true] at hp
      refine hA i (memB_iff.1 hp.1) ?_
      rw [Int.emod_eq_of_lt (by omega) (by omega)]
      exact memB_iff.1 hp.2
    · intro hO p hp hm2
      have hpb := hb p hp
      by_cases hw : p + (m : Int) < n
      · rw [Int.emod_eq_of_lt (by omega) hw] at hm2
        obtain ⟨i, rfl⟩ := Int.eq_ofNat_of_zero_le hpb.1
        refine hO i (selTo_mem.2 ⟨i, by omega, rfl, ?_⟩)
        unfold oppP
        rw [hd2, memB_iff.2 hp, memB_iff.2 hm2]; rfl
      · have : (p + (m : Int)) % n = p - m := by
          rw [← Int.sub_emod_right, Int.emod_eq_of_lt (by omega) (by omega)]; omega
        rw [this] at hm2
        obtain ⟨i, hi⟩ := Int.eq_ofNat_of_zero_le (show 0 ≤ p - (m : Int) by omega)
        rw [hi] at hm2
        refine hO i (selTo_mem.2 ⟨i, by omega, rfl, ?_⟩)
        unfold oppP
        rw [hd2, memB_iff.2 hm2, show (i : Int) + m = p by omega, memB_iff.2 hp]; rfl
/-- the circles -/
def circOk (n d : Nat) : Bool :=
  (circlesI n d).all (fun l => l.length == n / Nat.gcd n d) && decide ((circlesI n d).flatten.Nodup) && ((circlesI n d).flatten.length == n) && ((circlesI n d).length == Nat.gcd n d)
def circN (n : Nat) : Bool := (List.range n).all fun d => d == 0 || circOk n d
theorem circ_tab : ((List.range 11).all fun n => decide (n < 2) || circN n) = true := by decide +kernel
theorem circ_facts {n d : Nat} (h2 : 2 ≤ n) (h10 : n ≤ 10) (hd : 1 ≤ d) (hdn : d < n) :
    (∀ l ∈ circlesI n d, l.length = n / Nat.gcd n d) ∧ (circlesI n d).flatten.Nodup ∧ (circlesI n d).flatten.length = n ∧ (circlesI n d).length = Nat.gcd n d := by
  have h := List.all_eq_true.1 circ_tab n (List.mem_range.2 (by omega))
  rw [decide_eq_false (show ¬ n < 2 by omega), Bool.false_or] at h
  have h1 := List.all_eq_true.1 h d (List.mem_range.2 hdn)
  have h3 : (d == 0) = false := by rw [beq_eq_false_iff_ne]; omega
  rw [h3, Bool.false_or] at h1
  unfold circOk at h1
  simp only [Bool.and_eq_true, List.all_eq_true, beq_iff_eq, decide_eq_true_eq] at h1
  exact ⟨h1.1.1.1, h1.1.1.2, h1.1.2, h1.2⟩
end Go.Proofs.Ytlgiijibekobfaa
