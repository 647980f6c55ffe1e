/- What the functions that FnForbidden calls give at its sizes. -/
import Derived.Test.YtlgiijibekobfaaForbPl
import Derived.Test.YtlgiijibekobfaaJoin
import Derived.Test.YtlgiijibekobfaaLawH
import Derived.Test.YtlgiijibekobfaaDiff
import Derived.Test.YtlgiijibekobfaaFinWords
import Derived.Test.YtlgiijibekobfaaDraw
import Derived.Test.YtlgiijibekobfaaDraw2
namespace Go.Proofs.Ytlgiijibekobfaa
open Go.RowKit

theorem br_of {w : World} {A : Option Addr} {n : Nat} {xs : List Int} (hn : n = xs.length) (hb : n ≤ 1048576) (h : AR .u8 w A xs) (hf : ∀ x ∈ xs, 0 ≤ x ∧ x ≤ 255) : BR w A n := by
  subst hn
  refine ⟨hb, fun h0 => ?_⟩
  obtain ⟨b, o, e, hlt, hc⟩ := h.2 h0
  refine ⟨b, o, e, hlt, fun k hk => ?_⟩
  have hx := hf _ (List.getElem_mem hk)
  obtain ⟨y, hy⟩ := Int.eq_ofNat_of_zero_le hx.1
  refine ⟨y, by omega, ?_⟩
  rw [hc k hk, List.getElem?_eq_getElem hk, ← hy]; rfl
/-- rows of rows, ready to be carried on -/
def RowsR (w : World) (base : Nat) (V : Value) (gs : List Nat) (vs : List Value) (xss : List (List Int)) : Prop := Rows2 w base V gs vs xss
theorem RowsR.below {w w' : World} {base : Nat} {V : Value} {gs : List Nat} {vs : List Value} {xss : List (List Int)} (h : RowsR w base V gs vs xss) (hb : Below w.heap.size w w') : RowsR w' base V gs vs xss := Rows2.below h hb (Nat.le_refl _)
theorem gcdI_nat (n d : Nat) : gcdI (n : Int) (d : Int) = ((Nat.gcd n d : Nat) : Int) := by simp [gcdI]
theorem in24 {n : Nat} (h2 : 2 ≤ n) (h10 : n ≤ 10) : inB (n : Int) 2 24 = true := inB_iff.2 ⟨by omega, by omega⟩
theorem in16 {n : Nat} (h2 : 2 ≤ n) (h10 : n ≤ 10) : inB (n : Int) 2 16 = true := inB_iff.2 ⟨by omega, by omega⟩
theorem inD {n d : Nat} (hd : 1 ≤ d) (hdn : d < n) : inB (d : Int) 1 ((n : Int) - 1) = true := inB_iff.2 ⟨by omega, by omega⟩
theorem inK {n k : Nat} (hk : k ≤ n) : inB (k : Int) 0 (n : Int) = true := inB_iff.2 ⟨by omega, by omega⟩
theorem mostAv_nat {n d : Nat} (h2 : 2 ≤ n) (h10 : n ≤ 10) (hd : 1 ≤ d) (hdn : d < n) : mostAv (n : Int) (d : Int) = ((mostN n d : Nat) : Int) := by
  rw [mostAv_yes _ _ (in24 h2 h10) (inD hd hdn), gcdI_nat]
  unfold mostN
  simp
theorem countI_nat {n d k : Nat} (h2 : 2 ≤ n) (h10 : n ≤ 10) (hd : 1 ≤ d) (hdn : d < n) (hk : k ≤ n) : countI (n : Int) (d : Int) (k : Int) = ((cntTo n d k (2 ^ n) : Nat) : Int) := by
  unfold countI
  rw [if_pos ⟨in16 h2 h10, inD hd hdn, inK hk⟩]
  simp [cntI]
theorem firstO_nat {n d k : Nat} (h2 : 2 ≤ n) (h10 : n ≤ 10) (hd : 1 ≤ d) (hdn : d < n) (hk : k ≤ n) : firstO (n : Int) (d : Int) (k : Int) = firstR n d k := by
  unfold firstO
  rw [if_pos ⟨in16 h2 h10, inD hd hdn, inK hk⟩]
  simp
theorem avoidsI_nat {n d : Nat} {xs : List Int} (hok : rhOk n xs = true) (hd : 1 ≤ d) (hdn : d < n) : avoidsI n xs d = avoidsL n d xs := by
  unfold avoidsI
  rw [hok, inD hd hdn]; rfl
theorem forb_most {n d : Nat} (h2 : 2 ≤ n) (h10 : n ≤ 10) (hd : 1 ≤ d) (hdn : d < n) (W : World) :
    Calls Try.prog 11 #[.int .i64 n, .int .i64 d] W fun e w' => e = .returned (.int .i64 ((mostN n d : Nat) : Int)) ∧ Below W.heap.size W w' := by
  refine (implMostAv_any n d W).mono ?_
  rintro e w' ⟨rfl, k, rfl⟩
  exact ⟨by rw [mostAv_nat h2 h10 hd hdn], bdrewN_refl _ _⟩
theorem forb_count {n d k : Nat} (h2 : 2 ≤ n) (h10 : n ≤ 10) (hd : 1 ≤ d) (hdn : d < n) (hk : k ≤ n) (W : World) :
    Calls Try.prog 13 #[.int .i64 n, .int .i64 d, .int .i64 k] W fun e w' => e = .returned (.int .i64 ((cntTo n d k (2 ^ n) : Nat) : Int)) ∧ Below W.heap.size W w' := by
  refine (implCount_any n d k W).mono ?_
  rintro e w' ⟨rfl, m, rfl⟩
  exact ⟨by rw [countI_nat h2 h10 hd hdn hk], bdrewN_refl _ _⟩
theorem forb_none {n d k : Nat} (h2 : 2 ≤ n) (h10 : n ≤ 10) (hd : 1 ≤ d) (hdn : d < n) (hk : k ≤ n) (hf : firstR n d k = none) (W : World) :
    Calls Try.prog 12 #[.int .i64 n, .int .i64 d, .int .i64 k] W fun e w' => ∃ A c, e = .returned (.tuple #[.agg #[.int .i64 0, .slice A 0 c], .bool false]) ∧ Below W.heap.size W w' := by
  have h := implFirst_any n d k W
  rw [firstO_nat h2 h10 hd hdn hk, hf] at h
  refine h.mono ?_
  rintro e w' ⟨A, c, rfl, _, b⟩
  exact ⟨A, c, rfl, b⟩
theorem forb_some {n d k : Nat} {r : List Int} (h2 : 2 ≤ n) (h10 : n ≤ 10) (hd : 1 ≤ d) (hdn : d < n) (hk : k ≤ n) (hf : firstR n d k = some r) (W : World) :
    Calls Try.prog 12 #[.int .i64 n, .int .i64 d, .int .i64 k] W (GivesRB W n r true) := by
  have h := implFirst_any n d k W
  rw [firstO_nat h2 h10 hd hdn hk, hf] at h
  exact h
theorem forb_gcd (n d : Nat) (h10 : n ≤ 1000) (hd : d ≤ 1000) (W : World) : Calls Try.prog 9 #[.int .i64 n, .int .i64 d] W fun e w' => e = .returned (.int .i64 ((Nat.gcd n d : Nat) : Int)) ∧ W = w' := by
  have h := lawGcd_any n d W ⟨by omega, by omega⟩ ⟨by omega, by omega⟩
  rw [gcdI_nat] at h
  exact h
theorem forb_avoids {n d : Nat} {xs : List Int} (h10 : n ≤ 24) (hok : rhOk n xs = true) (hd : 1 ≤ d) (hdn : d < n) (A : Option Addr) (c : Nat) (W : World) (hx : IR W A xs) :
    Calls Try.prog 15 #[.agg #[.int .i64 n, .slice A xs.length c], .int .i64 d] W fun e w' => e = .returned (.bool (avoidsL n d xs)) ∧ Below W.heap.size W w' := by
  have h := implAvoids_any n A c xs d W ⟨by omega, by omega⟩ hx
  rw [avoidsI_nat hok hd hdn] at h
  exact h
theorem forb_opp {n : Nat} {xs : List Int} (h10 : n ≤ 24) (A : Option Addr) (c : Nat) (W : World) (hx : IR W A xs) :
    Calls Try.prog 21 #[.agg #[.int .i64 n, .slice A xs.length c]] W fun e w' => ∃ B d, e = .returned (.slice B (oppL n xs).length d) ∧ Below W.heap.size W w' := by
  refine (implOpp_any n A c xs W ⟨by omega, by omega⟩ hx).mono ?_
  rintro e w' ⟨B, d, rfl, _, b⟩
  exact ⟨B, d, rfl, b⟩
theorem one_reads (w : World) (x : Int) : IR (w.alloc (.cells #[.int .i64 x] 3)) (some ⟨w.heap.size, 0, none⟩) [x] := by
  obtain ⟨A, c, e, io⟩ := (Row.single w x).io (by simp)
  injection e with e1 _ _
  rw [e1]; exact io.reads
theorem one_ok {n : Nat} {p : Int} (h1 : 1 ≤ n) (h24 : n ≤ 24) (hp : 0 ≤ p ∧ p < n) : rhOk n [p] = true := rhOk_iff.2 ⟨⟨by omega, by omega⟩, fun x hx => by simp at hx; subst hx; exact hp, by simp⟩
theorem freeL_bd {n d : Nat} {r : List Int} {p : Int} (hp : p ∈ freeL n r d) : 0 ≤ p ∧ p < n := by
  unfold freeL at hp
  split at hp
  · obtain ⟨i, hi, rfl, _⟩ := selTo_mem.1 hp; rw [Int.toNat_natCast] at hi; omega
  · cases hp
theorem seen_new {L : List (List Int)} {i j : Nat} {l : List Int} {p : Int} (hn : L.flatten.Nodup) (hl : L[i]? = some l) (hp : l[j]? = some p) : memB ((L.take i).flatten ++ l.take j) p = false ∧ (L.take i).flatten ++ l.take (j + 1) = ((L.take i).flatten ++ l.take j) ++ [p] := by
  have hi := (List.getElem?_eq_some_iff.1 hl).1
  have hj := (List.getElem?_eq_some_iff.1 hp).1
  have e1 : l.take (j + 1) = l.take j ++ [p] := by rw [List.take_add_one, hp]; rfl
  have e2 : L.flatten = ((L.take i).flatten ++ l.take j) ++ (p :: (l.drop (j + 1) ++ (L.drop (i + 1)).flatten)) := by
    conv => lhs; rw [← List.take_append_drop i L]
    rw [List.drop_eq_getElem_cons hi]
    have : L[i] = l := by rw [List.getElem?_eq_getElem hi] at hl; exact Option.some.inj hl
    rw [this, List.flatten_append, List.flatten_cons]
    conv => lhs; rw [← List.take_append_drop j l]
    rw [List.drop_eq_getElem_cons hj]
    have : l[j] = p := by rw [List.getElem?_eq_getElem hj] at hp; exact Option.some.inj hp
    rw [this]; simp
  refine ⟨?_, by rw [e1, List.append_assoc]⟩
  rw [Bool.eq_false_iff]
  intro hm
  rw [e2, List.nodup_append] at hn
  exact hn.2.2 p (memB_iff.1 hm) p List.mem_cons_self rfl
theorem seen_next {L : List (List Int)} {i : Nat} {l : List Int} (hl : L[i]? = some l) : (L.take (i + 1)).flatten = (L.take i).flatten ++ l := by
  rw [List.take_add_one, hl, Option.toList_some, List.flatten_append]; simp
end Go.Proofs.Ytlgiijibekobfaa
