/- A stretched tiling: the program's and the reference's. -/
import Derived.Test.YtikifkbgmniobaaGreatTls
import Derived.Test.YtikifkbgmniobaaGreatBas
import Derived.Test.YtikifkbgmniobaaGreatLws
namespace Go.Proofs.YtikifkbgmniobaaGreat
open Go.RowKit
set_option maxRecDepth 20000

def mulL (k : Int) (xs : List Int) : List Int := xs.map fun x => k * x
def strX (k : Int) (xs : List Int) (a : Nat) : List Int := (xs.take a).map fun x => k * x
def strI (k q : Int) (i : Nat) : List Int := (List.range i).map fun (j : Nat) => k * q + (j : Int)
def strY (k : Int) (ys : List Int) (b : Nat) : List Int := (ys.take b).flatMap fun q => strI k q k.toNat
theorem strX_succ {k x : Int} {xs : List Int} {a : Nat} (h : xs[a]? = some x) : strX k xs (a + 1) = strX k xs a ++ [k * x] := by
  unfold strX
  rw [List.take_add_one, h]
  simp
theorem strX_len (k : Int) (xs : List Int) (a : Nat) (h : a ≤ xs.length) : (strX k xs a).length = a := by
  unfold strX
  rw [List.length_map, List.length_take]; omega
theorem strI_succ (k q : Int) (i : Nat) : strI k q (i + 1) = strI k q i ++ [k * q + (i : Int)] := by simp [strI, List.range_succ]
theorem strI_len (k q : Int) (i : Nat) : (strI k q i).length = i := by simp [strI]
theorem strY_succ {k x : Int} {ys : List Int} {b : Nat} (h : ys[b]? = some x) : strY k ys (b + 1) = strY k ys b ++ strI k x k.toNat := by
  unfold strY
  rw [List.take_add_one, h]
  simp
theorem strY_len (k : Int) (ys : List Int) : ∀ b, b ≤ ys.length → (strY k ys b).length = b * k.toNat := by
  intro b
  induction b with
  | zero => intro _; simp [strY]
  | succ b ih =>
    intro hb
    rw [strY_succ (List.getElem?_eq_getElem (show b < ys.length by omega)), List.length_append, ih (by omega), strI_len, Nat.succ_mul]
def strOk (s : Int) (xs : List Int) (t : Int) (ys : List Int) (k : Int) : Bool := btw s xs t ys 1 1 && (inB k 1 24 && decide (k * s ≤ 24))
def strS (s : Int) (xs : List Int) (t : Int) (ys : List Int) (k : Int) : Int := if strOk s xs t ys k = true then k * s else 0
def strA (s : Int) (xs : List Int) (t : Int) (ys : List Int) (k : Int) : List Int := if strOk s xs t ys k = true then strX k xs xs.length else []
def strB (s : Int) (xs : List Int) (t : Int) (ys : List Int) (k : Int) : List Int := if strOk s xs t ys k = true then strY k ys ys.length else []
/-- what a function that makes two rhythms hands back -/
def GivesRR (w : World) (s : Int) (xs : List Int) (t : Int) (ys : List Int) (ok : Bool) (e : Ending) (w' : World) : Prop :=
  ∃ A c A' c' m, e = .returned (.tuple #[.agg #[.int .i64 s, .slice A xs.length c], .agg #[.int .i64 t, .slice A' ys.length c'], .bool ok]) ∧ (w.heap.size ≤ m ∧ m ≤ w'.heap.size) ∧ OB w.heap.size m w' A c xs ∧ IO w' m A' c' ys ∧ Below w.heap.size w w'
theorem GivesRR.no {w w' : World} {s t k : Int} {xs ys : List Int} (h : strOk s xs t ys k = false) (hb : Below w.heap.size w w') : GivesRR w (strS s xs t ys k) (strA s xs t ys k) (strS s xs t ys k) (strB s xs t ys k) (strOk s xs t ys k) (.returned (.tuple #[.agg #[.int .i64 0, .slice none 0 0], .agg #[.int .i64 0, .slice none 0 0], .bool false])) w' := by
  have h1 : strS s xs t ys k = 0 := by simp [strS, h]
  have h2 : strA s xs t ys k = [] := by simp [strA, h]
  have h3 : strB s xs t ys k = [] := by simp [strB, h]
  rw [h1, h2, h3, h]
  exact ⟨none, 0, none, 0, w'.heap.size, rfl, ⟨hb.size, Nat.le_refl _⟩, ⟨IO.nil _ _, fun x hx => by cases hx⟩, IO.nil _ _, hb⟩
theorem GivesRR.yes {w w' : World} {s t k : Int} {xs ys : List Int} {A B : Option Addr} {c d lo m : Nat} {S : Int} {L M : List Int} (h : strOk s xs t ys k = true) (hS : k * s = S) (hL : strX k xs xs.length = L) (hM : strY k ys ys.length = M)
    (hlo : w.heap.size ≤ lo) (hm : lo ≤ m ∧ m ≤ w'.heap.size) (ha : OB lo m w' A c L) (hb' : IO w' m B d M) (hb : Below w.heap.size w w') :
    GivesRR w (strS s xs t ys k) (strA s xs t ys k) (strS s xs t ys k) (strB s xs t ys k) (strOk s xs t ys k) (.returned (.tuple #[.agg #[.int .i64 S, .slice A L.length c], .agg #[.int .i64 S, .slice B M.length d], .bool true])) w' := by
  have h1 : strS s xs t ys k = S := by simp [strS, h, hS]
  have h2 : strA s xs t ys k = L := by simp [strA, h, hL]
  have h3 : strB s xs t ys k = M := by simp [strB, h, hM]
  rw [h1, h2, h3, h]
  exact ⟨A, c, B, d, m, rfl, ⟨by omega, hm.2⟩, ⟨ha.1.mono hlo, ha.2⟩, hb', hb⟩
theorem two_new (w : World) (cs : Array Value) : Blk ((w.alloc (.cells cs 26)).alloc (.cells cs 26)).drew w.heap.size 26 cs ∧ Blk ((w.alloc (.cells cs 26)).alloc (.cells cs 26)).drew (w.heap.size + 1) 26 cs ∧ Below w.heap.size w ((w.alloc (.cells cs 26)).alloc (.cells cs 26)).drew :=
  ⟨(Blk.new w _ _).alloc _, (by
     have : Blk ((w.alloc (.cells cs 26)).alloc (.cells cs 26)) (w.heap.size + 1) 26 cs := (by have := Blk.new (w.alloc (.cells cs 26)) 26 cs; simpa using this)
     exact this), ((below_alloc _ _).alloc (by simp) _).drew⟩
theorem RB.below_only {w w' : World} {g lo hi : Nat} {A : Option Addr} {xs : List Int} (h : RB lo hi w A xs) (o : Only w w' (some ⟨g, 0, none⟩)) (hd : hi ≤ g ∨ g < lo) : RB lo hi w' A xs := ⟨IR.onlyAt h o hd, h.2⟩
theorem IO.onlyAt {w w' : World} {g base c : Nat} {A : Option Addr} {xs : List Int} (h : IO w base A c xs) (o : Only w w' (some ⟨g, 0, none⟩)) (hd : ∀ x, A = some x → x.block ≠ g) : IO w' base A c xs :=
  h.only o fun a b ea eb => by have := hd a ea; injection eb with eb; subst eb; simpa using this
end Go.Proofs.YtikifkbgmniobaaGreat
