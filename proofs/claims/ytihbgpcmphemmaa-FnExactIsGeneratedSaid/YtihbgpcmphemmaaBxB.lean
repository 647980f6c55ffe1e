/- Steps of a world that stays as it was below a bound, hidden. -/
import Derived.Test.YtihbgpcmphemmaaBase
namespace Go.Proofs.Ytihbgpcmphemmaa
open Go.RowKit

theorem bx_alloc {a w : World} (h : Bx (Below a.heap.size a w)) (o : Obj) : Bx (Below a.heap.size a (w.alloc o)) := ⟨h.out.alloc h.out.size o⟩
theorem bx_to {a w w' : World} (h : Bx (Below a.heap.size a w)) (b : Below w.heap.size w w') : Bx (Below a.heap.size a w') := ⟨h.out.trans (b.mono h.out.size)⟩
theorem bx_set {a w : World} {p : Addr} (h : Bx (Below a.heap.size a w)) (hp : a.heap.size ≤ p.block) (u : Value) : Bx (Below a.heap.size a (w.setCell p u)) := ⟨h.out.setCell hp u⟩
theorem bx_size {a w : World} (h : Bx (Below a.heap.size a w)) : a.heap.size ≤ w.heap.size := h.out.size
theorem bx_drew {a w : World} (h : Bx (Below a.heap.size a w)) : Bx (Below a.heap.size a w.drew) := ⟨h.out.drew⟩
end Go.Proofs.Ytihbgpcmphemmaa
