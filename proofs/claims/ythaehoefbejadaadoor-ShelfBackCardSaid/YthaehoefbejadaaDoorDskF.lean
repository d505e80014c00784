/- Blocks that a disk may have. -/
import Derived.Test.YthaehoefbejadaaDoorDsk4
namespace Go.Proofs.YthaehoefbejadaaDoor.Dsk
open Go.RowKit
/-- Blocks from B on, but those from M0 to M1. -/
abbrev Off (B M0 M1 : Nat) : Nat → Prop := fun k => B ≤ k ∧ (k < M0 ∨ M1 ≤ k)
theorem offS {B M0 M1 : Nat} {W w' : World} (h : M1 ≤ W.heap.size) (hM : M0 ≤ M1) (hB : B ≤ M0) : ∀ k, Gr (Off B M0 M1) W w' k → Off B M0 M1 k := fun k hk => by rcases hk with hk | hk; exact hk; exact ⟨by omega, .inr (by omega)⟩
end Go.Proofs.YthaehoefbejadaaDoor.Dsk
