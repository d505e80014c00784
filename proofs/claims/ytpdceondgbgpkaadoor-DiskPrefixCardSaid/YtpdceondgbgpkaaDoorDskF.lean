/- Blocks that a disk may have. -/
import Derived.Test.YtpdceondgbgpkaaDoorDsk4
namespace Go.Proofs.YtpdceondgbgpkaaDoor.Dsk
open Go.RowKit
/-- Blocks from B on, but those from M0 to M1. -/
abbrev Off (B M0 M1 : Nat) : Nat → Prop := fun k => B ≤ k ∧ (k < M0 ∨ M1 ≤ k)
theorem offS {B M0 M1 : Nat} {W w' : World} (h : M1 ≤ W.heap.size) (hM : M0 ≤ M1) (hB : B ≤ M0) : ∀ k, Gr (Off B M0 M1) W w' k → Off B M0 M1 k := fun k hk => by rcases hk with hk | hk; exact hk; exact ⟨by omega, .inr (by omega)⟩
/-- Behind a contract, of blocks at or beyond B alone. -/
theorem above {B : Nat} {W w' : World} {p N : Nat} {d : Dk} (hB : B ≤ W.heap.size) (h1 : Mem.Ch (fun k => B ≤ k) W w') (h2 : DiskAt w' (Gr (fun k => B ≤ k) W w') p N d) : Below B W w' ∧ DiskAt w' (fun k => B ≤ k) p N d :=
  ⟨h1.below (fun k hk => by omega) hB, h2.mono (fun k hk => by rcases hk with hk | hk; exact hk; omega)⟩
end Go.Proofs.YtpdceondgbgpkaaDoor.Dsk
