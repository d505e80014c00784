/- Votes and snapshots, as an argument's data say them. -/
import Derived.Test.YtbpnhaeladcbnaaDoorSeen
import Derived.Test.YtbpnhaeladcbnaaDoorBits2
namespace Go.Proofs.YtbpnhaeladcbnaaDoor.Seen
open Go.RowKit
set_option linter.unusedVariables false
theorem wfi {n : Int} (h : (Lit.int .i64 n).wf = true) : IsI64 n := by
  unfold IsI64
  have h1 : decide (IntKind.i64.min ≤ n) = true ∧ decide (n ≤ IntKind.i64.max) = true := by simpa [Lit.wf] using h
  have e1 : IntKind.i64.min = -9223372036854775808 := by decide
  have e2 : IntKind.i64.max = 9223372036854775807 := by decide
  have h2 := of_decide_eq_true h1.1
  have h3 := of_decide_eq_true h1.2
  omega
section
variable {H : Type} {enc : TypeId × Value → H} {W : World} {cs : List Value}
theorem vote (h : Sees enc Tryd.prog W 26 cs) : ∃ a b, cs = [.int .i64 a, .int .i64 b] ∧ IsI64 b := by
  have hl := (struct Tryd.underlying26 h).1.trans (show Tryd.prog.cellsOf 26 = 2 by kernel_rfl)
  obtain ⟨a, b, rfl⟩ : ∃ a b, cs = [a, b] := by
    match cs, hl with
    | [a, b], _ => exact ⟨a, b, rfl⟩
  obtain ⟨x, e1, h1⟩ := int Tryd.underlying3 (part Tryd.underlying26 h 0 3 0 1 rfl (by kernel_rfl))
  obtain ⟨y, e2, h2⟩ := int Tryd.underlying3 (part Tryd.underlying26 h 1 3 1 1 rfl (by kernel_rfl))
  simp at e1 e2
  subst e1; subst e2
  exact ⟨x, y, rfl, wfi h2⟩
theorem snap (h : Sees enc Tryd.prog W 28 cs) : ∃ (a b c : Int) (t : ByteArray), cs = [.int .i64 a, .int .i64 b, .int .i64 c, .string t] ∧ t.size ≤ 140737488351232 := by
  have hl := (struct Tryd.underlying28 h).1.trans (show Tryd.prog.cellsOf 28 = 4 by kernel_rfl)
  obtain ⟨a, b, c, d, rfl⟩ : ∃ a b c d, cs = [a, b, c, d] := by
    match cs, hl with
    | [a, b, c, d], _ => exact ⟨a, b, c, d, rfl⟩
  obtain ⟨x, e1, h1⟩ := int Tryd.underlying3 (part Tryd.underlying28 h 0 3 0 1 rfl (by kernel_rfl))
  obtain ⟨y, e2, h2⟩ := int Tryd.underlying3 (part Tryd.underlying28 h 1 3 1 1 rfl (by kernel_rfl))
  obtain ⟨z, e3, h3⟩ := int Tryd.underlying3 (part Tryd.underlying28 h 2 3 2 1 rfl (by kernel_rfl))
  obtain ⟨t, e4, h4⟩ := str Tryd.underlying9 (part Tryd.underlying28 h 3 9 3 1 rfl (by kernel_rfl))
  simp at e1 e2 e3 e4
  subst e1; subst e2; subst e3; subst e4
  exact ⟨x, y, z, t, rfl, h4⟩
end
end Go.Proofs.YtbpnhaeladcbnaaDoor.Seen
