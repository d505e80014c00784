/- The disk law's arguments, as their data say them. -/
import Derived.Test.YtpdceondgbgpkaaDoorSeen
import Derived.Test.YtpdceondgbgpkaaDoorDsk10
namespace Go.Proofs.YtpdceondgbgpkaaDoor.Seen
open Go.RowKit
set_option linter.unusedVariables false
theorem bnd {n : Int} (h : (Lit.int .i64 n).wf = true) : -9223372036854775808 ≤ n ∧ n ≤ 9223372036854775807 := by
  have h1 : decide (IntKind.i64.min ≤ n) = true ∧ decide (n ≤ IntKind.i64.max) = true := by simpa [Lit.wf] using h
  have e1 : IntKind.i64.min = -9223372036854775808 := by decide
  have e2 : IntKind.i64.max = 9223372036854775807 := by decide
  have h2 := of_decide_eq_true h1.1
  have h3 := of_decide_eq_true h1.2
  omega
/-- Rows, each of which is the cells of something. -/
theorem rows_as {α : Type} (f : α → List Value) (p : α → Prop) : ∀ rs : List (List Value), (∀ r ∈ rs, ∃ x, r = f x ∧ p x) → ∃ xs : List α, rs = xs.map f ∧ ∀ x ∈ xs, p x
  | [], _ => ⟨[], rfl, fun x hx => by simp at hx⟩
  | r :: rs, h => by
    obtain ⟨x, rfl, hx⟩ := h r List.mem_cons_self
    obtain ⟨xs, rfl, hxs⟩ := rows_as f p rs (fun r hr => h r (List.mem_cons_of_mem _ hr))
    exact ⟨x :: xs, rfl, fun y hy => by rcases List.mem_cons.1 hy with rfl | h; exact hx; exact hxs y h⟩
section
variable {H : Type} {enc : TypeId × Value → H} {W : World} {cs : List Value}
theorem dact (h : Sees enc Tryd.prog W 28 cs) : ∃ x : Dsk.Act, cs = x.cells ∧ x.fit := by
  have hl := (struct Tryd.underlying28 h).1.trans (show Tryd.prog.cellsOf 28 = 5 by kernel_rfl)
  obtain ⟨a, b, c, d, e, rfl⟩ : ∃ a b c d e, cs = [a, b, c, d, e] := by
    match cs, hl with
    | [a, b, c, d, e], _ => exact ⟨a, b, c, d, e, rfl⟩
  obtain ⟨k, e1, h1⟩ := int Tryd.underlying3 (part Tryd.underlying28 h 0 3 0 1 rfl (by kernel_rfl))
  obtain ⟨s, e2, h2⟩ := str Tryd.underlying9 (part Tryd.underlying28 h 1 9 1 1 rfl (by kernel_rfl))
  obtain ⟨n, e3, h3⟩ := int Tryd.underlying3 (part Tryd.underlying28 h 2 3 2 1 rfl (by kernel_rfl))
  obtain ⟨m, e4, h4⟩ := int Tryd.underlying3 (part Tryd.underlying28 h 3 3 3 1 rfl (by kernel_rfl))
  obtain ⟨t, e5, h5⟩ := str Tryd.underlying9 (part Tryd.underlying28 h 4 9 4 1 rfl (by kernel_rfl))
  simp at e1 e2 e3 e4 e5
  subst e1; subst e2; subst e3; subst e4; subst e5
  refine ⟨⟨k, s, n, m, t⟩, rfl, bnd h3, bnd h4, ?_, ?_⟩
  · show s.size ≤ maxLen
    unfold maxLen; omega
  · show t.size ≤ maxLen
    unfold maxLen; omega
end
end Go.Proofs.YtpdceondgbgpkaaDoor.Seen
