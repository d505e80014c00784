/- The acts of ClientWhole, as an argument's data say them. -/
import Derived.Test.YtiomhmdkaglelaaG5
import Derived.Test.YtiomhmdkaglelaaG21
namespace Go.Proofs.Ytiomhmdkaglelaa.Seen
open Go.RowKit
set_option linter.unusedVariables false
section
variable {H : Type} {enc : TypeId × Value → H} {W : World} {cs : List Value}
theorem wact (h : Sees enc Try.prog W 41 cs) : WAct cs := by
  have hl := (struct Try.underlying41 h).1.trans (show Try.prog.cellsOf 41 = 11 by kernel_rfl)
  obtain ⟨a, b, c, d, e, f, g, i, j, k, l, rfl⟩ : ∃ a b c d e f g i j k l, cs = [a, b, c, d, e, f, g, i, j, k, l] := by
    match cs, hl with
    | [a, b, c, d, e, f, g, i, j, k, l], _ => exact ⟨a, b, c, d, e, f, g, i, j, k, l, rfl⟩
  obtain ⟨x, e1, h1⟩ := i64 Try.underlying3 (part Try.underlying41 h 0 3 0 1 rfl (by kernel_rfl))
  obtain ⟨y, e4, h4⟩ := i64 Try.underlying3 (part Try.underlying41 h 3 3 8 1 rfl (by kernel_rfl))
  obtain ⟨z, e5, h5⟩ := i64 Try.underlying3 (part Try.underlying41 h 4 3 9 1 rfl (by kernel_rfl))
  simp at e1 e4 e5
  subst e1; subst e4; subst e5
  exact ⟨x, y, z, rfl, rfl, rfl⟩
end
end Go.Proofs.Ytiomhmdkaglelaa.Seen
namespace Go.Proofs.Ytiomhmdkaglelaa
open Go.RowKit
theorem whole_rows {H : Type} {enc : TypeId × Value → H} (A : Option Addr) (n cap : Nat) (rs : List (List Value)) (most : Int) (w : World) (hR : Mem.Rd w (fun g => g < w.heap.size) 11 (.slice A n cap) rs) (hB : rs.length * 128 ≤ 140737488351232)
    (hE : ∀ r ∈ rs, r.length = 11 ∧ Seen.Sees enc Try.prog w 41 r) :
    Calls Try.prog 3 #[.slice A n cap, .int .i64 most] w fun r w' => r = .returned (.bool true) ∧ Below w.heap.size w w' :=
  whole_any most _ rs w hR (fun r hr => Seen.wact (hE r hr).2) (by omega)
end Go.Proofs.Ytiomhmdkaglelaa
