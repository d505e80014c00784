/- Acts, as an argument's data say them. -/
import Derived.Test.YtbiicflcjipeeaaSeenEv
import Derived.Test.YtbiicflcjipeeaaLTells
namespace Go.Proofs.Ytbiicflcjipeeaa.Seen
open Go.RowKit
set_option linter.unusedVariables false
section
variable {H : Type} {enc : TypeId × Value → H} {W : World} {cs : List Value}
theorem act (h : Sees enc Try.prog W 37 cs) : ∃ a : ActV, cs = a.cells ∧ EvR W (fun g => g < W.heap.size) a.e a.vf ∧ a.e.small ∧ a.e.wf ∧ IsI64 a.num := by
  have hl := (struct Try.underlying37 h).1.trans (show Try.prog.cellsOf 37 = 11 by kernel_rfl)
  obtain ⟨a, b, c, d, e, f, g, i, j, k, l, rfl⟩ : ∃ a b c d e f g i j k l, cs = [a, b, c, d, e, f, g, i, j, k, l] := by
    match cs, hl with
    | [a, b, c, d, e, f, g, i, j, k, l], _ => exact ⟨a, b, c, d, e, f, g, i, j, k, l, rfl⟩
  obtain ⟨x, e1, h1⟩ := i64 Try.underlying3 (part Try.underlying37 h 0 3 0 1 rfl (by kernel_rfl))
  obtain ⟨ev, vf, e2, hR, hs, hw⟩ := evt (part Try.underlying37 h 1 31 1 5 rfl (by kernel_rfl))
  obtain ⟨er, nu, e3, h3⟩ := reply (part Try.underlying37 h 2 34 6 2 rfl (by kernel_rfl))
  obtain ⟨y, e4, h4⟩ := i64 Try.underlying3 (part Try.underlying37 h 3 3 8 1 rfl (by kernel_rfl))
  obtain ⟨z, e5, h5⟩ := i64 Try.underlying3 (part Try.underlying37 h 4 3 9 1 rfl (by kernel_rfl))
  have h6 := slice Try.underlying35 (part Try.underlying37 h 5 35 10 1 rfl (by kernel_rfl))
  obtain ⟨A, n, cap, e6⟩ : ∃ A n cap, l = Value.slice A n cap := by
    rcases h6 with h | ⟨A, n, cap, h, _⟩
    · exact ⟨none, 0, 0, by simpa using h⟩
    · exact ⟨some A, n, cap, by simpa using h⟩
  simp at e1 e2 e3 e4 e5
  obtain ⟨rfl, rfl, rfl, rfl, rfl⟩ := e2
  obtain ⟨rfl, rfl⟩ := e3
  subst e1; subst e4; subst e5; subst e6
  exact ⟨⟨x, ev, f, er, nu, y, z, A, n, cap⟩, rfl, hR, hs, hw, h3⟩
end
end Go.Proofs.Ytbiicflcjipeeaa.Seen
namespace Go.Proofs.Ytbiicflcjipeeaa
open Go.RowKit
theorem tells_rows {H : Type} {enc : TypeId × Value → H} (nodes : Int) (A : Option Addr) (n cap : Nat) (rs : List (List Value)) (w : World) (hR : Mem.Rd w (fun g => g < w.heap.size) 11 (.slice A n cap) rs) (hB : rs.length * 128 ≤ 140737488351232)
    (hE : ∀ r ∈ rs, r.length = 11 ∧ Seen.Sees enc Try.prog w 37 r) :
    Calls Try.prog 3 #[.int .i64 nodes, .slice A n cap] w fun r w' => r = .returned (.bool true) ∧ Below w.heap.size w w' := by
  by_cases hn : 1 ≤ nodes ∧ nodes ≤ 7
  · obtain ⟨l, rfl, hl⟩ := Seen.rows_of ActV.cells (fun a => EvR w (fun g => g < w.heap.size) a.e a.vf ∧ a.e.small ∧ a.e.wf ∧ IsI64 a.num) rs (fun r hr => Seen.act (hE r hr).2)
    rw [List.length_map] at hB
    exact tells_yes nodes _ l w hn.1 hn.2 ⟨hR, hl⟩ (by omega)
  · exact tells_no nodes A n cap w (by omega)
end Go.Proofs.Ytbiicflcjipeeaa
