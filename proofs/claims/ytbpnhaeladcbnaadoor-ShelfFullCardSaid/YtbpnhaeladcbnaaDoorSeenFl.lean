/- Savings, as an argument's data say them. -/
import Derived.Test.YtbpnhaeladcbnaaDoorSeenShl
import Derived.Test.YtbpnhaeladcbnaaDoorShl23
namespace Go.Proofs.YtbpnhaeladcbnaaDoor.Seen
open Go.RowKit
set_option linter.unusedVariables false
theorem rows_as {α : Type} (f : α → List Value) (p : α → Prop) : ∀ rs : List (List Value), (∀ r ∈ rs, ∃ x, r = f x ∧ p x) → ∃ xs : List α, rs = xs.map f ∧ ∀ x ∈ xs, p x
  | [], _ => ⟨[], rfl, fun x hx => by simp at hx⟩
  | r :: rs, h => by
    obtain ⟨x, rfl, hx⟩ := h r List.mem_cons_self
    obtain ⟨xs, rfl, hxs⟩ := rows_as f p rs (fun r hr => h r (List.mem_cons_of_mem _ hr))
    exact ⟨x :: xs, rfl, fun y hy => by rcases List.mem_cons.1 hy with rfl | h; exact hx; exact hxs y h⟩
section
variable {H : Type} {enc : TypeId × Value → H} {W : World} {cs : List Value}
theorem sv (h : Sees enc Tryd.prog W 32 cs) : ∃ x : Sv, cs = x.cells ∧ IsI64 x.v.to := by
  have hl := (struct Tryd.underlying32 h).1.trans (show Tryd.prog.cellsOf 32 = 7 by kernel_rfl)
  obtain ⟨a, b, c, d, e, f, g, rfl⟩ : ∃ a b c d e f g, cs = [a, b, c, d, e, f, g] := by
    match cs, hl with
    | [a, b, c, d, e, f, g], _ => exact ⟨a, b, c, d, e, f, g, rfl⟩
  obtain ⟨x, e1⟩ := bool Tryd.underlying4 (part Tryd.underlying32 h 0 4 0 1 rfl (by kernel_rfl))
  obtain ⟨va, vb, e2, h2⟩ := vote (part Tryd.underlying32 h 1 26 1 2 rfl (by kernel_rfl))
  obtain ⟨sa, sb, sc, st, e3, h3⟩ := snap (part Tryd.underlying32 h 2 28 3 4 rfl (by kernel_rfl))
  simp at e1 e2 e3
  obtain ⟨rfl, rfl⟩ := e2
  obtain ⟨rfl, rfl, rfl, rfl⟩ := e3
  subst e1
  exact ⟨⟨x, ⟨va, vb⟩, ⟨sa, sb, sc, st⟩⟩, rfl, h2⟩
end
end Go.Proofs.YtbpnhaeladcbnaaDoor.Seen
namespace Go.Proofs.YtbpnhaeladcbnaaDoor
open Go.RowKit
theorem Seen.ints_as {H : Type} {enc : TypeId × Value → H} {W : World} (rs : List (List Value)) (h : ∀ r ∈ rs, r.length = 1 ∧ Seen.Sees enc Tryd.prog W 3 r) : ∃ xs : List Int, rs = xs.map (fun n => [.int .i64 n]) := by
  obtain ⟨xs, h1, _⟩ := Seen.rows_as (fun n : Int => [Value.int .i64 n]) (fun _ => True) rs (fun r hr => by
    obtain ⟨n, rfl, _⟩ := Seen.int Tryd.underlying3 (h r hr).2
    exact ⟨n, rfl, trivial⟩)
  exact ⟨xs, h1⟩
theorem full_rows {H : Type} {enc : TypeId × Value → H} (A : Option Addr) (n cap : Nat) (rs : List (List Value)) (A2 : Option Addr) (n2 cap2 : Nat) (rs2 : List (List Value)) (w : World) (hR : Mem.Rd w (fun g => g < w.heap.size) 7 (.slice A n cap) rs)
    (hE : ∀ r ∈ rs, r.length = 7 ∧ Seen.Sees enc Tryd.prog w 32 r) (hR2 : Mem.Rd w (fun g => g < w.heap.size) 1 (.slice A2 n2 cap2) rs2) (hE2 : ∀ r ∈ rs2, r.length = 1 ∧ Seen.Sees enc Tryd.prog w 3 r) :
    Calls Tryd.prog 4 #[.slice A n cap, .slice A2 n2 cap2] w fun r w' => r = .returned (.bool true) ∧ Below w.heap.size w w' := by
  obtain ⟨l, rfl, hl⟩ := Seen.rows_as Sv.cells (fun x => IsI64 x.v.to) rs (fun r hr => Seen.sv (hE r hr).2)
  obtain ⟨l2, rfl⟩ := Seen.ints_as rs2 hE2
  exact ShelfFull_any l _ l2 _ _ _ w hR hR2 hl
end Go.Proofs.YtbpnhaeladcbnaaDoor
