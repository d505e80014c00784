/- Events, as an argument's data say them. -/
import Derived.Test.YtbiicflcjipeeaaSeen
import Derived.Test.YtbiicflcjipeeaaEnc2
namespace Go.Proofs.Ytbiicflcjipeeaa.Seen
open Go.RowKit
set_option linter.unusedVariables false
theorem wf64 {n : Int} (h : (Lit.int .i64 n).wf = true) : IsI64 n := by
  unfold IsI64
  have h1 : decide (IntKind.i64.min ≤ n) = true ∧ decide (n ≤ IntKind.i64.max) = true := by simpa [Lit.wf] using h
  have e1 : IntKind.i64.min = -9223372036854775808 := by decide
  have e2 : IntKind.i64.max = 9223372036854775807 := by decide
  have h2 := of_decide_eq_true h1.1
  have h3 := of_decide_eq_true h1.2
  omega
section
variable {H : Type} {enc : TypeId × Value → H} {W : World} {cs : List Value}
theorem one {P : Program} {t : Nat} {cs : List Value} {k : IntKind} (ht : P.underlying t = some (.int k)) (h : Sees enc P W t cs) : ∃ n, cs = [.int k n] := by
  obtain ⟨n, h, _⟩ := int ht h
  exact ⟨n, h⟩
theorem i64 {P : Program} {t : Nat} {cs : List Value} (ht : P.underlying t = some (.int .i64)) (h : Sees enc P W t cs) : ∃ n, cs = [.int .i64 n] ∧ IsI64 n := by
  obtain ⟨n, h, hw⟩ := int ht h
  exact ⟨n, h, wf64 hw⟩
theorem val (h : Sees enc Try.prog W 102 cs) : ∃ v : Val, cs = v.cells ∧ IsI64 v.kind ∧ IsI64 v.n ∧ v.s.size ≤ 140737488351232 := by
  have hl := (struct Try.underlying102 h).1.trans (show Try.prog.cellsOf 102 = 4 by kernel_rfl)
  obtain ⟨a, b, c, d, rfl⟩ : ∃ a b c d, cs = [a, b, c, d] := by
    match cs, hl with
    | [a, b, c, d], _ => exact ⟨a, b, c, d, rfl⟩
  obtain ⟨k, e1, hk⟩ := i64 Try.underlying3 (part Try.underlying102 h 0 3 0 1 rfl (by kernel_rfl))
  obtain ⟨n, e2, hn⟩ := i64 Try.underlying3 (part Try.underlying102 h 1 3 1 1 rfl (by kernel_rfl))
  obtain ⟨f, e3⟩ := float Try.underlying100 (part Try.underlying102 h 2 100 2 1 rfl (by kernel_rfl))
  obtain ⟨s, e4, hs⟩ := str Try.underlying9 (part Try.underlying102 h 3 9 3 1 rfl (by kernel_rfl))
  simp at e1 e2 e3 e4
  subst e1; subst e2; subst e3; subst e4
  exact ⟨⟨k, n, f, s⟩, rfl, hk, hn, hs⟩
theorem fld (h : Sees enc Try.prog W 104 cs) : ∃ f : Fld, cs = f.cells ∧ IsI64 f.v.kind ∧ IsI64 f.v.n ∧ f.name.size ≤ 140737488351232 ∧ f.v.s.size ≤ 140737488351232 := by
  have hl := (struct Try.underlying104 h).1.trans (show Try.prog.cellsOf 104 = 5 by kernel_rfl)
  obtain ⟨a, b, c, d, g, rfl⟩ : ∃ a b c d g, cs = [a, b, c, d, g] := by
    match cs, hl with
    | [a, b, c, d, g], _ => exact ⟨a, b, c, d, g, rfl⟩
  obtain ⟨s, e1, hs⟩ := str Try.underlying9 (part Try.underlying104 h 0 9 0 1 rfl (by kernel_rfl))
  obtain ⟨v, e2, h1, h2, h3⟩ := val (part Try.underlying104 h 1 102 1 4 rfl (by kernel_rfl))
  simp at e1
  subst e1
  exact ⟨⟨s, v⟩, by rw [show [Value.string s, b, c, d, g] = Value.string s :: [b, c, d, g] from rfl, show [b, c, d, g] = v.cells from e2]; rfl, h1, h2, hs, h3⟩
/-- Rows, each of which is the cells of something. -/
theorem rows_of {α : Type} (f : α → List Value) (p : α → Prop) : ∀ rs : List (List Value), (∀ r ∈ rs, ∃ x, r = f x ∧ p x) → ∃ xs : List α, rs = xs.map f ∧ ∀ x ∈ xs, p x
  | [], _ => ⟨[], rfl, fun x hx => by simp at hx⟩
  | r :: rs, h => by
    obtain ⟨x, rfl, hx⟩ := h r List.mem_cons_self
    obtain ⟨xs, rfl, hxs⟩ := rows_of f p rs (fun r hr => h r (List.mem_cons_of_mem _ hr))
    exact ⟨x :: xs, rfl, fun y hy => by rcases List.mem_cons.1 hy with rfl | h; exact hx; exact hxs y h⟩
theorem evt (h : Sees enc Try.prog W 31 cs) : ∃ (e : Evt) (vf : Value), cs = [.int .i64 e.session, .int .i64 e.seq, .int .i64 e.stamp, .string e.kind, vf] ∧ EvR W (fun g => g < W.heap.size) e vf ∧ e.small ∧ e.wf := by
  have hl := (struct Try.underlying31 h).1.trans (show Try.prog.cellsOf 31 = 5 by kernel_rfl)
  obtain ⟨a, b, c, d, g, rfl⟩ : ∃ a b c d g, cs = [a, b, c, d, g] := by
    match cs, hl with
    | [a, b, c, d, g], _ => exact ⟨a, b, c, d, g, rfl⟩
  obtain ⟨x, e1, h1⟩ := i64 Try.underlying3 (part Try.underlying31 h 0 3 0 1 rfl (by kernel_rfl))
  obtain ⟨y, e2, h2⟩ := i64 Try.underlying3 (part Try.underlying31 h 1 3 1 1 rfl (by kernel_rfl))
  obtain ⟨z, e3, h3⟩ := i64 Try.underlying3 (part Try.underlying31 h 2 3 2 1 rfl (by kernel_rfl))
  obtain ⟨k, e4, h4⟩ := str Try.underlying9 (part Try.underlying31 h 3 9 3 1 rfl (by kernel_rfl))
  obtain ⟨v, rs, e5, hR, hz, hrs⟩ := rows 5 Try.underlying29 (by kernel_rfl) (by omega) (part Try.underlying31 h 4 29 4 1 rfl (by kernel_rfl))
  simp at e1 e2 e3 e4 e5
  subst e1; subst e2; subst e3; subst e4; subst e5
  obtain ⟨fs, rfl, hfs⟩ := rows_of Fld.cells (fun f => IsI64 f.v.kind ∧ IsI64 f.v.n ∧ f.name.size ≤ 140737488351232 ∧ f.v.s.size ≤ 140737488351232) rs (fun r hr => fld (hrs r hr).2)
  exact ⟨⟨x, y, z, k, fs⟩, _, rfl, hR, ⟨h4, fun f hf => ⟨(hfs f hf).2.2.1, (hfs f hf).2.2.2⟩⟩, h1, h2, h3, fun f hf => ⟨(hfs f hf).1, (hfs f hf).2.1⟩⟩
theorem reply (h : Sees enc Try.prog W 34 cs) : ∃ a b : Int, cs = [.int .i64 a, .int .i64 b] ∧ IsI64 b := by
  have hl := (struct Try.underlying34 h).1.trans (show Try.prog.cellsOf 34 = 2 by kernel_rfl)
  obtain ⟨a, b, rfl⟩ : ∃ a b, cs = [a, b] := by
    match cs, hl with
    | [a, b], _ => exact ⟨a, b, rfl⟩
  obtain ⟨x, e1, h1⟩ := i64 Try.underlying32 (part Try.underlying34 h 0 32 0 1 rfl (by kernel_rfl))
  obtain ⟨y, e2, h2⟩ := i64 Try.underlying3 (part Try.underlying34 h 1 3 1 1 rfl (by kernel_rfl))
  simp at e1 e2
  subst e1; subst e2
  exact ⟨x, y, rfl, h2⟩
end
end Go.Proofs.Ytbiicflcjipeeaa.Seen
