/- Which values and events may be: event's and the document's. -/
import Derived.Test.YtbiicflcjipeeaaWord
namespace Go.Proofs.Ytbiicflcjipeeaa
open Go.RowKit
set_option linter.unusedSimpArgs false
set_option linter.unusedVariables false
open Sp (fold intB textS bs)
/-- A value. -/
structure Val where
  kind : Int
  n : Int
  f : Nat
  s : ByteArray
def Val.cells (v : Val) : List Value := [.int .i64 v.kind, .int .i64 v.n, .float .f64 v.f, .string v.s]
def Val.may (v : Val) : Prop := v.kind = 1 ∧ v.f = 0 ∧ v.s.size = 0 ∨ v.kind = 2 ∧ v.n = 0 ∧ v.s.size = 0 ∨ v.kind = 3 ∧ v.n = 0 ∧ v.f = 0 ∧ v.s.size ≤ 64
noncomputable def mayB (v : Val) : Bool := @decide v.may (Classical.propDecidable _)
theorem mayB_true {v : Val} (h : v.may) : mayB v = true := by unfold mayB; simp [h]
theorem mayB_iff {v : Val} : mayB v = true ↔ v.may := by unfold mayB; simp
theorem mayB_false {v : Val} (h : ¬ v.may) : mayB v = false := by unfold mayB; simp [h]
theorem empty_eq (s : ByteArray) : s.toList.isEmpty = decide (s.size = 0) := by
  have := toList_nil s
  rw [Bool.eq_iff_iff, List.isEmpty_iff, decide_eq_true_iff]
  exact this
theorem may_eq (v : Val) : mayB v = if (v.kind == 1) then (decide (v.f = 0) && v.s.toList.isEmpty) else if (v.kind == 2) then ((v.n == 0) && v.s.toList.isEmpty) else if (v.kind == 3) then ((v.n == 0) && decide (v.f = 0) && decide ((v.s.size : Int) ≤ 64)) else false := by
  rw [Bool.eq_iff_iff, mayB_iff, empty_eq]
  unfold Val.may
  by_cases h1 : v.kind = 1
  · simp [h1]
  · by_cases h2 : v.kind = 2
    · simp [h2]
    · by_cases h3 : v.kind = 3
      · simp [h3, and_assoc]; omega
      · simp [h1, h2, h3]
set_option maxRecDepth 100000 in
set_option maxHeartbeats 1000000 in
theorem may_any (v : Val) (w : World) (hs : v.s.size ≤ 140737488351232) :
    Calls Try.prog 65 #[.agg #[.int .i64 v.kind, .int .i64 v.n, .float .f64 v.f, .string v.s]] w fun e w' => e = .returned (.bool (mayB v)) ∧ Below w.heap.size w w' := by
  have hfb := f64bits
  obtain ⟨kind, n, f, s⟩ := v
  dsimp only at hs ⊢
  go_enter Try.func65, Try.ntmps65
  go_wp2_with fail
  go_quiet (fail)
  go_wp2_with fail
  all_goals
    go_ret
    refine ⟨Mem.ret_bool ?_, Mem.bdrewN ((Below.refl _ _).alloc (Nat.le_refl _) _) _⟩
    rw [may_eq]
    simp [*]
theorem beq_cases (a b : Int) : (a == b) = true ∨ (a == b) = false := by cases (a == b) <;> simp
set_option maxRecDepth 100000 in
set_option maxHeartbeats 4000000 in
theorem rmay_any (v : Val) (w : World) (hs : v.s.size ≤ 140737488351232) :
    Calls Try.prog 64 #[.agg #[.int .i64 v.kind, .int .i64 v.n, .float .f64 v.f, .string v.s]] w fun e w' => e = .returned (.bool (mayB v)) ∧ Below w.heap.size w w' := by
  have hfb := f64bits
  obtain ⟨kind, n, f, s⟩ := v
  dsimp only at hs ⊢
  have hk : (kind < 1 ∨ kind = 1) ∨ (kind = 2 ∨ kind = 3 ∨ 3 < kind) := by omega
  rcases hk with (hk | rfl) | (rfl | rfl | hk)
  all_goals
    go_enter Try.func64, Try.ntmps64
    go_wp2_with fail
    all_goals
      go_ret
      refine ⟨Mem.ret_bool ?_, (Below.refl _ _).alloc (Nat.le_refl _) _⟩
      clear hfb
      have hz := toList_nil s
      first
      | (rw [mayB_false (by unfold Val.may; dsimp only; omega)]; done)
      | (rw [may_eq]; simp [*]; done)
      | (rw [may_eq]; by_cases h0 : s.size = 0 <;> simp [*] at * <;> first | done | omega)
end Go.Proofs.Ytbiicflcjipeeaa
