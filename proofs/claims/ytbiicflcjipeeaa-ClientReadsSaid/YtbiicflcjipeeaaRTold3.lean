/- The document's teller: Told, another node is asked. -/
import Derived.Test.YtbiicflcjipeeaaRTold2
namespace Go.Proofs.Ytbiicflcjipeeaa
open Go.RowKit
set_option linter.unusedSimpArgs false
set_option linter.unusedVariables false
open Sp (fold intB textS bs)
attribute [local go_sem] Mem.run_store_float Mem.After.cell
set_option maxRecDepth 100000 in
set_option maxHeartbeats 4000000 in
theorem rTold_out1 (nodes to id seq err num lead : Int) (A B : Option Addr) (n m c d : Nat) (w : World) (hn : 0 < n) (he : err ≠ 0) (h4 : err ≠ 4) (h130 : err ≠ 130) (hl : lead < 0 ∨ nodes ≤ lead) (f1 : 1 ≤ nodes) (f2 : nodes ≤ 7) (f3 : 0 ≤ to) (f4 : to < nodes) :
    Calls Try.prog 12 #[rtl nodes to id seq (.slice A n c) (.slice B m d), .int .i64 err, .int .i64 num, .int .i64 lead] w fun r w' => r = .returned (rtl nodes (nextTo to nodes) id seq (.slice A n c) (.slice B m d)) ∧ Below w.heap.size w w' := by
  have hn' : (0 : Int) < (n : Int) := by omega
  have he0 : (err == 0) = false := by simpa using he
  have he4 : (err == 4) = false := by simpa using h4
  have he130 : (err == 130) = false := by simpa using h130
  have HR := Lib.hid (fun w => rLate_any nodes to id seq A B n m c d w f1 f2 f3 f4)
  have hl2 : lead < 0 ∨ (0 ≤ lead ∧ nodes ≤ lead) := by omega
  clear hl
  rcases hl2 with h1 | ⟨h1, h2⟩
  all_goals
    go_enter Try.func12, Try.ntmps12
    go_wp2_with (
      go_at_call 14
      refine (HR.out _).mono ?_
      rintro _ w1 ⟨rfl, hb1⟩
      obtain ⟨hbl, hX, hZ⟩ := two_kept hb1
      have z0 := Mem.cell hZ (j := 0) rfl
      have z1 := Mem.cell hZ (j := 1) rfl
      have z2 := Mem.cell hZ (j := 2) rfl
      have z3 := Mem.cell hZ (j := 3) rfl
      have z4 := Mem.cell hZ (j := 4) rfl
      have z5 := Mem.cell hZ (j := 5) rfl
      have y0 := Mem.free (j := 0) hZ
      have y1 := Mem.free (j := 1) hZ
      have y2 := Mem.free (j := 2) hZ
      have y3 := Mem.free (j := 3) hZ
      have y4 := Mem.free (j := 4) hZ
      have y5 := Mem.free (j := 5) hZ
      have hlZ := Mem.lt hZ
      have HL := Lib.hid hbl
      clear hbl hX hZ hb1)
    refine bodyPost_ret (v := rtl nodes (nextTo to nodes) id seq (.slice A n c) (.slice B m d)) (by simp [results, Try.results12, go_sem, *]) rfl ⟨rfl, ?_⟩
    have h := HL.out
    with_reducible repeat (first | exact h | refine Below.setCell ?_ (by simp; try omega) _)
set_option maxRecDepth 100000 in
set_option maxHeartbeats 4000000 in
theorem rTold_out0 (nodes to id seq err num lead : Int) (A B : Option Addr) (n m c d : Nat) (w : World) (hn : 0 < n) (he : err ≠ 0) (hi : id = 0) (hl : lead < 0 ∨ nodes ≤ lead) (f1 : 1 ≤ nodes) (f2 : nodes ≤ 7) (f3 : 0 ≤ to) (f4 : to < nodes) :
    Calls Try.prog 12 #[rtl nodes to id seq (.slice A n c) (.slice B m d), .int .i64 err, .int .i64 num, .int .i64 lead] w fun r w' => r = .returned (rtl nodes (nextTo to nodes) 0 seq (.slice A n c) (.slice B m d)) ∧ Below w.heap.size w w' := by
  have hn' : (0 : Int) < (n : Int) := by omega
  have he0 : (err == 0) = false := by simpa using he
  subst hi
  have HR := Lib.hid (fun w => rLate_any nodes to 0 seq A B n m c d w f1 f2 f3 f4)
  have hl2 : lead < 0 ∨ (0 ≤ lead ∧ nodes ≤ lead) := by omega
  clear hl
  rcases hl2 with h1 | ⟨h1, h2⟩
  all_goals by_cases h4 : err = 4
  all_goals by_cases h130 : err = 130
  all_goals try (have h4b : (err == 4) = false := by simpa using h4)
  all_goals try (have h130b : (err == 130) = false := by simpa using h130)
  all_goals try subst h4
  all_goals try subst h130
  all_goals try (exact absurd h130 (by decide))
  all_goals
    go_enter Try.func12, Try.ntmps12
    go_wp2_with (
      go_at_call 14
      refine (HR.out _).mono ?_
      rintro _ w1 ⟨rfl, hb1⟩
      obtain ⟨hbl, hX, hZ⟩ := two_kept hb1
      have z0 := Mem.cell hZ (j := 0) rfl
      have z1 := Mem.cell hZ (j := 1) rfl
      have z2 := Mem.cell hZ (j := 2) rfl
      have z3 := Mem.cell hZ (j := 3) rfl
      have z4 := Mem.cell hZ (j := 4) rfl
      have z5 := Mem.cell hZ (j := 5) rfl
      have y0 := Mem.free (j := 0) hZ
      have y1 := Mem.free (j := 1) hZ
      have y2 := Mem.free (j := 2) hZ
      have y3 := Mem.free (j := 3) hZ
      have y4 := Mem.free (j := 4) hZ
      have y5 := Mem.free (j := 5) hZ
      have hlZ := Mem.lt hZ
      have HL := Lib.hid hbl
      clear hbl hX hZ hb1)
    refine bodyPost_ret (v := rtl nodes (nextTo to nodes) 0 seq (.slice A n c) (.slice B m d)) (by simp [results, Try.results12, go_sem, *]) rfl ⟨rfl, ?_⟩
    have h := HL.out
    with_reducible repeat (first | exact h | refine Below.setCell ?_ (by simp; try omega) _)
end Go.Proofs.Ytbiicflcjipeeaa
