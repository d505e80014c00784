/- The document's teller: Told. -/
import Derived.Test.YtbiicflcjipeeaaRAsk
namespace Go.Proofs.Ytbiicflcjipeeaa
open Go.RowKit
set_option linter.unusedSimpArgs false
set_option linter.unusedVariables false
open Sp (fold intB textS bs)
attribute [local go_sem] Mem.run_store_float Mem.After.cell
set_option maxRecDepth 100000 in
set_option maxHeartbeats 4000000 in
theorem rTold_none (nodes to id seq err num lead : Int) (A B : Option Addr) (n m c d : Nat) (w : World) (hn : n = 0) :
    Calls Try.prog 12 #[rtl nodes to id seq (.slice A n c) (.slice B m d), .int .i64 err, .int .i64 num, .int .i64 lead] w fun r w' => r = .returned (rtl nodes to id seq (.slice A 0 c) (.slice B m d)) ∧ Below w.heap.size w w' := by
  subst hn
  go_enter Try.func12, Try.ntmps12
  go_wp2_with fail
  all_goals
    refine bodyPost_ret (v := rtl nodes to id seq (.slice A 0 c) (.slice B m d)) (by simp [results, Try.results12, go_sem, *]) rfl ⟨rfl, ?_⟩
    with_reducible repeat (first | exact Below.refl _ _ | refine Below.setCell ?_ (by simp) _ | refine Below.alloc ?_ (by simp) _ | refine Below.drew ?_ | refine Mem.bdrewN ?_ _)
set_option maxRecDepth 100000 in
set_option maxHeartbeats 4000000 in
theorem rTold_open (nodes to id seq err num lead : Int) (A B : Option Addr) (n m c d : Nat) (w : World) (hn : 0 < n) (he : err = 0) (hi : id = 0) (h1 : 1 ≤ num) (h2 : num ≤ 549755813888) :
    Calls Try.prog 12 #[rtl nodes to id seq (.slice A n c) (.slice B m d), .int .i64 err, .int .i64 num, .int .i64 lead] w fun r w' => r = .returned (rtl nodes to num 0 (.slice A n c) (.slice B m d)) ∧ Below w.heap.size w w' := by
  have hn' : (0 : Int) < (n : Int) := by omega
  subst he
  subst hi
  go_enter Try.func12, Try.ntmps12
  go_wp2_with fail
  all_goals
    refine bodyPost_ret (v := rtl nodes to num 0 (.slice A n c) (.slice B m d)) (by simp [results, Try.results12, go_sem, *]) rfl ⟨rfl, ?_⟩
    with_reducible repeat (first | exact Below.refl _ _ | refine Below.setCell ?_ (by simp) _ | refine Below.alloc ?_ (by simp) _ | refine Below.drew ?_ | refine Mem.bdrewN ?_ _)
set_option maxRecDepth 100000 in
set_option maxHeartbeats 4000000 in
theorem rTold_open_no1 (nodes to id seq err num lead : Int) (A B : Option Addr) (n m c d : Nat) (w : World) (hn : 0 < n) (he : err = 0) (hi : id = 0) (h1 : num < 1) :
    Calls Try.prog 12 #[rtl nodes to id seq (.slice A n c) (.slice B m d), .int .i64 err, .int .i64 num, .int .i64 lead] w fun r w' => r = .returned (rtl nodes to 0 seq (.slice A n c) (.slice B m d)) ∧ Below w.heap.size w w' := by
  have hn' : (0 : Int) < (n : Int) := by omega
  subst he
  subst hi
  go_enter Try.func12, Try.ntmps12
  go_wp2_with fail
  all_goals
    refine bodyPost_ret (v := rtl nodes to 0 seq (.slice A n c) (.slice B m d)) (by simp [results, Try.results12, go_sem, *]) rfl ⟨rfl, ?_⟩
    with_reducible repeat (first | exact Below.refl _ _ | refine Below.setCell ?_ (by simp) _ | refine Below.alloc ?_ (by simp) _ | refine Below.drew ?_ | refine Mem.bdrewN ?_ _)
set_option maxRecDepth 100000 in
set_option maxHeartbeats 4000000 in
theorem rTold_open_no2 (nodes to id seq err num lead : Int) (A B : Option Addr) (n m c d : Nat) (w : World) (hn : 0 < n) (he : err = 0) (hi : id = 0) (h1 : 1 ≤ num) (h2 : 549755813888 < num) :
    Calls Try.prog 12 #[rtl nodes to id seq (.slice A n c) (.slice B m d), .int .i64 err, .int .i64 num, .int .i64 lead] w fun r w' => r = .returned (rtl nodes to 0 seq (.slice A n c) (.slice B m d)) ∧ Below w.heap.size w w' := by
  have hn' : (0 : Int) < (n : Int) := by omega
  subst he
  subst hi
  go_enter Try.func12, Try.ntmps12
  go_wp2_with fail
  all_goals
    refine bodyPost_ret (v := rtl nodes to 0 seq (.slice A n c) (.slice B m d)) (by simp [results, Try.results12, go_sem, *]) rfl ⟨rfl, ?_⟩
    with_reducible repeat (first | exact Below.refl _ _ | refine Below.setCell ?_ (by simp) _ | refine Below.alloc ?_ (by simp) _ | refine Below.drew ?_ | refine Mem.bdrewN ?_ _)
set_option maxRecDepth 100000 in
set_option maxHeartbeats 4000000 in
theorem rTold_not (nodes to id seq err num lead : Int) (A B : Option Addr) (n m c d : Nat) (w : World) (hn : 0 < n) (he : err = 0) (hi : id ≠ 0) (hq0 : 0 ≤ seq) (hq1 : seq < 9223372036854775807) (hs : num ≠ seq + 1) :
    Calls Try.prog 12 #[rtl nodes to id seq (.slice A n c) (.slice B m d), .int .i64 err, .int .i64 num, .int .i64 lead] w fun r w' => r = .returned (rtl nodes to id seq (.slice A n c) (.slice B m d)) ∧ Below w.heap.size w w' := by
  have hn' : (0 : Int) < (n : Int) := by omega
  subst he
  have hi' : (id == 0) = false := by simpa using hi
  have e1 : IntKind.i64.wrap (seq + 1) = seq + 1 := IntWalk.i64_in _ (by omega)
  have hs' : (num == seq + 1) = false := by simpa using hs
  go_enter Try.func12, Try.ntmps12
  go_wp2_with fail
  all_goals
    refine bodyPost_ret (v := rtl nodes to id seq (.slice A n c) (.slice B m d)) (by simp [results, Try.results12, go_sem, *]) rfl ⟨rfl, ?_⟩
    with_reducible repeat (first | exact Below.refl _ _ | refine Below.setCell ?_ (by simp) _ | refine Below.alloc ?_ (by simp) _ | refine Below.drew ?_ | refine Mem.bdrewN ?_ _)
set_option maxRecDepth 100000 in
set_option maxHeartbeats 4000000 in
theorem rTold_lost (nodes to id seq err num lead : Int) (A B : Option Addr) (n m c d : Nat) (w : World) (hn : 0 < n) (he : err = 4) (hi : id ≠ 0) :
    Calls Try.prog 12 #[rtl nodes to id seq (.slice A n c) (.slice B m d), .int .i64 err, .int .i64 num, .int .i64 lead] w fun r w' => r = .returned (rtl nodes to 0 0 (.slice A n c) (.slice B m d)) ∧ Below w.heap.size w w' := by
  have hn' : (0 : Int) < (n : Int) := by omega
  subst he
  have hi' : (id == 0) = false := by simpa using hi
  go_enter Try.func12, Try.ntmps12
  go_wp2_with fail
  all_goals
    refine bodyPost_ret (v := rtl nodes to 0 0 (.slice A n c) (.slice B m d)) (by simp [results, Try.results12, go_sem, *]) rfl ⟨rfl, ?_⟩
    with_reducible repeat (first | exact Below.refl _ _ | refine Below.setCell ?_ (by simp) _ | refine Below.alloc ?_ (by simp) _ | refine Below.drew ?_ | refine Mem.bdrewN ?_ _)
set_option maxRecDepth 100000 in
set_option maxHeartbeats 4000000 in
theorem rTold_in0 (nodes to id seq err num lead : Int) (A B : Option Addr) (n m c d : Nat) (w : World) (hn : 0 < n) (he : err ≠ 0) (hi : id = 0) (h1 : 0 ≤ lead) (h2 : lead < nodes) :
    Calls Try.prog 12 #[rtl nodes to id seq (.slice A n c) (.slice B m d), .int .i64 err, .int .i64 num, .int .i64 lead] w fun r w' => r = .returned (rtl nodes lead 0 seq (.slice A n c) (.slice B m d)) ∧ Below w.heap.size w w' := by
  have hn' : (0 : Int) < (n : Int) := by omega
  have he0 : (err == 0) = false := by simpa using he
  subst hi
  go_enter Try.func12, Try.ntmps12
  by_cases h4 : err = 4
  all_goals by_cases h130 : err = 130
  all_goals try (have h4b : (err == 4) = false := by simpa using h4)
  all_goals try (have h130b : (err == 130) = false := by simpa using h130)
  all_goals try subst h4
  all_goals try subst h130
  all_goals try (exact absurd h130 (by decide))
  all_goals go_wp2_with fail
  all_goals
    refine bodyPost_ret (v := rtl nodes lead 0 seq (.slice A n c) (.slice B m d)) (by simp [results, Try.results12, go_sem, *]) rfl ⟨rfl, ?_⟩
    with_reducible repeat (first | exact Below.refl _ _ | refine Below.setCell ?_ (by simp) _ | refine Below.alloc ?_ (by simp) _ | refine Below.drew ?_ | refine Mem.bdrewN ?_ _)
set_option maxRecDepth 100000 in
set_option maxHeartbeats 4000000 in
theorem rTold_in1 (nodes to id seq err num lead : Int) (A B : Option Addr) (n m c d : Nat) (w : World) (hn : 0 < n) (he : err ≠ 0) (h4 : err ≠ 4) (h130 : err ≠ 130) (h1 : 0 ≤ lead) (h2 : lead < nodes) :
    Calls Try.prog 12 #[rtl nodes to id seq (.slice A n c) (.slice B m d), .int .i64 err, .int .i64 num, .int .i64 lead] w fun r w' => r = .returned (rtl nodes lead id seq (.slice A n c) (.slice B m d)) ∧ Below w.heap.size w w' := by
  have hn' : (0 : Int) < (n : Int) := by omega
  have he0 : (err == 0) = false := by simpa using he
  have he4 : (err == 4) = false := by simpa using h4
  have he130 : (err == 130) = false := by simpa using h130
  go_enter Try.func12, Try.ntmps12
  go_wp2_with fail
  all_goals
    refine bodyPost_ret (v := rtl nodes lead id seq (.slice A n c) (.slice B m d)) (by simp [results, Try.results12, go_sem, *]) rfl ⟨rfl, ?_⟩
    with_reducible repeat (first | exact Below.refl _ _ | refine Below.setCell ?_ (by simp) _ | refine Below.alloc ?_ (by simp) _ | refine Below.drew ?_ | refine Mem.bdrewN ?_ _)
end Go.Proofs.Ytbiicflcjipeeaa
