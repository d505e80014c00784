/- The document's votes and snapshots: which may be. -/
import Derived.Test.YthaehoefbejadaaDoorShl2
namespace Go.Proofs.YthaehoefbejadaaDoor
open Go.RowKit
set_option linter.unusedSimpArgs false
set_option linter.unusedVariables false
set_option maxRecDepth 100000 in
set_option maxHeartbeats 4000000 in
theorem rvoted_any (v : Vt) (w : World) : Calls Tryd.prog 58 #[v.val] w fun r w' => r = .returned (.bool (decide v.ok)) ∧ Below w.heap.size w w' := by
  obtain ⟨a, b⟩ := v
  have hb : Below w.heap.size w (w.alloc (.cells #[.int .i64 a, .int .i64 b] 41)) := (Below.refl _ w).alloc (Nat.le_refl _) _
  unfold Vt.val
  dsimp only
  by_cases c0 : 0 ≤ a
  · skip
    by_cases c1 : a ≤ 549755813888
    · skip
      by_cases c2 : -1 ≤ b
      · skip
        by_cases c3 : b ≤ 6
        · skip
          rw [decide_eq_true (show Vt.ok ⟨a, b⟩ from ⟨c0, c1, c2, c3⟩)]
          go_enter Tryd.func58, Tryd.ntmps58
          go_wp2_with fail
          go_ret
          exact ⟨by simp [*], hb⟩
        · have n3 : 6 < b := by omega
          rw [decide_eq_false (show ¬ Vt.ok ⟨a, b⟩ from fun h => c3 h.2.2.2)]
          clear c3
          go_enter Tryd.func58, Tryd.ntmps58
          go_wp2_with fail
          go_ret
          exact ⟨by simp [*], hb⟩
      · have n2 : b < -1 := by omega
        rw [decide_eq_false (show ¬ Vt.ok ⟨a, b⟩ from fun h => c2 h.2.2.1)]
        clear c2
        go_enter Tryd.func58, Tryd.ntmps58
        go_wp2_with fail
        go_ret
        exact ⟨by simp [*], hb⟩
    · have n1 : 549755813888 < a := by omega
      rw [decide_eq_false (show ¬ Vt.ok ⟨a, b⟩ from fun h => c1 h.2.1)]
      clear c1
      go_enter Tryd.func58, Tryd.ntmps58
      go_wp2_with fail
      go_ret
      exact ⟨by simp [*], hb⟩
  · have n0 : a < 0 := by omega
    rw [decide_eq_false (show ¬ Vt.ok ⟨a, b⟩ from fun h => c0 h.1)]
    clear c0
    go_enter Tryd.func58, Tryd.ntmps58
    go_wp2_with fail
    go_ret
    exact ⟨by simp [*], hb⟩
set_option maxRecDepth 100000 in
set_option maxHeartbeats 4000000 in
theorem rmay_any (v : Sn) (w : World) : Calls Tryd.prog 64 #[v.val] w fun r w' => r = .returned (.bool (decide v.ok)) ∧ Below w.heap.size w w' := by
  obtain ⟨a, b, c, t⟩ := v
  have hb : Below w.heap.size w (w.alloc (.cells #[.int .i64 a, .int .i64 b, .int .i64 c, .string t] 48)) := (Below.refl _ w).alloc (Nat.le_refl _) _
  unfold Sn.val
  dsimp only
  by_cases c0 : 0 ≤ a
  · skip
    by_cases c1 : a ≤ 549755813888
    · skip
      by_cases c2 : 0 ≤ b
      · skip
        by_cases c3 : b ≤ 549755813888
        · skip
          by_cases c4 : 0 ≤ c
          · skip
            by_cases c5 : c ≤ 127
            · skip
              by_cases c6 : (t.size : Int) ≤ 262144
              · skip
                rw [decide_eq_true (show Sn.ok ⟨a, b, c, t⟩ from ⟨c0, c1, c2, c3, c4, c5, (show t.size ≤ 262144 by omega)⟩)]
                go_enter Tryd.func64, Tryd.ntmps64
                go_wp2_with fail
                go_ret
                exact ⟨by simp [*], hb⟩
              · have n6 : 262144 < (t.size : Int) := by omega
                rw [decide_eq_false (show ¬ Sn.ok ⟨a, b, c, t⟩ from fun h => c6 (by have h4 : t.size ≤ 262144 := h.2.2.2.2.2.2; omega))]
                clear c6
                go_enter Tryd.func64, Tryd.ntmps64
                go_wp2_with fail
                go_ret
                exact ⟨by simp [*], hb⟩
            · have n5 : 127 < c := by omega
              rw [decide_eq_false (show ¬ Sn.ok ⟨a, b, c, t⟩ from fun h => c5 h.2.2.2.2.2.1)]
              clear c5
              go_enter Tryd.func64, Tryd.ntmps64
              go_wp2_with fail
              go_ret
              exact ⟨by simp [*], hb⟩
          · have n4 : c < 0 := by omega
            rw [decide_eq_false (show ¬ Sn.ok ⟨a, b, c, t⟩ from fun h => c4 h.2.2.2.2.1)]
            clear c4
            go_enter Tryd.func64, Tryd.ntmps64
            go_wp2_with fail
            go_ret
            exact ⟨by simp [*], hb⟩
        · have n3 : 549755813888 < b := by omega
          rw [decide_eq_false (show ¬ Sn.ok ⟨a, b, c, t⟩ from fun h => c3 h.2.2.2.1)]
          clear c3
          go_enter Tryd.func64, Tryd.ntmps64
          go_wp2_with fail
          go_ret
          exact ⟨by simp [*], hb⟩
      · have n2 : b < 0 := by omega
        rw [decide_eq_false (show ¬ Sn.ok ⟨a, b, c, t⟩ from fun h => c2 h.2.2.1)]
        clear c2
        go_enter Tryd.func64, Tryd.ntmps64
        go_wp2_with fail
        go_ret
        exact ⟨by simp [*], hb⟩
    · have n1 : 549755813888 < a := by omega
      rw [decide_eq_false (show ¬ Sn.ok ⟨a, b, c, t⟩ from fun h => c1 h.2.1)]
      clear c1
      go_enter Tryd.func64, Tryd.ntmps64
      go_wp2_with fail
      go_ret
      exact ⟨by simp [*], hb⟩
  · have n0 : a < 0 := by omega
    rw [decide_eq_false (show ¬ Sn.ok ⟨a, b, c, t⟩ from fun h => c0 h.1)]
    clear c0
    go_enter Tryd.func64, Tryd.ntmps64
    go_wp2_with fail
    go_ret
    exact ⟨by simp [*], hb⟩
set_option maxRecDepth 100000 in
set_option maxHeartbeats 2000000 in
theorem rnumber_any (n : Nat) (w : World) : Calls Tryd.prog 56 #[.int .u64 n] w fun r w' => r = .returned (.int .i64 (numN n)) ∧ w' = w := by
  unfold numN
  by_cases hl : 549755813888 < n
  · rw [if_pos hl]
    have hl1 : (549755813888 : Int) < (n : Int) := by omega
    go_enter Tryd.func56, Tryd.ntmps56
    go_wp2_with fail
    go_ret
    exact ⟨rfl, rfl⟩
  · rw [if_neg hl]
    have hl1 : (n : Int) ≤ (549755813888 : Int) := by omega
    have hw : wrap64 (n : Int) = n := by unfold wrap64; omega
    go_enter Tryd.func56, Tryd.ntmps56
    go_wp2_with fail
    go_ret
    exact ⟨rfl, rfl⟩
end Go.Proofs.YthaehoefbejadaaDoor
