/- The document's votes and snapshots: which may be. -/
import Derived.Test.YtbpnhaeladcbnaaDoorShl2
namespace Go.Proofs.YtbpnhaeladcbnaaDoor
open Go.RowKit
set_option linter.unusedSimpArgs false
set_option linter.unusedVariables false
set_option maxRecDepth 100000 in
set_option maxHeartbeats 4000000 in
theorem rvoted_any (v : Vt) (w : World) : Calls Tryd.prog 9 #[v.val] w fun r w' => r = .returned (.bool (decide v.ok)) ∧ Below w.heap.size w w' := by
  obtain ⟨a, b⟩ := v
  have hb : Below w.heap.size w (w.alloc (.cells #[.int .i64 a, .int .i64 b] 36)) := (Below.refl _ w).alloc (Nat.le_refl _) _
  unfold Vt.val
  dsimp only
  by_cases c0 : 0 ≤ a
  · skip
    by_cases c1 : a ≤ 549755813888
    · skip
      by_cases c2 : -1 ≤ b
      · skip
        by_cases c3 : b ≤ 6
        · skip
          rw [decide_eq_true (show Vt.ok ⟨a, b⟩ from ⟨c0, c1, c2, c3⟩)]
          go_enter Tryd.func9, Tryd.ntmps9
          go_wp2_with fail
          go_ret
          exact ⟨by simp [*], hb⟩
        · have n3 : 6 < b := by omega
          rw [decide_eq_false (show ¬ Vt.ok ⟨a, b⟩ from fun h => c3 h.2.2.2)]
          clear c3
          go_enter Tryd.func9, Tryd.ntmps9
          go_wp2_with fail
          go_ret
          exact ⟨by simp [*], hb⟩
      · have n2 : b < -1 := by omega
        rw [decide_eq_false (show ¬ Vt.ok ⟨a, b⟩ from fun h => c2 h.2.2.1)]
        clear c2
        go_enter Tryd.func9, Tryd.ntmps9
        go_wp2_with fail
        go_ret
        exact ⟨by simp [*], hb⟩
    · have n1 : 549755813888 < a := by omega
      rw [decide_eq_false (show ¬ Vt.ok ⟨a, b⟩ from fun h => c1 h.2.1)]
      clear c1
      go_enter Tryd.func9, Tryd.ntmps9
      go_wp2_with fail
      go_ret
      exact ⟨by simp [*], hb⟩
  · have n0 : a < 0 := by omega
    rw [decide_eq_false (show ¬ Vt.ok ⟨a, b⟩ from fun h => c0 h.1)]
    clear c0
    go_enter Tryd.func9, Tryd.ntmps9
    go_wp2_with fail
    go_ret
    exact ⟨by simp [*], hb⟩
set_option maxRecDepth 100000 in
set_option maxHeartbeats 4000000 in
theorem rmay_any (v : Sn) (w : World) : Calls Tryd.prog 10 #[v.val] w fun r w' => r = .returned (.bool (decide v.ok)) ∧ Below w.heap.size w w' := by
  obtain ⟨a, b, c, t⟩ := v
  have hb : Below w.heap.size w (w.alloc (.cells #[.int .i64 a, .int .i64 b, .int .i64 c, .string t] 38)) := (Below.refl _ w).alloc (Nat.le_refl _) _
  unfold Sn.val
  dsimp only
  by_cases c0 : 0 ≤ a
  · skip
    by_cases c1 : a ≤ 549755813888
    · skip
      by_cases c2 : 0 ≤ b
      · skip
        by_cases c3 : b ≤ 549755813888
        · skip
          by_cases c4 : 0 ≤ c
          · skip
            by_cases c5 : c ≤ 127
            · skip
              by_cases c6 : (t.size : Int) ≤ 262144
              · skip
                rw [decide_eq_true (show Sn.ok ⟨a, b, c, t⟩ from ⟨c0, c1, c2, c3, c4, c5, (show t.size ≤ 262144 by omega)⟩)]
                go_enter Tryd.func10, Tryd.ntmps10
                go_wp2_with fail
                go_ret
                exact ⟨by simp [*], hb⟩
              · have n6 : 262144 < (t.size : Int) := by omega
                rw [decide_eq_false (show ¬ Sn.ok ⟨a, b, c, t⟩ from fun h => c6 (by have h4 : t.size ≤ 262144 := h.2.2.2.2.2.2; omega))]
                clear c6
                go_enter Tryd.func10, Tryd.ntmps10
                go_wp2_with fail
                go_ret
                exact ⟨by simp [*], hb⟩
            · have n5 : 127 < c := by omega
              rw [decide_eq_false (show ¬ Sn.ok ⟨a, b, c, t⟩ from fun h => c5 h.2.2.2.2.2.1)]
              clear c5
              go_enter Tryd.func10, Tryd.ntmps10
              go_wp2_with fail
              go_ret
              exact ⟨by simp [*], hb⟩
          · have n4 : c < 0 := by omega
            rw [decide_eq_false (show ¬ Sn.ok ⟨a, b, c, t⟩ from fun h => c4 h.2.2.2.2.1)]
            clear c4
            go_enter Tryd.func10, Tryd.ntmps10
            go_wp2_with fail
            go_ret
            exact ⟨by simp [*], hb⟩
        · have n3 : 549755813888 < b := by omega
          rw [decide_eq_false (show ¬ Sn.ok ⟨a, b, c, t⟩ from fun h => c3 h.2.2.2.1)]
          clear c3
          go_enter Tryd.func10, Tryd.ntmps10
          go_wp2_with fail
          go_ret
          exact ⟨by simp [*], hb⟩
      · have n2 : b < 0 := by omega
        rw [decide_eq_false (show ¬ Sn.ok ⟨a, b, c, t⟩ from fun h => c2 h.2.2.1)]
        clear c2
        go_enter Tryd.func10, Tryd.ntmps10
        go_wp2_with fail
        go_ret
        exact ⟨by simp [*], hb⟩
    · have n1 : 549755813888 < a := by omega
      rw [decide_eq_false (show ¬ Sn.ok ⟨a, b, c, t⟩ from fun h => c1 h.2.1)]
      clear c1
      go_enter Tryd.func10, Tryd.ntmps10
      go_wp2_with fail
      go_ret
      exact ⟨by simp [*], hb⟩
  · have n0 : a < 0 := by omega
    rw [decide_eq_false (show ¬ Sn.ok ⟨a, b, c, t⟩ from fun h => c0 h.1)]
    clear c0
    go_enter Tryd.func10, Tryd.ntmps10
    go_wp2_with fail
    go_ret
    exact ⟨by simp [*], hb⟩
end Go.Proofs.YtbpnhaeladcbnaaDoor
