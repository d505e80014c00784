/- The document's tape: Text. · The document's votes and snapshots: which may be. · The document's number of a vote. -/
import Derived.Test.YtpdceondgbgpkaaGreatDoorG13
import Derived.Test.YtpdceondgbgpkaaGreatDoorG6
namespace Go.Proofs.YtpdceondgbgpkaaGreatDoor
open Go.RowKit
set_option linter.unusedSimpArgs false
set_option linter.unusedVariables false
section
variable (s : ByteArray) (e : Int) (w : World)
set_option maxRecDepth 100000 in
set_option maxHeartbeats 4000000 in
theorem rtptext_any (hs : s.size ≤ 140737488351232) : Calls Tryz.prog 53 #[(Tp.mk s e).val, .int .i64 262144] w fun r w' => r = .returned (.tuple #[(Tp.text 262144 ⟨s, e⟩).1.val, .string (Tp.text 262144 ⟨s, e⟩).2]) ∧ Below w.heap.size w w' := by
  have hb : Below w.heap.size w ((w.alloc (.cells #[.string s, .int .i64 e] 94)).alloc (.cells #[.string ⟨#[]⟩, .int .i64 0] 94)) := ((Below.refl _ w).alloc (Nat.le_refl _) _).alloc (by simp) _
  have hx := Mem.old (Mem.new w (.cells #[.string s, .int .i64 e] 94)) (.cells #[.string ⟨#[]⟩, .int .i64 0] 94)
  have hres := Mem.new (w.alloc (.cells #[.string s, .int .i64 e] 94)) (.cells #[.string ⟨#[]⟩, .int .i64 0] 94)
  rw [show (w.alloc (.cells #[.string s, .int .i64 e] 94)).heap.size = w.heap.size + 1 by simp] at hres
  have HB := Lib.hid hb
  have HX := Lib.hid (And.intro hx hres)
  clear hb hx hres
  unfold Tp.val
  by_cases he : e = 0
  · subst he
    have hn := fun W => rahead_any s W hs
    have hfit := rdN_fit s.data.toList
    rw [Array.length_toList] at hfit
    unfold Tp.text
    rw [if_neg (by simp)]
    dsimp only
    generalize Sp.rdN s.data.toList = x at hn hfit ⊢
    obtain ⟨n, k, f⟩ := x
    obtain ⟨h1, h2, h3, h4⟩ := hfit
    dsimp only at hn h1 h2 h3 h4 ⊢
    have hk1 : (k : Int) ≤ (s.size : Int) := by have : k ≤ s.size := h2; omega
    have hk0 : (0 : Int) ≤ (k : Int) := by omega
    have HK := Lib.hid (And.intro h1 (And.intro h2 (And.intro h3 h4)))
    clear h1 h2 h3 h4
    by_cases hf : f = 0
    · subst hf
      rw [if_neg (by simp)]
      by_cases hl : 262144 < n
      · rw [if_pos hl]
        have hl1 : (262144 : Int) < (n : Int) := by omega
        have hl0 : (0 : Int) < (n : Int) := by omega
        go_enter Tryz.func53, Tryz.ntmps53
        go_wp2_with (go_at_call 73; refine (hn _).mono ?_; rintro _ w2 ⟨rfl, hb2⟩; have hx2 := (hb2.block w.heap.size (by simp; omega)).trans HX.out.1; have hres2 := (hb2.block (w.heap.size + 1) (by simp)).trans HX.out.2; have x0 := Mem.cell (j := 0) (v := .string s) hx2 rfl; have f0 : w2.frozen? ⟨w.heap.size + 1, 0, none⟩ = false := Mem.free hres2; have f1 : w2.frozen? ⟨w.heap.size + 1, 1, none⟩ = false := Mem.free hres2; have r0 : w2.cell? ⟨w.heap.size + 1, 0, none⟩ = some (.string ⟨#[]⟩) := Mem.cell hres2 rfl; have r1 : w2.cell? ⟨w.heap.size + 1, 1, none⟩ = some (.int .i64 0) := Mem.cell hres2 rfl)
        have hq := Mem.set (j := 1) (u := .int .i64 2) (Mem.set (j := 0) (u := .string s) hres2)
        have q0 := Mem.cell (j := 0) (v := .string s) hq rfl
        have q1 := Mem.cell (j := 1) (v := .int .i64 2) hq rfl
        refine bodyPost_ret (v := .tuple #[.agg #[.string s, .int .i64 2], .string ⟨#[]⟩]) (by simp [results, Tryz.results53, go_sem, *]) rfl ⟨rfl, ?_⟩
        exact Mem.Ch.below (B := w.heap.size) (S := fun k => w.heap.size ≤ k) ((((Mem.Ch.of_below HB.out).trans' (Mem.Ch.of_below' hb2)).set (.inl (Nat.le_succ _))).set (.inl (Nat.le_succ _))) (fun k hk hS => by have h : w.heap.size ≤ k := hS; omega) (Nat.le_refl _)
      · rw [if_neg hl]
        have hl1 : (n : Int) ≤ 262144 := by omega
        have hn0 : (0 : Int) ≤ (n : Int) := by omega
        by_cases hr : s.size - k < n
        · rw [if_pos hr]
          have hr1 : (s.size : Int) - (k : Int) < (n : Int) := by have := HK.out.2.1; have e : s.data.size = s.size := rfl; omega
          have hr0 : (0 : Int) ≤ (s.size : Int) - (k : Int) := by omega
          go_enter Tryz.func53, Tryz.ntmps53
          go_wp2_with (go_at_call 73; refine (hn _).mono ?_; rintro _ w2 ⟨rfl, hb2⟩; have hx2 := (hb2.block w.heap.size (by simp; omega)).trans HX.out.1; have hres2 := (hb2.block (w.heap.size + 1) (by simp)).trans HX.out.2; have x0 := Mem.cell (j := 0) (v := .string s) hx2 rfl; have f0 : w2.frozen? ⟨w.heap.size + 1, 0, none⟩ = false := Mem.free hres2; have f1 : w2.frozen? ⟨w.heap.size + 1, 1, none⟩ = false := Mem.free hres2; have r0 : w2.cell? ⟨w.heap.size + 1, 0, none⟩ = some (.string ⟨#[]⟩) := Mem.cell hres2 rfl; have r1 : w2.cell? ⟨w.heap.size + 1, 1, none⟩ = some (.int .i64 0) := Mem.cell hres2 rfl)
          have hq := Mem.set (j := 1) (u := .int .i64 5) (Mem.set (j := 0) (u := .string s) hres2)
          have q0 := Mem.cell (j := 0) (v := .string s) hq rfl
          have q1 := Mem.cell (j := 1) (v := .int .i64 5) hq rfl
          refine bodyPost_ret (v := .tuple #[.agg #[.string s, .int .i64 5], .string ⟨#[]⟩]) (by simp [results, Tryz.results53, go_sem, *]) rfl ⟨rfl, ?_⟩
          exact Mem.Ch.below (B := w.heap.size) (S := fun k => w.heap.size ≤ k) ((((Mem.Ch.of_below HB.out).trans' (Mem.Ch.of_below' hb2)).set (.inl (Nat.le_succ _))).set (.inl (Nat.le_succ _))) (fun k hk hS => by have h : w.heap.size ≤ k := hS; omega) (Nat.le_refl _)
        · rw [if_neg hr]
          have hr1 : (n : Int) ≤ (s.size : Int) - (k : Int) := by have := HK.out.2.1; have e : s.data.size = s.size := rfl; omega
          have hr0 : (0 : Int) ≤ (s.size : Int) - (k : Int) := by omega
          have hw1 : wrap64 ((k : Int) + (n : Int)) = (k : Int) + (n : Int) := by unfold wrap64; omega
          have hw2 : wrap64 (n : Int) = (n : Int) := by unfold wrap64; omega
          have hw3 : (k : Int) + (n : Int) ≤ (s.size : Int) := by omega
          have hw4 : (k : Int) ≤ (k : Int) + (n : Int) := by omega
          go_enter Tryz.func53, Tryz.ntmps53
          go_wp2_with (go_at_call 73; refine (hn _).mono ?_; rintro _ w2 ⟨rfl, hb2⟩; have hx2 := (hb2.block w.heap.size (by simp; omega)).trans HX.out.1; have hres2 := (hb2.block (w.heap.size + 1) (by simp)).trans HX.out.2; have x0 := Mem.cell (j := 0) (v := .string s) hx2 rfl; have f0 : w2.frozen? ⟨w.heap.size + 1, 0, none⟩ = false := Mem.free hres2; have f1 : w2.frozen? ⟨w.heap.size + 1, 1, none⟩ = false := Mem.free hres2; have r0 : w2.cell? ⟨w.heap.size + 1, 0, none⟩ = some (.string ⟨#[]⟩) := Mem.cell hres2 rfl; have r1 : w2.cell? ⟨w.heap.size + 1, 1, none⟩ = some (.int .i64 0) := Mem.cell hres2 rfl)
          go_region
          go_wp2_with fail
          have hq := Mem.set (j := 1) (u := .int .i64 0) (Mem.set (j := 0) (u := .string (s.extract (k + n) s.size)) hres2)
          have q0 := Mem.cell (j := 0) (v := .string (s.extract (k + n) s.size)) hq rfl
          have q1 := Mem.cell (j := 1) (v := .int .i64 0) hq rfl
          refine bodyPost_ret (v := .tuple #[.agg #[.string (s.extract (k + n) s.size), .int .i64 0], .string (s.extract k (k + n))]) (by simp [results, Tryz.results53, go_sem, *]) rfl ⟨rfl, ?_⟩
          exact Mem.Ch.below (B := w.heap.size) (S := fun k => w.heap.size ≤ k) ((((Mem.Ch.of_below HB.out).trans' (Mem.Ch.of_below' hb2)).set (.inl (Nat.le_succ _))).set (.inl (Nat.le_succ _))).drew (fun k hk hS => by have h : w.heap.size ≤ k := hS; omega) (Nat.le_refl _)
    · rw [if_pos hf]
      have hf1 : f ≠ 0 := hf
      go_enter Tryz.func53, Tryz.ntmps53
      go_wp2_with (go_at_call 73; refine (hn _).mono ?_; rintro _ w2 ⟨rfl, hb2⟩; have hx2 := (hb2.block w.heap.size (by simp; omega)).trans HX.out.1; have hres2 := (hb2.block (w.heap.size + 1) (by simp)).trans HX.out.2; have x0 := Mem.cell (j := 0) (v := .string s) hx2 rfl; have f0 : w2.frozen? ⟨w.heap.size + 1, 0, none⟩ = false := Mem.free hres2; have f1 : w2.frozen? ⟨w.heap.size + 1, 1, none⟩ = false := Mem.free hres2; have r0 : w2.cell? ⟨w.heap.size + 1, 0, none⟩ = some (.string ⟨#[]⟩) := Mem.cell hres2 rfl; have r1 : w2.cell? ⟨w.heap.size + 1, 1, none⟩ = some (.int .i64 0) := Mem.cell hres2 rfl)
      have hq := Mem.set (j := 1) (u := .int .i64 f) (Mem.set (j := 0) (u := .string s) hres2)
      have q0 := Mem.cell (j := 0) (v := .string s) hq rfl
      have q1 := Mem.cell (j := 1) (v := .int .i64 f) hq rfl
      refine bodyPost_ret (v := .tuple #[.agg #[.string s, .int .i64 f], .string ⟨#[]⟩]) (by simp [results, Tryz.results53, go_sem, *]) rfl ⟨rfl, ?_⟩
      exact Mem.Ch.below (B := w.heap.size) (S := fun k => w.heap.size ≤ k) ((((Mem.Ch.of_below HB.out).trans' (Mem.Ch.of_below' hb2)).set (.inl (Nat.le_succ _))).set (.inl (Nat.le_succ _))) (fun k hk hS => by have h : w.heap.size ≤ k := hS; omega) (Nat.le_refl _)
  · have e2 : Tp.text 262144 ⟨s, e⟩ = (⟨s, e⟩, ⟨#[]⟩) := by unfold Tp.text; rw [if_pos he]
    rw [e2]
    clear e2
    dsimp only
    have f0 : ((w.alloc (.cells #[.string s, .int .i64 e] 94)).alloc (.cells #[.string ⟨#[]⟩, .int .i64 0] 94)).frozen? ⟨w.heap.size + 1, 0, none⟩ = false := Mem.free HX.out.2
    have f1 : ((w.alloc (.cells #[.string s, .int .i64 e] 94)).alloc (.cells #[.string ⟨#[]⟩, .int .i64 0] 94)).frozen? ⟨w.heap.size + 1, 1, none⟩ = false := Mem.free HX.out.2
    go_enter Tryz.func53, Tryz.ntmps53
    go_wp2_with fail
    have hq := Mem.set (j := 1) (u := .int .i64 e) (Mem.set (j := 0) (u := .string s) HX.out.2)
    have q0 := Mem.cell (j := 0) (v := .string s) hq rfl
    have q1 := Mem.cell (j := 1) (v := .int .i64 e) hq rfl
    refine bodyPost_ret (v := .tuple #[.agg #[.string s, .int .i64 e], .string ⟨#[]⟩]) (by simp [results, Tryz.results53, go_sem, *]) rfl ⟨rfl, ?_⟩
    exact ((Below.refl _ w).alloc (Nat.le_refl _) _).alloc (by simp) _
end
end Go.Proofs.YtpdceondgbgpkaaGreatDoor
namespace Go.Proofs.YtpdceondgbgpkaaGreatDoor
open Go.RowKit
set_option linter.unusedSimpArgs false
set_option linter.unusedVariables false
set_option maxRecDepth 100000 in
set_option maxHeartbeats 4000000 in
theorem rvoted_any (v : Vt) (w : World) : Calls Tryz.prog 48 #[v.val] w fun r w' => r = .returned (.bool (decide v.ok)) ∧ Below w.heap.size w w' := by
  obtain ⟨a, b⟩ := v
  have hb : Below w.heap.size w (w.alloc (.cells #[.int .i64 a, .int .i64 b] 36)) := (Below.refl _ w).alloc (Nat.le_refl _) _
  unfold Vt.val
  dsimp only
  by_cases c0 : 0 ≤ a
  · skip
    by_cases c1 : a ≤ 549755813888
    · skip
      by_cases c2 : -1 ≤ b
      · skip
        by_cases c3 : b ≤ 6
        · skip
          rw [decide_eq_true (show Vt.ok ⟨a, b⟩ from ⟨c0, c1, c2, c3⟩)]
          go_enter Tryz.func48, Tryz.ntmps48
          go_wp2_with fail
          go_ret
          exact ⟨by simp [*], hb⟩
        · have n3 : 6 < b := by omega
          rw [decide_eq_false (show ¬ Vt.ok ⟨a, b⟩ from fun h => c3 h.2.2.2)]
          clear c3
          go_enter Tryz.func48, Tryz.ntmps48
          go_wp2_with fail
          go_ret
          exact ⟨by simp [*], hb⟩
      · have n2 : b < -1 := by omega
        rw [decide_eq_false (show ¬ Vt.ok ⟨a, b⟩ from fun h => c2 h.2.2.1)]
        clear c2
        go_enter Tryz.func48, Tryz.ntmps48
        go_wp2_with fail
        go_ret
        exact ⟨by simp [*], hb⟩
    · have n1 : 549755813888 < a := by omega
      rw [decide_eq_false (show ¬ Vt.ok ⟨a, b⟩ from fun h => c1 h.2.1)]
      clear c1
      go_enter Tryz.func48, Tryz.ntmps48
      go_wp2_with fail
      go_ret
      exact ⟨by simp [*], hb⟩
  · have n0 : a < 0 := by omega
    rw [decide_eq_false (show ¬ Vt.ok ⟨a, b⟩ from fun h => c0 h.1)]
    clear c0
    go_enter Tryz.func48, Tryz.ntmps48
    go_wp2_with fail
    go_ret
    exact ⟨by simp [*], hb⟩
set_option maxRecDepth 100000 in
set_option maxHeartbeats 4000000 in
theorem rmay_any (v : Sn) (w : World) : Calls Tryz.prog 54 #[v.val] w fun r w' => r = .returned (.bool (decide v.ok)) ∧ Below w.heap.size w w' := by
  obtain ⟨a, b, c, t⟩ := v
  have hb : Below w.heap.size w (w.alloc (.cells #[.int .i64 a, .int .i64 b, .int .i64 c, .string t] 43)) := (Below.refl _ w).alloc (Nat.le_refl _) _
  unfold Sn.val
  dsimp only
  by_cases c0 : 0 ≤ a
  · skip
    by_cases c1 : a ≤ 549755813888
    · skip
      by_cases c2 : 0 ≤ b
      · skip
        by_cases c3 : b ≤ 549755813888
        · skip
          by_cases c4 : 0 ≤ c
          · skip
            by_cases c5 : c ≤ 127
            · skip
              by_cases c6 : (t.size : Int) ≤ 262144
              · skip
                rw [decide_eq_true (show Sn.ok ⟨a, b, c, t⟩ from ⟨c0, c1, c2, c3, c4, c5, (show t.size ≤ 262144 by omega)⟩)]
                go_enter Tryz.func54, Tryz.ntmps54
                go_wp2_with fail
                go_ret
                exact ⟨by simp [*], hb⟩
              · have n6 : 262144 < (t.size : Int) := by omega
                rw [decide_eq_false (show ¬ Sn.ok ⟨a, b, c, t⟩ from fun h => c6 (by have h4 : t.size ≤ 262144 := h.2.2.2.2.2.2; omega))]
                clear c6
                go_enter Tryz.func54, Tryz.ntmps54
                go_wp2_with fail
                go_ret
                exact ⟨by simp [*], hb⟩
            · have n5 : 127 < c := by omega
              rw [decide_eq_false (show ¬ Sn.ok ⟨a, b, c, t⟩ from fun h => c5 h.2.2.2.2.2.1)]
              clear c5
              go_enter Tryz.func54, Tryz.ntmps54
              go_wp2_with fail
              go_ret
              exact ⟨by simp [*], hb⟩
          · have n4 : c < 0 := by omega
            rw [decide_eq_false (show ¬ Sn.ok ⟨a, b, c, t⟩ from fun h => c4 h.2.2.2.2.1)]
            clear c4
            go_enter Tryz.func54, Tryz.ntmps54
            go_wp2_with fail
            go_ret
            exact ⟨by simp [*], hb⟩
        · have n3 : 549755813888 < b := by omega
          rw [decide_eq_false (show ¬ Sn.ok ⟨a, b, c, t⟩ from fun h => c3 h.2.2.2.1)]
          clear c3
          go_enter Tryz.func54, Tryz.ntmps54
          go_wp2_with fail
          go_ret
          exact ⟨by simp [*], hb⟩
      · have n2 : b < 0 := by omega
        rw [decide_eq_false (show ¬ Sn.ok ⟨a, b, c, t⟩ from fun h => c2 h.2.2.1)]
        clear c2
        go_enter Tryz.func54, Tryz.ntmps54
        go_wp2_with fail
        go_ret
        exact ⟨by simp [*], hb⟩
    · have n1 : 549755813888 < a := by omega
      rw [decide_eq_false (show ¬ Sn.ok ⟨a, b, c, t⟩ from fun h => c1 h.2.1)]
      clear c1
      go_enter Tryz.func54, Tryz.ntmps54
      go_wp2_with fail
      go_ret
      exact ⟨by simp [*], hb⟩
  · have n0 : a < 0 := by omega
    rw [decide_eq_false (show ¬ Sn.ok ⟨a, b, c, t⟩ from fun h => c0 h.1)]
    clear c0
    go_enter Tryz.func54, Tryz.ntmps54
    go_wp2_with fail
    go_ret
    exact ⟨by simp [*], hb⟩
end Go.Proofs.YtpdceondgbgpkaaGreatDoor
namespace Go.Proofs.YtpdceondgbgpkaaGreatDoor
open Go.RowKit
set_option maxRecDepth 100000 in
set_option maxHeartbeats 2000000 in
theorem rnumber_any (n : Nat) (w : World) : Calls Tryz.prog 46 #[.int .u64 n] w fun r w' => r = .returned (.int .i64 (numN n)) ∧ w' = w := by
  unfold numN
  by_cases hl : 549755813888 < n
  · rw [if_pos hl]
    have hl1 : (549755813888 : Int) < (n : Int) := by omega
    go_enter Tryz.func46, Tryz.ntmps46
    go_wp2_with fail
    go_ret
    exact ⟨rfl, rfl⟩
  · rw [if_neg hl]
    have hl1 : (n : Int) ≤ (549755813888 : Int) := by omega
    have hw : wrap64 (n : Int) = n := by unfold wrap64; omega
    go_enter Tryz.func46, Tryz.ntmps46
    go_wp2_with fail
    go_ret
    exact ⟨rfl, rfl⟩
end Go.Proofs.YtpdceondgbgpkaaGreatDoor
