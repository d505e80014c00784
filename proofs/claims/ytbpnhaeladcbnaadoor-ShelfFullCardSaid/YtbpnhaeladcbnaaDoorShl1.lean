/- shelf: votes and snapshots; which may be; their numbers. -/
import Derived.Test.YtbpnhaeladcbnaaDoorTap2
namespace Go.Proofs.YtbpnhaeladcbnaaDoor
open Go.RowKit
set_option linter.unusedSimpArgs false
set_option linter.unusedVariables false
open Sp (fold intB textS bs)
structure Vt where
  term : Int
  to : Int
structure Sn where
  index : Int
  term : Int
  mask : Int
  text : ByteArray
namespace Vt
def cells (v : Vt) : List Value := [.int .i64 v.term, .int .i64 v.to]
def val (v : Vt) : Value := .agg #[.int .i64 v.term, .int .i64 v.to]
def ok (v : Vt) : Prop := 0 ≤ v.term ∧ v.term ≤ 549755813888 ∧ -1 ≤ v.to ∧ v.to ≤ 6
instance (v : Vt) : Decidable v.ok := by unfold ok; exact inferInstance
end Vt
namespace Sn
def val (s : Sn) : Value := .agg #[.int .i64 s.index, .int .i64 s.term, .int .i64 s.mask, .string s.text]
def ok (s : Sn) : Prop := 0 ≤ s.index ∧ s.index ≤ 549755813888 ∧ 0 ≤ s.term ∧ s.term ≤ 549755813888 ∧ 0 ≤ s.mask ∧ s.mask ≤ 127 ∧ s.text.size ≤ 262144
instance (s : Sn) : Decidable s.ok := by unfold ok; exact inferInstance
end Sn
set_option maxRecDepth 100000 in
theorem within_any (n m : Int) (w : World) : Calls Tryd.prog 58 #[.int .i64 n, .int .i64 m] w fun r w' => r = .returned (.bool (decide (0 ≤ n ∧ n ≤ m))) ∧ w' = w := by
  by_cases h0 : 0 ≤ n
  · by_cases h1 : n ≤ m
    · rw [decide_eq_true ⟨h0, h1⟩]
      go_enter Tryd.func58, Tryd.ntmps58
      go_wp2_with fail
      go_ret
      simp [h0, h1]
    · rw [decide_eq_false (fun h => h1 h.2)]
      go_enter Tryd.func58, Tryd.ntmps58
      go_wp2_with fail
      go_ret
      simp [h0, h1]
  · rw [decide_eq_false (fun h => h0 h.1)]
    go_enter Tryd.func58, Tryd.ntmps58
    go_wp2_with fail
    go_ret
    simp [h0]
theorem within_yes {n m : Int} (h0 : 0 ≤ n) (h1 : n ≤ m) (w : World) : Calls Tryd.prog 58 #[.int .i64 n, .int .i64 m] w fun r w' => r = .returned (.bool true) ∧ w' = w := by
  have := within_any n m w
  rw [decide_eq_true ⟨h0, h1⟩] at this
  exact this
theorem within_no {n m : Int} (h : ¬ (0 ≤ n ∧ n ≤ m)) (w : World) : Calls Tryd.prog 58 #[.int .i64 n, .int .i64 m] w fun r w' => r = .returned (.bool false) ∧ w' = w := by
  have := within_any n m w
  rw [decide_eq_false h] at this
  exact this
set_option maxRecDepth 100000 in
set_option maxHeartbeats 2000000 in
theorem voted_any (v : Vt) (w : World) : Calls Tryd.prog 40 #[v.val] w fun r w' => r = .returned (.bool (decide v.ok)) ∧ Below w.heap.size w w' := by
  obtain ⟨a, b⟩ := v
  have hb : Below w.heap.size w (w.alloc (.cells #[.int .i64 a, .int .i64 b] 26)) := (Below.refl _ w).alloc (Nat.le_refl _) _
  unfold Vt.val
  dsimp only
  by_cases h0 : 0 ≤ a ∧ a ≤ 549755813888
  · have hw := fun W => within_yes h0.1 h0.2 W
    by_cases h1 : -1 ≤ b
    · by_cases h2 : b ≤ 6
      · have h3 : b < 7 := by omega
        rw [decide_eq_true (show Vt.ok ⟨a, b⟩ from ⟨h0.1, h0.2, h1, h2⟩)]
        go_enter Tryd.func40, Tryd.ntmps40
        go_wp2_with (go_at_call 58; refine (hw _).mono ?_; rintro _ _ ⟨rfl, rfl⟩)
        go_ret
        exact ⟨by simp [h1, h3], hb⟩
      · have h3 : 7 ≤ b := by omega
        rw [decide_eq_false (show ¬ Vt.ok ⟨a, b⟩ from fun h => h2 h.2.2.2)]
        go_enter Tryd.func40, Tryd.ntmps40
        go_wp2_with (go_at_call 58; refine (hw _).mono ?_; rintro _ _ ⟨rfl, rfl⟩)
        go_ret
        exact ⟨by simp [h1, h3], hb⟩
    · have h3 : b < -1 := by omega
      rw [decide_eq_false (show ¬ Vt.ok ⟨a, b⟩ from fun h => h1 h.2.2.1)]
      go_enter Tryd.func40, Tryd.ntmps40
      go_wp2_with (go_at_call 58; refine (hw _).mono ?_; rintro _ _ ⟨rfl, rfl⟩)
      go_ret
      exact ⟨by simp [h1, h3], hb⟩
  · have hw := fun W => within_no h0 W
    rw [decide_eq_false (show ¬ Vt.ok ⟨a, b⟩ from fun h => h0 ⟨h.1, h.2.1⟩)]
    go_enter Tryd.func40, Tryd.ntmps40
    go_wp2_with (go_at_call 58; refine (hw _).mono ?_; rintro _ _ ⟨rfl, rfl⟩)
    go_ret
    exact ⟨rfl, hb⟩
set_option maxRecDepth 100000 in
set_option maxHeartbeats 2000000 in
theorem may_any (s : Sn) (w : World) : Calls Tryd.prog 44 #[s.val] w fun r w' => r = .returned (.bool (decide s.ok)) ∧ Below w.heap.size w w' := by
  obtain ⟨a, b, c, t⟩ := s
  have hb : Below w.heap.size w (w.alloc (.cells #[.int .i64 a, .int .i64 b, .int .i64 c, .string t] 28)) := (Below.refl _ w).alloc (Nat.le_refl _) _
  have tok1 : True := trivial
  have tok2 : True := trivial
  unfold Sn.val
  dsimp only
  by_cases h0 : 0 ≤ a ∧ a ≤ 549755813888
  · have hw0 := fun W => within_yes h0.1 h0.2 W
    by_cases h1 : 0 ≤ b ∧ b ≤ 549755813888
    · have hw1 := fun W => within_yes h1.1 h1.2 W
      by_cases h2 : 0 ≤ c ∧ c ≤ 127
      · have hw2 := fun W => within_yes h2.1 h2.2 W
        by_cases h3 : (t.size : Int) ≤ 262144
        · rw [decide_eq_true (show Sn.ok ⟨a, b, c, t⟩ from ⟨h0.1, h0.2, h1.1, h1.2, h2.1, h2.2, show t.size ≤ 262144 by omega⟩)]
          go_enter Tryd.func44, Tryd.ntmps44
          go_wp2_with (first
            | (go_at_call 58; have _t := tok1; refine (hw0 _).mono ?_; rintro _ _ ⟨rfl, rfl⟩; clear tok1)
            | (go_at_call 58; have _t := tok2; refine (hw1 _).mono ?_; rintro _ _ ⟨rfl, rfl⟩; clear tok2)
            | (go_at_call 58; refine (hw2 _).mono ?_; rintro _ _ ⟨rfl, rfl⟩))
          go_ret
          exact ⟨by simp [h3], hb⟩
        · rw [decide_eq_false (show ¬ Sn.ok ⟨a, b, c, t⟩ from fun h => h3 (by have h4 : t.size ≤ 262144 := h.2.2.2.2.2.2; omega))]
          go_enter Tryd.func44, Tryd.ntmps44
          go_wp2_with (first
            | (go_at_call 58; have _t := tok1; refine (hw0 _).mono ?_; rintro _ _ ⟨rfl, rfl⟩; clear tok1)
            | (go_at_call 58; have _t := tok2; refine (hw1 _).mono ?_; rintro _ _ ⟨rfl, rfl⟩; clear tok2)
            | (go_at_call 58; refine (hw2 _).mono ?_; rintro _ _ ⟨rfl, rfl⟩))
          go_ret
          exact ⟨by simp [h3], hb⟩
      · have hw2 := fun W => within_no h2 W
        rw [decide_eq_false (show ¬ Sn.ok ⟨a, b, c, t⟩ from fun h => h2 ⟨h.2.2.2.2.1, h.2.2.2.2.2.1⟩)]
        go_enter Tryd.func44, Tryd.ntmps44
        go_wp2_with (first
          | (go_at_call 58; have _t := tok1; refine (hw0 _).mono ?_; rintro _ _ ⟨rfl, rfl⟩; clear tok1)
          | (go_at_call 58; have _t := tok2; refine (hw1 _).mono ?_; rintro _ _ ⟨rfl, rfl⟩; clear tok2)
          | (go_at_call 58; refine (hw2 _).mono ?_; rintro _ _ ⟨rfl, rfl⟩))
        go_ret
        exact ⟨rfl, hb⟩
    · have hw1 := fun W => within_no h1 W
      rw [decide_eq_false (show ¬ Sn.ok ⟨a, b, c, t⟩ from fun h => h1 ⟨h.2.2.1, h.2.2.2.1⟩)]
      go_enter Tryd.func44, Tryd.ntmps44
      go_wp2_with (first
        | (go_at_call 58; have _t := tok1; refine (hw0 _).mono ?_; rintro _ _ ⟨rfl, rfl⟩; clear tok1)
        | (go_at_call 58; refine (hw1 _).mono ?_; rintro _ _ ⟨rfl, rfl⟩))
      go_ret
      exact ⟨rfl, hb⟩
  · have hw0 := fun W => within_no h0 W
    rw [decide_eq_false (show ¬ Sn.ok ⟨a, b, c, t⟩ from fun h => h0 ⟨h.1, h.2.1⟩)]
    go_enter Tryd.func44, Tryd.ntmps44
    go_wp2_with (go_at_call 58; refine (hw0 _).mono ?_; rintro _ _ ⟨rfl, rfl⟩)
    go_ret
    exact ⟨rfl, hb⟩
/-- A number that is not above the greatest index; else one that may not be. -/
def numN (n : Nat) : Int := if 549755813888 < n then -1 else n
set_option maxRecDepth 100000 in
set_option maxHeartbeats 2000000 in
theorem number_any (s : ByteArray) (e : Int) (g : Nat) (w : World) (h : TapeAt w g s e) (hs : s.size ≤ 140737488351232) : Calls Tryd.prog 38 #[.pointer (some ⟨g, 0, none⟩)] w fun r w' => r = .returned (.int .i64 (numN (Tp.num ⟨s, e⟩).2)) ∧ TapeAt w' g (Tp.num ⟨s, e⟩).1.s (Tp.num ⟨s, e⟩).1.e ∧ Mem.Ch (fun k => k = g) w w' := by
  have hn := tpnum_any s e g w h hs
  generalize Tp.num ⟨s, e⟩ = x at hn ⊢
  obtain ⟨⟨s', e'⟩, n⟩ := x
  dsimp only at hn ⊢
  clear h
  unfold numN
  by_cases hl : 549755813888 < n
  · rw [if_pos hl]
    have hl1 : (549755813888 : Int) < (n : Int) := by omega
    go_enter Tryd.func38, Tryd.ntmps38
    go_wp2_with (go_at_call 57; refine hn.mono ?_; rintro _ w2 ⟨rfl, hT2, hc2⟩)
    go_ret
    exact ⟨rfl, hT2, hc2⟩
  · rw [if_neg hl]
    have hl1 : (n : Int) ≤ (549755813888 : Int) := by omega
    have hw : wrap64 (n : Int) = n := by unfold wrap64; omega
    go_enter Tryd.func38, Tryd.ntmps38
    go_wp2_with (go_at_call 57; refine hn.mono ?_; rintro _ w2 ⟨rfl, hT2, hc2⟩)
    go_ret
    exact ⟨rfl, hT2, hc2⟩
end Go.Proofs.YtbpnhaeladcbnaaDoor
