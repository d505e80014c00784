/- ShelfTexts: the walk (printed by tools/gen_texts.py). -/
import Derived.Test.YthaehoefbejadaaDoorShl8
namespace Go.Proofs.YthaehoefbejadaaDoor
open Go.RowKit
set_option linter.unusedSimpArgs false
set_option linter.unusedVariables false
set_option maxRecDepth 100000 in
set_option maxHeartbeats 4000000 in
theorem ShelfTexts_any (a b c d m : Int) (s : ByteArray) (w : World) (hi : IsI64 b) : Calls Tryd.prog 5 #[.agg #[.int .i64 a, .int .i64 b], .agg #[.int .i64 c, .int .i64 d, .int .i64 m, .string s]] w fun r w' => r = .returned (.bool true) ∧ Below w.heap.size w w' := by
  have xv0 := Mem.old (Mem.new w (.cells #[.int .i64 a, .int .i64 b] 38)) (.cells #[.int .i64 c, .int .i64 d, .int .i64 m, .string s] 45)
  have xs0 := Mem.new (w.alloc (.cells #[.int .i64 a, .int .i64 b] 38)) (.cells #[.int .i64 c, .int .i64 d, .int .i64 m, .string s] 45)
  rw [show (w.alloc (.cells #[.int .i64 a, .int .i64 b] 38)).heap.size = w.heap.size + 1 by simp] at xs0
  have k0 : Below w.heap.size w ((w.alloc (.cells #[.int .i64 a, .int .i64 b] 38)).alloc (.cells #[.int .i64 c, .int .i64 d, .int .i64 m, .string s] 45)) := ((Below.refl _ w).alloc (Nat.le_refl _) _).alloc (by simp) _
  by_cases hl : (20000 : Int) < (s.size : Int) ∧ (s.size : Int) ≤ 262144
  · obtain ⟨h1, h2⟩ := hl
    go_enter Tryd.func5, Tryd.ntmps5
    go_wp2_with (go_at_call 18; refine (awake7_any _).mono ?_; rintro _ w1 ⟨rfl, hb1⟩)
    go_ret
    exact ⟨rfl, k0.trans (hb1.mono k0.size)⟩
  · have hv := fun W => textV_any ⟨a, b⟩ W hi
    have hrv := fun W => rtextV_any ⟨a, b⟩ W hi
    have hn := fun W => textS_any ⟨c, d, m, s⟩ W trivial
    have hrn := fun W => rtextS_any ⟨c, d, m, s⟩ W trivial
    generalize Vt.text ⟨a, b⟩ = x at hv hrv
    obtain ⟨tv, e⟩ := x
    generalize Sn.wrote ⟨c, d, m, s⟩ = y at hn hrn
    obtain ⟨ts, f⟩ := y
    unfold Vt.val at hv hrv
    unfold Sn.val at hn hrn
    dsimp only at hv hrv hn hrn
    by_cases hl1 : (20000 : Int) < (s.size : Int)
    · have hl2 : (262144 : Int) < (s.size : Int) := by omega
      clear hl
      go_enter Tryd.func5, Tryd.ntmps5
      go_wp2_with (first
        | (go_at_call 23; refine (hv _).mono ?_; rintro _ w1 ⟨rfl, hb1⟩; have xv1 := (hb1.block w.heap.size (Mem.lt xv0)).trans xv0; have xs1 := (hb1.block (w.heap.size + 1) (Mem.lt xs0)).trans xs0; have k1 := k0.trans (hb1.mono k0.size); have cv0_1 : w1.cell? ⟨w.heap.size, 0, none⟩ = some (.int .i64 a) := Mem.cell xv1 rfl; have cv1_1 : w1.cell? ⟨w.heap.size, 1, none⟩ = some (.int .i64 b) := Mem.cell xv1 rfl; have cs0_1 : w1.cell? ⟨w.heap.size + 1, 0, none⟩ = some (.int .i64 c) := Mem.cell xs1 rfl; have cs1_1 : w1.cell? ⟨w.heap.size + 1, 1, none⟩ = some (.int .i64 d) := Mem.cell xs1 rfl; have cs2_1 : w1.cell? ⟨w.heap.size + 1, 2, none⟩ = some (.int .i64 m) := Mem.cell xs1 rfl; have cs3_1 : w1.cell? ⟨w.heap.size + 1, 3, none⟩ = some (.string s) := Mem.cell xs1 rfl; clear xv0 xs0 k0 hb1)
        | (go_at_call 24; refine (hrv _).mono ?_; rintro _ w2 ⟨rfl, hb2⟩; have xv2 := (hb2.block w.heap.size (Mem.lt xv1)).trans xv1; have xs2 := (hb2.block (w.heap.size + 1) (Mem.lt xs1)).trans xs1; have k2 := k1.trans (hb2.mono k1.size); have cv0_2 : w2.cell? ⟨w.heap.size, 0, none⟩ = some (.int .i64 a) := Mem.cell xv2 rfl; have cv1_2 : w2.cell? ⟨w.heap.size, 1, none⟩ = some (.int .i64 b) := Mem.cell xv2 rfl; have cs0_2 : w2.cell? ⟨w.heap.size + 1, 0, none⟩ = some (.int .i64 c) := Mem.cell xs2 rfl; have cs1_2 : w2.cell? ⟨w.heap.size + 1, 1, none⟩ = some (.int .i64 d) := Mem.cell xs2 rfl; have cs2_2 : w2.cell? ⟨w.heap.size + 1, 2, none⟩ = some (.int .i64 m) := Mem.cell xs2 rfl; have cs3_2 : w2.cell? ⟨w.heap.size + 1, 3, none⟩ = some (.string s) := Mem.cell xs2 rfl; clear xv1 xs1 k1 hb2)
        | (go_at_call 25; refine (hn _).mono ?_; rintro _ w3 ⟨rfl, hb3⟩; have xv3 := (hb3.block w.heap.size (Mem.lt xv2)).trans xv2; have xs3 := (hb3.block (w.heap.size + 1) (Mem.lt xs2)).trans xs2; have k3 := k2.trans (hb3.mono k2.size); have cv0_3 : w3.cell? ⟨w.heap.size, 0, none⟩ = some (.int .i64 a) := Mem.cell xv3 rfl; have cv1_3 : w3.cell? ⟨w.heap.size, 1, none⟩ = some (.int .i64 b) := Mem.cell xv3 rfl; have cs0_3 : w3.cell? ⟨w.heap.size + 1, 0, none⟩ = some (.int .i64 c) := Mem.cell xs3 rfl; have cs1_3 : w3.cell? ⟨w.heap.size + 1, 1, none⟩ = some (.int .i64 d) := Mem.cell xs3 rfl; have cs2_3 : w3.cell? ⟨w.heap.size + 1, 2, none⟩ = some (.int .i64 m) := Mem.cell xs3 rfl; have cs3_3 : w3.cell? ⟨w.heap.size + 1, 3, none⟩ = some (.string s) := Mem.cell xs3 rfl; clear xv2 xs2 k2 hb3)
        | (go_at_call 26; refine (hrn _).mono ?_; rintro _ w4 ⟨rfl, hb4⟩; have xv4 := (hb4.block w.heap.size (Mem.lt xv3)).trans xv3; have xs4 := (hb4.block (w.heap.size + 1) (Mem.lt xs3)).trans xs3; have k4 := k3.trans (hb4.mono k3.size); have cv0_4 : w4.cell? ⟨w.heap.size, 0, none⟩ = some (.int .i64 a) := Mem.cell xv4 rfl; have cv1_4 : w4.cell? ⟨w.heap.size, 1, none⟩ = some (.int .i64 b) := Mem.cell xv4 rfl; have cs0_4 : w4.cell? ⟨w.heap.size + 1, 0, none⟩ = some (.int .i64 c) := Mem.cell xs4 rfl; have cs1_4 : w4.cell? ⟨w.heap.size + 1, 1, none⟩ = some (.int .i64 d) := Mem.cell xs4 rfl; have cs2_4 : w4.cell? ⟨w.heap.size + 1, 2, none⟩ = some (.int .i64 m) := Mem.cell xs4 rfl; have cs3_4 : w4.cell? ⟨w.heap.size + 1, 3, none⟩ = some (.string s) := Mem.cell xs4 rfl; clear xv3 xs3 k3 hb4)
        | (go_at_call 18; refine (awake7_any _).mono ?_; rintro _ w5 ⟨rfl, hb5⟩; have k5 := k4.trans (hb5.mono k4.size)))
      go_ret
      exact ⟨rfl, k5⟩
    · have hl2 : (s.size : Int) ≤ 20000 := by omega
      clear hl hl1
      go_enter Tryd.func5, Tryd.ntmps5
      go_wp2_with (first
        | (go_at_call 23; refine (hv _).mono ?_; rintro _ w1 ⟨rfl, hb1⟩; have xv1 := (hb1.block w.heap.size (Mem.lt xv0)).trans xv0; have xs1 := (hb1.block (w.heap.size + 1) (Mem.lt xs0)).trans xs0; have k1 := k0.trans (hb1.mono k0.size); have cv0_1 : w1.cell? ⟨w.heap.size, 0, none⟩ = some (.int .i64 a) := Mem.cell xv1 rfl; have cv1_1 : w1.cell? ⟨w.heap.size, 1, none⟩ = some (.int .i64 b) := Mem.cell xv1 rfl; have cs0_1 : w1.cell? ⟨w.heap.size + 1, 0, none⟩ = some (.int .i64 c) := Mem.cell xs1 rfl; have cs1_1 : w1.cell? ⟨w.heap.size + 1, 1, none⟩ = some (.int .i64 d) := Mem.cell xs1 rfl; have cs2_1 : w1.cell? ⟨w.heap.size + 1, 2, none⟩ = some (.int .i64 m) := Mem.cell xs1 rfl; have cs3_1 : w1.cell? ⟨w.heap.size + 1, 3, none⟩ = some (.string s) := Mem.cell xs1 rfl; clear xv0 xs0 k0 hb1)
        | (go_at_call 24; refine (hrv _).mono ?_; rintro _ w2 ⟨rfl, hb2⟩; have xv2 := (hb2.block w.heap.size (Mem.lt xv1)).trans xv1; have xs2 := (hb2.block (w.heap.size + 1) (Mem.lt xs1)).trans xs1; have k2 := k1.trans (hb2.mono k1.size); have cv0_2 : w2.cell? ⟨w.heap.size, 0, none⟩ = some (.int .i64 a) := Mem.cell xv2 rfl; have cv1_2 : w2.cell? ⟨w.heap.size, 1, none⟩ = some (.int .i64 b) := Mem.cell xv2 rfl; have cs0_2 : w2.cell? ⟨w.heap.size + 1, 0, none⟩ = some (.int .i64 c) := Mem.cell xs2 rfl; have cs1_2 : w2.cell? ⟨w.heap.size + 1, 1, none⟩ = some (.int .i64 d) := Mem.cell xs2 rfl; have cs2_2 : w2.cell? ⟨w.heap.size + 1, 2, none⟩ = some (.int .i64 m) := Mem.cell xs2 rfl; have cs3_2 : w2.cell? ⟨w.heap.size + 1, 3, none⟩ = some (.string s) := Mem.cell xs2 rfl; clear xv1 xs1 k1 hb2)
        | (go_at_call 25; refine (hn _).mono ?_; rintro _ w3 ⟨rfl, hb3⟩; have xv3 := (hb3.block w.heap.size (Mem.lt xv2)).trans xv2; have xs3 := (hb3.block (w.heap.size + 1) (Mem.lt xs2)).trans xs2; have k3 := k2.trans (hb3.mono k2.size); have cv0_3 : w3.cell? ⟨w.heap.size, 0, none⟩ = some (.int .i64 a) := Mem.cell xv3 rfl; have cv1_3 : w3.cell? ⟨w.heap.size, 1, none⟩ = some (.int .i64 b) := Mem.cell xv3 rfl; have cs0_3 : w3.cell? ⟨w.heap.size + 1, 0, none⟩ = some (.int .i64 c) := Mem.cell xs3 rfl; have cs1_3 : w3.cell? ⟨w.heap.size + 1, 1, none⟩ = some (.int .i64 d) := Mem.cell xs3 rfl; have cs2_3 : w3.cell? ⟨w.heap.size + 1, 2, none⟩ = some (.int .i64 m) := Mem.cell xs3 rfl; have cs3_3 : w3.cell? ⟨w.heap.size + 1, 3, none⟩ = some (.string s) := Mem.cell xs3 rfl; clear xv2 xs2 k2 hb3)
        | (go_at_call 26; refine (hrn _).mono ?_; rintro _ w4 ⟨rfl, hb4⟩; have xv4 := (hb4.block w.heap.size (Mem.lt xv3)).trans xv3; have xs4 := (hb4.block (w.heap.size + 1) (Mem.lt xs3)).trans xs3; have k4 := k3.trans (hb4.mono k3.size); have cv0_4 : w4.cell? ⟨w.heap.size, 0, none⟩ = some (.int .i64 a) := Mem.cell xv4 rfl; have cv1_4 : w4.cell? ⟨w.heap.size, 1, none⟩ = some (.int .i64 b) := Mem.cell xv4 rfl; have cs0_4 : w4.cell? ⟨w.heap.size + 1, 0, none⟩ = some (.int .i64 c) := Mem.cell xs4 rfl; have cs1_4 : w4.cell? ⟨w.heap.size + 1, 1, none⟩ = some (.int .i64 d) := Mem.cell xs4 rfl; have cs2_4 : w4.cell? ⟨w.heap.size + 1, 2, none⟩ = some (.int .i64 m) := Mem.cell xs4 rfl; have cs3_4 : w4.cell? ⟨w.heap.size + 1, 3, none⟩ = some (.string s) := Mem.cell xs4 rfl; clear xv3 xs3 k3 hb4)
        | (go_at_call 18; refine (awake7_any _).mono ?_; rintro _ w5 ⟨rfl, hb5⟩; have k5 := k4.trans (hb5.mono k4.size)))
      go_ret
      exact ⟨rfl, k5⟩
end Go.Proofs.YthaehoefbejadaaDoor
