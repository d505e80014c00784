/- ShelfReads, ShelfTexts: the walks. -/
import Derived.Test.YthaehoefbejadaaDoorShl8
import Derived.Test.YthaehoefbejadaaDoorRShl2
namespace Go.Proofs.YthaehoefbejadaaDoor
open Go.RowKit
set_option linter.unusedSimpArgs false
set_option linter.unusedVariables false
set_option maxRecDepth 100000 in
set_option maxHeartbeats 4000000 in
theorem ShelfReads_any (t : ByteArray) (w : World) (hs : t.size ≤ 140737488351232) : Calls Tryd.prog 4 #[.string t] w fun r w' => r = .returned (.bool true) ∧ Below w.heap.size w w' := by
  by_cases hl : (20000 : Int) < (t.size : Int)
  · go_enter Tryd.func4, Tryd.ntmps4
    go_wp2_with (go_at_call 18; refine (awake7_any _).mono ?_; rintro _ w1 ⟨rfl, hb1⟩)
    go_ret
    exact ⟨rfl, hb1⟩
  · have hv := fun W => readV_any t W hs
    have hrv := fun W => rreadV_any t W hs
    have hn := fun W => readS_any t W hs
    have hrn := fun W => rreadS_any t W hs
    generalize Vt.read t = x at hv hrv
    obtain ⟨⟨a, b⟩, e⟩ := x
    generalize Sn.read t = y at hn hrn
    obtain ⟨⟨c, d, m, s⟩, f⟩ := y
    unfold Vt.val at hv hrv
    unfold Sn.val at hn hrn
    dsimp only at hv hrv hn hrn
    have hl' : (t.size : Int) ≤ 20000 := by omega
    clear hl
    go_enter Tryd.func4, Tryd.ntmps4
    go_wp2_with (first
      | (go_at_call 19; refine (hv _).mono ?_; rintro _ w1 ⟨rfl, hb1⟩; have x1 := Mem.new w1 (.cells #[.int .i64 a, .int .i64 b] 38); have k1 := hb1.alloc hb1.size (.cells #[.int .i64 a, .int .i64 b] 38))
      | (go_at_call 20; refine (hrv _).mono ?_; rintro _ w2 ⟨rfl, hb2⟩; have y1 := Mem.old ((hb2.block w1.heap.size (Mem.lt x1)).trans x1) (.cells #[.int .i64 a, .int .i64 b] 41); have x2 := Mem.new w2 (.cells #[.int .i64 a, .int .i64 b] 41); have j2 := k1.trans (hb2.mono k1.size); have k2 := j2.alloc j2.size (.cells #[.int .i64 a, .int .i64 b] 41); clear hb2)
      | (go_at_call 21; refine (hn _).mono ?_; rintro _ w3 ⟨rfl, hb3⟩; have z1 := Mem.old ((hb3.block w1.heap.size (Mem.lt y1)).trans y1) (.cells #[.int .i64 c, .int .i64 d, .int .i64 m, .string s] 45); have y2 := Mem.old ((hb3.block w2.heap.size (Mem.lt x2)).trans x2) (.cells #[.int .i64 c, .int .i64 d, .int .i64 m, .string s] 45); have x3 := Mem.new w3 (.cells #[.int .i64 c, .int .i64 d, .int .i64 m, .string s] 45); have j3 := k2.trans (hb3.mono k2.size); have k3 := j3.alloc j3.size (.cells #[.int .i64 c, .int .i64 d, .int .i64 m, .string s] 45); clear hb3)
      | (go_at_call 22; refine (hrn _).mono ?_; rintro _ w4 ⟨rfl, hb4⟩; have v1 := Mem.old ((hb4.block w1.heap.size (Mem.lt z1)).trans z1) (.cells #[.int .i64 c, .int .i64 d, .int .i64 m, .string s] 48); have z2 := Mem.old ((hb4.block w2.heap.size (Mem.lt y2)).trans y2) (.cells #[.int .i64 c, .int .i64 d, .int .i64 m, .string s] 48); have y3 := Mem.old ((hb4.block w3.heap.size (Mem.lt x3)).trans x3) (.cells #[.int .i64 c, .int .i64 d, .int .i64 m, .string s] 48); have x4 := Mem.new w4 (.cells #[.int .i64 c, .int .i64 d, .int .i64 m, .string s] 48); have j4 := k3.trans (hb4.mono k3.size); have k4 := j4.alloc j4.size (.cells #[.int .i64 c, .int .i64 d, .int .i64 m, .string s] 48); clear hb4)
      | (go_at_call 18; refine (awake7_any _).mono ?_; rintro _ w5 ⟨rfl, hb5⟩; have u1 := (hb5.block w1.heap.size (Mem.lt v1)).trans v1; have u2 := (hb5.block w2.heap.size (Mem.lt z2)).trans z2; have u3 := (hb5.block w3.heap.size (Mem.lt y3)).trans y3; have u4 := (hb5.block w4.heap.size (Mem.lt x4)).trans x4; have k5 := k4.trans (hb5.mono k4.size); clear hb5;
          have c10 := Mem.cell (j := 0) (v := .int .i64 a) u1 rfl; have c11 := Mem.cell (j := 1) (v := .int .i64 b) u1 rfl; have c20 := Mem.cell (j := 0) (v := .int .i64 a) u2 rfl; have c21 := Mem.cell (j := 1) (v := .int .i64 b) u2 rfl;
          have c30 := Mem.cell (j := 0) (v := .int .i64 c) u3 rfl; have c31 := Mem.cell (j := 1) (v := .int .i64 d) u3 rfl; have c32 := Mem.cell (j := 2) (v := .int .i64 m) u3 rfl; have c33 := Mem.cell (j := 3) (v := .string s) u3 rfl;
          have c40 := Mem.cell (j := 0) (v := .int .i64 c) u4 rfl; have c41 := Mem.cell (j := 1) (v := .int .i64 d) u4 rfl; have c42 := Mem.cell (j := 2) (v := .int .i64 m) u4 rfl; have c43 := Mem.cell (j := 3) (v := .string s) u4 rfl;
          have K5 := Lib.hid k5; clear x1 y1 x2 z1 y2 x3 v1 z2 y3 x4 u1 u2 u3 u4 k5 j2 j3 j4 k1 k2 k3 k4 hb1))
    go_ret
    exact ⟨rfl, K5.out⟩
end Go.Proofs.YthaehoefbejadaaDoor
