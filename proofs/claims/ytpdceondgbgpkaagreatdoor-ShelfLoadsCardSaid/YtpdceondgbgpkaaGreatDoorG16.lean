/- The document's LoadVote, LoadSnap (printed by tools/gen_rloads.py). · The files' names, in order: plain. -/
import Derived.Test.YtpdceondgbgpkaaGreatDoorG12
import Derived.Test.YtpdceondgbgpkaaGreatDoorG15
import Derived.Test.YtpdceondgbgpkaaGreatDoorG2
import Derived.Sort.KeysCollected
namespace Go.Proofs.YtpdceondgbgpkaaGreatDoor
open Go.RowKit
set_option linter.unusedSimpArgs false
set_option linter.unusedVariables false
open Dsk (fc)
open Shf
set_option maxRecDepth 100000 in
set_option maxHeartbeats 4000000 in
theorem rloadV_none (a : Value) (w : World) (hg : ∀ W, Below w.heap.size w W → Calls Tryz.prog 25 #[a, .string ⟨#[118, 111, 116, 101]⟩] W fun r w' => r = .returned (.tuple #[.string ⟨#[]⟩, .bool false]) ∧ Below W.heap.size W w') : Calls Tryz.prog 10 #[a] w fun r w' => r = .returned (.tuple #[.agg #[.int .i64 0, .int .i64 (-1)], .int .i64 0]) ∧ Below w.heap.size w w' := by
  have hb0 : Below w.heap.size w (w.alloc (.cells #[.int .i64 0, .int .i64 0] 36)) := (Below.refl _ w).alloc (Nat.le_refl _) _
  have hres := Mem.new w (.cells #[.int .i64 0, .int .i64 0] 36)
  have hl := hg _ hb0
  have HB := Lib.hid (And.intro hb0 hres)
  clear hb0 hres hg
  go_enter Tryz.func10, Tryz.ntmps10
  go_wp2_with (first
    | (go_at_call 25; refine hl.mono ?_; rintro _ w2 ⟨rfl, hb2⟩; have hres2 := (hb2.block w.heap.size (by simp)).trans HB.out.2; have g0_2 : w2.frozen? ⟨w.heap.size, 0, none⟩ = false := Mem.free hres2; have g1_2 : w2.frozen? ⟨w.heap.size, 1, none⟩ = false := Mem.free hres2; have r0_2 : w2.cell? ⟨w.heap.size, 0, none⟩ = some (.int .i64 0) := Mem.cell hres2 rfl; have r1_2 : w2.cell? ⟨w.heap.size, 1, none⟩ = some (.int .i64 0) := Mem.cell hres2 rfl))
  have hq := (Mem.set (j := 1) (u := .int .i64 (-1)) (Mem.set (j := 0) (u := .int .i64 0) hres2))
  have q0 := Mem.cell (j := 0) (v := .int .i64 0) hq rfl
  have q1 := Mem.cell (j := 1) (v := .int .i64 (-1)) hq rfl
  refine bodyPost_ret (v := .tuple #[.agg #[.int .i64 0, .int .i64 (-1)], .int .i64 0]) (by simp [results, Tryz.results10, go_sem, *]) rfl ⟨rfl, ?_⟩
  exact Mem.Ch.below (B := w.heap.size) (S := fun k => w.heap.size ≤ k) ((((Mem.Ch.of_below HB.out.1).trans' (Mem.Ch.of_below' hb2)).set (.inl (Nat.le_refl _))).set (.inl (Nat.le_refl _))) (fun k hk hS => by have h : w.heap.size ≤ k := hS; omega) (Nat.le_refl _)
set_option maxRecDepth 100000 in
set_option maxHeartbeats 4000000 in
theorem rloadV_ill (a : Value) (s t : ByteArray) (w : World) (hg : ∀ W, Below w.heap.size w W → Calls Tryz.prog 25 #[a, .string ⟨#[118, 111, 116, 101]⟩] W fun r w' => r = .returned (.tuple #[.string s, .bool true]) ∧ Below W.heap.size W w') (hsd : ∀ W, Calls Tryz.prog 26 #[.string s] W fun r w' => r = .returned (.tuple #[.string t, .bool false]) ∧ Below W.heap.size W w') : Calls Tryz.prog 10 #[a] w fun r w' => r = .returned (.tuple #[.agg #[.int .i64 0, .int .i64 0], .int .i64 3]) ∧ Below w.heap.size w w' := by
  have hb0 : Below w.heap.size w (w.alloc (.cells #[.int .i64 0, .int .i64 0] 36)) := (Below.refl _ w).alloc (Nat.le_refl _) _
  have hres := Mem.new w (.cells #[.int .i64 0, .int .i64 0] 36)
  have hl := hg _ hb0
  have HB := Lib.hid (And.intro hb0 hres)
  clear hb0 hres hg
  go_enter Tryz.func10, Tryz.ntmps10
  go_wp2_with (first
    | (go_at_call 25; refine hl.mono ?_; rintro _ w2 ⟨rfl, hb2⟩; have hres2 := (hb2.block w.heap.size (by simp)).trans HB.out.2; have g0_2 : w2.frozen? ⟨w.heap.size, 0, none⟩ = false := Mem.free hres2; have g1_2 : w2.frozen? ⟨w.heap.size, 1, none⟩ = false := Mem.free hres2; have r0_2 : w2.cell? ⟨w.heap.size, 0, none⟩ = some (.int .i64 0) := Mem.cell hres2 rfl; have r1_2 : w2.cell? ⟨w.heap.size, 1, none⟩ = some (.int .i64 0) := Mem.cell hres2 rfl)
    | (go_at_call 26; refine (hsd _).mono ?_; rintro _ w3 ⟨rfl, hb3⟩; have hres3 := (hb3.block w.heap.size (Mem.lt hres2)).trans hres2; have g0_3 : w3.frozen? ⟨w.heap.size, 0, none⟩ = false := Mem.free hres3; have g1_3 : w3.frozen? ⟨w.heap.size, 1, none⟩ = false := Mem.free hres3; have r0_3 : w3.cell? ⟨w.heap.size, 0, none⟩ = some (.int .i64 0) := Mem.cell hres3 rfl; have r1_3 : w3.cell? ⟨w.heap.size, 1, none⟩ = some (.int .i64 0) := Mem.cell hres3 rfl))
  have hq := (Mem.set (j := 1) (u := .int .i64 0) (Mem.set (j := 0) (u := .int .i64 0) hres3))
  have q0 := Mem.cell (j := 0) (v := .int .i64 0) hq rfl
  have q1 := Mem.cell (j := 1) (v := .int .i64 0) hq rfl
  refine bodyPost_ret (v := .tuple #[.agg #[.int .i64 0, .int .i64 0], .int .i64 3]) (by simp [results, Tryz.results10, go_sem, *]) rfl ⟨rfl, ?_⟩
  exact Mem.Ch.below (B := w.heap.size) (S := fun k => w.heap.size ≤ k) (((((Mem.Ch.of_below HB.out.1).trans' (Mem.Ch.of_below' hb2)).trans' (Mem.Ch.of_below' hb3)).set (.inl (Nat.le_refl _))).set (.inl (Nat.le_refl _))) (fun k hk hS => by have h : w.heap.size ≤ k := hS; omega) (Nat.le_refl _)
set_option maxRecDepth 100000 in
set_option maxHeartbeats 4000000 in
theorem rloadV_ok (a : Value) (s t : ByteArray) (w : World) (a0 b0 e0 : Int) (hg : ∀ W, Below w.heap.size w W → Calls Tryz.prog 25 #[a, .string ⟨#[118, 111, 116, 101]⟩] W fun r w' => r = .returned (.tuple #[.string s, .bool true]) ∧ Below W.heap.size W w') (hsd : ∀ W, Calls Tryz.prog 26 #[.string s] W fun r w' => r = .returned (.tuple #[.string t, .bool true]) ∧ Below W.heap.size W w') (hrd : ∀ W, Calls Tryz.prog 27 #[.string t] W fun r w' => r = .returned (.tuple #[.agg #[.int .i64 a0, .int .i64 b0], .int .i64 e0]) ∧ Below W.heap.size W w') : Calls Tryz.prog 10 #[a] w fun r w' => r = .returned (.tuple #[.agg #[.int .i64 a0, .int .i64 b0], .int .i64 e0]) ∧ Below w.heap.size w w' := by
  have hb0 : Below w.heap.size w (w.alloc (.cells #[.int .i64 0, .int .i64 0] 36)) := (Below.refl _ w).alloc (Nat.le_refl _) _
  have hres := Mem.new w (.cells #[.int .i64 0, .int .i64 0] 36)
  have hl := hg _ hb0
  have HB := Lib.hid (And.intro hb0 hres)
  clear hb0 hres hg
  go_enter Tryz.func10, Tryz.ntmps10
  go_wp2_with (first
    | (go_at_call 25; refine hl.mono ?_; rintro _ w2 ⟨rfl, hb2⟩; have hres2 := (hb2.block w.heap.size (by simp)).trans HB.out.2; have g0_2 : w2.frozen? ⟨w.heap.size, 0, none⟩ = false := Mem.free hres2; have g1_2 : w2.frozen? ⟨w.heap.size, 1, none⟩ = false := Mem.free hres2; have r0_2 : w2.cell? ⟨w.heap.size, 0, none⟩ = some (.int .i64 0) := Mem.cell hres2 rfl; have r1_2 : w2.cell? ⟨w.heap.size, 1, none⟩ = some (.int .i64 0) := Mem.cell hres2 rfl)
    | (go_at_call 26; refine (hsd _).mono ?_; rintro _ w3 ⟨rfl, hb3⟩; have hres3 := (hb3.block w.heap.size (Mem.lt hres2)).trans hres2; have g0_3 : w3.frozen? ⟨w.heap.size, 0, none⟩ = false := Mem.free hres3; have g1_3 : w3.frozen? ⟨w.heap.size, 1, none⟩ = false := Mem.free hres3; have r0_3 : w3.cell? ⟨w.heap.size, 0, none⟩ = some (.int .i64 0) := Mem.cell hres3 rfl; have r1_3 : w3.cell? ⟨w.heap.size, 1, none⟩ = some (.int .i64 0) := Mem.cell hres3 rfl)
    | (go_at_call 27; refine (hrd _).mono ?_; rintro _ w4 ⟨rfl, hb4⟩; have hres4 := (hb4.block w.heap.size (Mem.lt hres3)).trans hres3; have hl4 := Mem.lt hres4; have g0_4 : w4.frozen? ⟨w.heap.size, 0, none⟩ = false := Mem.free hres4; have g1_4 : w4.frozen? ⟨w.heap.size, 1, none⟩ = false := Mem.free hres4; have r0_4 : w4.cell? ⟨w.heap.size, 0, none⟩ = some (.int .i64 0) := Mem.cell hres4 rfl; have r1_4 : w4.cell? ⟨w.heap.size, 1, none⟩ = some (.int .i64 0) := Mem.cell hres4 rfl))
  have hq := (Mem.set (j := 1) (u := .int .i64 b0) (Mem.set (j := 0) (u := .int .i64 a0) hres4))
  have q0 := Mem.cell (j := 0) (v := .int .i64 a0) hq rfl
  have q1 := Mem.cell (j := 1) (v := .int .i64 b0) hq rfl
  refine bodyPost_ret (v := .tuple #[.agg #[.int .i64 a0, .int .i64 b0], .int .i64 e0]) (by simp [results, Tryz.results10, go_sem, *]) rfl ⟨rfl, ?_⟩
  exact Mem.Ch.below (B := w.heap.size) (S := fun k => w.heap.size ≤ k) ((((((Mem.Ch.of_below HB.out.1).trans' (Mem.Ch.of_below' hb2)).trans' (Mem.Ch.of_below' hb3)).trans' (Mem.Ch.of_below' hb4)).set (.inl (Nat.le_refl _))).set (.inl (Nat.le_refl _))) (fun k hk hS => by have h : w.heap.size ≤ k := hS; omega) (Nat.le_refl _)
set_option maxRecDepth 100000 in
set_option maxHeartbeats 4000000 in
theorem rloadS_none (a : Value) (w : World) (hg : ∀ W, Below w.heap.size w W → Calls Tryz.prog 25 #[a, .string ⟨#[115, 110, 97, 112]⟩] W fun r w' => r = .returned (.tuple #[.string ⟨#[]⟩, .bool false]) ∧ Below W.heap.size W w') : Calls Tryz.prog 12 #[a] w fun r w' => r = .returned (.tuple #[.agg #[.int .i64 0, .int .i64 0, .int .i64 0, .string ⟨#[]⟩], .bool false, .int .i64 0]) ∧ Below w.heap.size w w' := by
  have hb0 : Below w.heap.size w (w.alloc (.cells #[.int .i64 0, .int .i64 0, .int .i64 0, .string ⟨#[]⟩] 43)) := (Below.refl _ w).alloc (Nat.le_refl _) _
  have hres := Mem.new w (.cells #[.int .i64 0, .int .i64 0, .int .i64 0, .string ⟨#[]⟩] 43)
  have hl := hg _ hb0
  have HB := Lib.hid (And.intro hb0 hres)
  clear hb0 hres hg
  go_enter Tryz.func12, Tryz.ntmps12
  go_wp2_with (first
    | (go_at_call 25; refine hl.mono ?_; rintro _ w2 ⟨rfl, hb2⟩; have hres2 := (hb2.block w.heap.size (by simp)).trans HB.out.2; have g0_2 : w2.frozen? ⟨w.heap.size, 0, none⟩ = false := Mem.free hres2; have g1_2 : w2.frozen? ⟨w.heap.size, 1, none⟩ = false := Mem.free hres2; have g2_2 : w2.frozen? ⟨w.heap.size, 2, none⟩ = false := Mem.free hres2; have g3_2 : w2.frozen? ⟨w.heap.size, 3, none⟩ = false := Mem.free hres2; have r0_2 : w2.cell? ⟨w.heap.size, 0, none⟩ = some (.int .i64 0) := Mem.cell hres2 rfl; have r1_2 : w2.cell? ⟨w.heap.size, 1, none⟩ = some (.int .i64 0) := Mem.cell hres2 rfl; have r2_2 : w2.cell? ⟨w.heap.size, 2, none⟩ = some (.int .i64 0) := Mem.cell hres2 rfl; have r3_2 : w2.cell? ⟨w.heap.size, 3, none⟩ = some (.string ⟨#[]⟩) := Mem.cell hres2 rfl))
  have hq := (Mem.set (j := 3) (u := .string ⟨#[]⟩) (Mem.set (j := 2) (u := .int .i64 0) (Mem.set (j := 1) (u := .int .i64 0) (Mem.set (j := 0) (u := .int .i64 0) hres2))))
  have q0 := Mem.cell (j := 0) (v := .int .i64 0) hq rfl
  have q1 := Mem.cell (j := 1) (v := .int .i64 0) hq rfl
  have q2 := Mem.cell (j := 2) (v := .int .i64 0) hq rfl
  have q3 := Mem.cell (j := 3) (v := .string ⟨#[]⟩) hq rfl
  refine bodyPost_ret (v := .tuple #[.agg #[.int .i64 0, .int .i64 0, .int .i64 0, .string ⟨#[]⟩], .bool false, .int .i64 0]) (by simp [results, Tryz.results12, go_sem, *]) rfl ⟨rfl, ?_⟩
  exact Mem.Ch.below (B := w.heap.size) (S := fun k => w.heap.size ≤ k) ((((((Mem.Ch.of_below HB.out.1).trans' (Mem.Ch.of_below' hb2)).set (.inl (Nat.le_refl _))).set (.inl (Nat.le_refl _))).set (.inl (Nat.le_refl _))).set (.inl (Nat.le_refl _))) (fun k hk hS => by have h : w.heap.size ≤ k := hS; omega) (Nat.le_refl _)
set_option maxRecDepth 100000 in
set_option maxHeartbeats 4000000 in
theorem rloadS_ill (a : Value) (s t : ByteArray) (w : World) (hg : ∀ W, Below w.heap.size w W → Calls Tryz.prog 25 #[a, .string ⟨#[115, 110, 97, 112]⟩] W fun r w' => r = .returned (.tuple #[.string s, .bool true]) ∧ Below W.heap.size W w') (hsd : ∀ W, Calls Tryz.prog 26 #[.string s] W fun r w' => r = .returned (.tuple #[.string t, .bool false]) ∧ Below W.heap.size W w') : Calls Tryz.prog 12 #[a] w fun r w' => r = .returned (.tuple #[.agg #[.int .i64 0, .int .i64 0, .int .i64 0, .string ⟨#[]⟩], .bool false, .int .i64 3]) ∧ Below w.heap.size w w' := by
  have hb0 : Below w.heap.size w (w.alloc (.cells #[.int .i64 0, .int .i64 0, .int .i64 0, .string ⟨#[]⟩] 43)) := (Below.refl _ w).alloc (Nat.le_refl _) _
  have hres := Mem.new w (.cells #[.int .i64 0, .int .i64 0, .int .i64 0, .string ⟨#[]⟩] 43)
  have hl := hg _ hb0
  have HB := Lib.hid (And.intro hb0 hres)
  clear hb0 hres hg
  go_enter Tryz.func12, Tryz.ntmps12
  go_wp2_with (first
    | (go_at_call 25; refine hl.mono ?_; rintro _ w2 ⟨rfl, hb2⟩; have hres2 := (hb2.block w.heap.size (by simp)).trans HB.out.2; have g0_2 : w2.frozen? ⟨w.heap.size, 0, none⟩ = false := Mem.free hres2; have g1_2 : w2.frozen? ⟨w.heap.size, 1, none⟩ = false := Mem.free hres2; have g2_2 : w2.frozen? ⟨w.heap.size, 2, none⟩ = false := Mem.free hres2; have g3_2 : w2.frozen? ⟨w.heap.size, 3, none⟩ = false := Mem.free hres2; have r0_2 : w2.cell? ⟨w.heap.size, 0, none⟩ = some (.int .i64 0) := Mem.cell hres2 rfl; have r1_2 : w2.cell? ⟨w.heap.size, 1, none⟩ = some (.int .i64 0) := Mem.cell hres2 rfl; have r2_2 : w2.cell? ⟨w.heap.size, 2, none⟩ = some (.int .i64 0) := Mem.cell hres2 rfl; have r3_2 : w2.cell? ⟨w.heap.size, 3, none⟩ = some (.string ⟨#[]⟩) := Mem.cell hres2 rfl)
    | (go_at_call 26; refine (hsd _).mono ?_; rintro _ w3 ⟨rfl, hb3⟩; have hres3 := (hb3.block w.heap.size (Mem.lt hres2)).trans hres2; have g0_3 : w3.frozen? ⟨w.heap.size, 0, none⟩ = false := Mem.free hres3; have g1_3 : w3.frozen? ⟨w.heap.size, 1, none⟩ = false := Mem.free hres3; have g2_3 : w3.frozen? ⟨w.heap.size, 2, none⟩ = false := Mem.free hres3; have g3_3 : w3.frozen? ⟨w.heap.size, 3, none⟩ = false := Mem.free hres3; have r0_3 : w3.cell? ⟨w.heap.size, 0, none⟩ = some (.int .i64 0) := Mem.cell hres3 rfl; have r1_3 : w3.cell? ⟨w.heap.size, 1, none⟩ = some (.int .i64 0) := Mem.cell hres3 rfl; have r2_3 : w3.cell? ⟨w.heap.size, 2, none⟩ = some (.int .i64 0) := Mem.cell hres3 rfl; have r3_3 : w3.cell? ⟨w.heap.size, 3, none⟩ = some (.string ⟨#[]⟩) := Mem.cell hres3 rfl))
  have hq := (Mem.set (j := 3) (u := .string ⟨#[]⟩) (Mem.set (j := 2) (u := .int .i64 0) (Mem.set (j := 1) (u := .int .i64 0) (Mem.set (j := 0) (u := .int .i64 0) hres3))))
  have q0 := Mem.cell (j := 0) (v := .int .i64 0) hq rfl
  have q1 := Mem.cell (j := 1) (v := .int .i64 0) hq rfl
  have q2 := Mem.cell (j := 2) (v := .int .i64 0) hq rfl
  have q3 := Mem.cell (j := 3) (v := .string ⟨#[]⟩) hq rfl
  refine bodyPost_ret (v := .tuple #[.agg #[.int .i64 0, .int .i64 0, .int .i64 0, .string ⟨#[]⟩], .bool false, .int .i64 3]) (by simp [results, Tryz.results12, go_sem, *]) rfl ⟨rfl, ?_⟩
  exact Mem.Ch.below (B := w.heap.size) (S := fun k => w.heap.size ≤ k) (((((((Mem.Ch.of_below HB.out.1).trans' (Mem.Ch.of_below' hb2)).trans' (Mem.Ch.of_below' hb3)).set (.inl (Nat.le_refl _))).set (.inl (Nat.le_refl _))).set (.inl (Nat.le_refl _))).set (.inl (Nat.le_refl _))) (fun k hk hS => by have h : w.heap.size ≤ k := hS; omega) (Nat.le_refl _)
set_option maxRecDepth 100000 in
set_option maxHeartbeats 4000000 in
theorem rloadS_ok (a : Value) (s t : ByteArray) (w : World) (a0 b0 c0 e0 : Int) (t0 : ByteArray) (y : Bool) (hg : ∀ W, Below w.heap.size w W → Calls Tryz.prog 25 #[a, .string ⟨#[115, 110, 97, 112]⟩] W fun r w' => r = .returned (.tuple #[.string s, .bool true]) ∧ Below W.heap.size W w') (hsd : ∀ W, Calls Tryz.prog 26 #[.string s] W fun r w' => r = .returned (.tuple #[.string t, .bool true]) ∧ Below W.heap.size W w') (hrd : ∀ W, Calls Tryz.prog 29 #[.string t] W fun r w' => r = .returned (.tuple #[.agg #[.int .i64 a0, .int .i64 b0, .int .i64 c0, .string t0], .int .i64 e0]) ∧ Below W.heap.size W w') (hy : (e0 == 0) = y) : Calls Tryz.prog 12 #[a] w fun r w' => r = .returned (.tuple #[.agg #[.int .i64 a0, .int .i64 b0, .int .i64 c0, .string t0], .bool y, .int .i64 e0]) ∧ Below w.heap.size w w' := by
  have hb0 : Below w.heap.size w (w.alloc (.cells #[.int .i64 0, .int .i64 0, .int .i64 0, .string ⟨#[]⟩] 43)) := (Below.refl _ w).alloc (Nat.le_refl _) _
  have hres := Mem.new w (.cells #[.int .i64 0, .int .i64 0, .int .i64 0, .string ⟨#[]⟩] 43)
  have hl := hg _ hb0
  have HB := Lib.hid (And.intro hb0 hres)
  clear hb0 hres hg
  go_enter Tryz.func12, Tryz.ntmps12
  go_wp2_with (first
    | (go_at_call 25; refine hl.mono ?_; rintro _ w2 ⟨rfl, hb2⟩; have hres2 := (hb2.block w.heap.size (by simp)).trans HB.out.2; have g0_2 : w2.frozen? ⟨w.heap.size, 0, none⟩ = false := Mem.free hres2; have g1_2 : w2.frozen? ⟨w.heap.size, 1, none⟩ = false := Mem.free hres2; have g2_2 : w2.frozen? ⟨w.heap.size, 2, none⟩ = false := Mem.free hres2; have g3_2 : w2.frozen? ⟨w.heap.size, 3, none⟩ = false := Mem.free hres2; have r0_2 : w2.cell? ⟨w.heap.size, 0, none⟩ = some (.int .i64 0) := Mem.cell hres2 rfl; have r1_2 : w2.cell? ⟨w.heap.size, 1, none⟩ = some (.int .i64 0) := Mem.cell hres2 rfl; have r2_2 : w2.cell? ⟨w.heap.size, 2, none⟩ = some (.int .i64 0) := Mem.cell hres2 rfl; have r3_2 : w2.cell? ⟨w.heap.size, 3, none⟩ = some (.string ⟨#[]⟩) := Mem.cell hres2 rfl)
    | (go_at_call 26; refine (hsd _).mono ?_; rintro _ w3 ⟨rfl, hb3⟩; have hres3 := (hb3.block w.heap.size (Mem.lt hres2)).trans hres2; have g0_3 : w3.frozen? ⟨w.heap.size, 0, none⟩ = false := Mem.free hres3; have g1_3 : w3.frozen? ⟨w.heap.size, 1, none⟩ = false := Mem.free hres3; have g2_3 : w3.frozen? ⟨w.heap.size, 2, none⟩ = false := Mem.free hres3; have g3_3 : w3.frozen? ⟨w.heap.size, 3, none⟩ = false := Mem.free hres3; have r0_3 : w3.cell? ⟨w.heap.size, 0, none⟩ = some (.int .i64 0) := Mem.cell hres3 rfl; have r1_3 : w3.cell? ⟨w.heap.size, 1, none⟩ = some (.int .i64 0) := Mem.cell hres3 rfl; have r2_3 : w3.cell? ⟨w.heap.size, 2, none⟩ = some (.int .i64 0) := Mem.cell hres3 rfl; have r3_3 : w3.cell? ⟨w.heap.size, 3, none⟩ = some (.string ⟨#[]⟩) := Mem.cell hres3 rfl)
    | (go_at_call 29; refine (hrd _).mono ?_; rintro _ w4 ⟨rfl, hb4⟩; have hres4 := (hb4.block w.heap.size (Mem.lt hres3)).trans hres3; have hl4 := Mem.lt hres4; have g0_4 : w4.frozen? ⟨w.heap.size, 0, none⟩ = false := Mem.free hres4; have g1_4 : w4.frozen? ⟨w.heap.size, 1, none⟩ = false := Mem.free hres4; have g2_4 : w4.frozen? ⟨w.heap.size, 2, none⟩ = false := Mem.free hres4; have g3_4 : w4.frozen? ⟨w.heap.size, 3, none⟩ = false := Mem.free hres4; have r0_4 : w4.cell? ⟨w.heap.size, 0, none⟩ = some (.int .i64 0) := Mem.cell hres4 rfl; have r1_4 : w4.cell? ⟨w.heap.size, 1, none⟩ = some (.int .i64 0) := Mem.cell hres4 rfl; have r2_4 : w4.cell? ⟨w.heap.size, 2, none⟩ = some (.int .i64 0) := Mem.cell hres4 rfl; have r3_4 : w4.cell? ⟨w.heap.size, 3, none⟩ = some (.string ⟨#[]⟩) := Mem.cell hres4 rfl))
  have hq := Mem.old (Mem.set (j := 3) (u := .string t0) (Mem.set (j := 2) (u := .int .i64 c0) (Mem.set (j := 1) (u := .int .i64 b0) (Mem.set (j := 0) (u := .int .i64 a0) hres4)))) (.cells #[.int .i64 a0, .int .i64 b0, .int .i64 c0, .string t0] 43)
  have q0 := Mem.cell (j := 0) (v := .int .i64 a0) hq rfl
  have q1 := Mem.cell (j := 1) (v := .int .i64 b0) hq rfl
  have q2 := Mem.cell (j := 2) (v := .int .i64 c0) hq rfl
  have q3 := Mem.cell (j := 3) (v := .string t0) hq rfl
  refine bodyPost_ret (v := .tuple #[.agg #[.int .i64 a0, .int .i64 b0, .int .i64 c0, .string t0], .bool y, .int .i64 e0]) (by simp [results, Tryz.results12, go_sem, *]) rfl ⟨rfl, ?_⟩
  exact Mem.Ch.below (B := w.heap.size) (S := fun k => w.heap.size ≤ k) (((((((((Mem.Ch.of_below HB.out.1).trans' (Mem.Ch.of_below' hb2)).trans' (Mem.Ch.of_below' hb3)).trans' (Mem.Ch.of_below' hb4)).set (.inl (Nat.le_refl _))).set (.inl (Nat.le_refl _))).set (.inl (Nat.le_refl _))).set (.inl (Nat.le_refl _))).trans' (Mem.Ch.of_below' ((Below.refl _ _).alloc (Nat.le_refl _) _))) (fun k hk hS => by have h : w.heap.size ≤ k := hS; omega) (Nat.le_refl _)
theorem rget_at {fl : List (ByteArray × ByteArray)} {k : ByteArray} {v : Value} {ok : Nat → Prop} {w : World} (h : Mem.Rd w ok 2 v (fl.map fc)) : ∀ W, Below w.heap.size w W → Calls Tryz.prog 25 #[v, .string k] W fun r w' => r = .returned (.tuple #[.string ((look k fl).getD ⟨#[]⟩), .bool (look k fl).isSome]) ∧ Below W.heap.size W w' := fun W hW => rget_any fl k v ok W (h.below hW)
theorem rloadV_all (fl : List (ByteArray × ByteArray)) (v : Value) (ok : Nat → Prop) (w : World) (h : Mem.Rd w ok 2 v (fl.map fc)) (hz : ∀ x, look voteK fl = some x → x.size ≤ 140737488351232) :
    Calls Tryz.prog 10 #[v] w fun r w' => r = .returned (.tuple #[(voteOf (look voteK fl)).1.val, .int .i64 (voteOf (look voteK fl)).2]) ∧ Below w.heap.size w w' := by
  have hg := rget_at (k := voteK) h
  cases h1 : look voteK fl with
  | none =>
    rw [h1] at hg
    exact rloadV_none v w hg
  | some s =>
    rw [h1] at hg
    have hx := hz s h1
    have hsd := fun W => rsaid_any s W hx
    unfold voteOf
    dsimp only
    cases h2 : said s with
    | none =>
      rw [h2] at hsd
      exact rloadV_ill v s _ w hg hsd
    | some t =>
      rw [h2, said_some h2] at hsd
      have hrd := fun W => rreadV_any t W (Nat.le_trans (said_le h2) hx)
      dsimp only
      obtain ⟨⟨⟨a0, b0⟩, e0⟩, hr⟩ : ∃ y, Vt.read t = y := ⟨_, rfl⟩
      rw [hr] at hrd ⊢
      exact rloadV_ok v s t w a0 b0 e0 hg hsd hrd
theorem rloadS_all (fl : List (ByteArray × ByteArray)) (v : Value) (ok : Nat → Prop) (w : World) (h : Mem.Rd w ok 2 v (fl.map fc)) (hz : ∀ x, look snapK fl = some x → x.size ≤ 140737488351232) :
    Calls Tryz.prog 12 #[v] w fun r w' => r = .returned (.tuple #[(snapOf (look snapK fl)).1.val, .bool (snapOf (look snapK fl)).2.1, .int .i64 (snapOf (look snapK fl)).2.2]) ∧ Below w.heap.size w w' := by
  have hg := rget_at (k := snapK) h
  cases h1 : look snapK fl with
  | none =>
    rw [h1] at hg
    exact rloadS_none v w hg
  | some s =>
    rw [h1] at hg
    have hx := hz s h1
    have hsd := fun W => rsaid_any s W hx
    unfold snapOf
    dsimp only
    cases h2 : said s with
    | none =>
      rw [h2] at hsd
      exact rloadS_ill v s _ w hg hsd
    | some t =>
      rw [h2, said_some h2] at hsd
      have hrd := fun W => rreadS_any t W (Nat.le_trans (said_le h2) hx)
      dsimp only
      obtain ⟨⟨⟨a0, b0, c0, t0⟩, e0⟩, hr⟩ : ∃ y, Sn.read t = y := ⟨_, rfl⟩
      rw [hr] at hrd ⊢
      exact rloadS_ok v s t w a0 b0 c0 e0 t0 _ hg hsd hrd (by by_cases he : e0 = 0 <;> simp [he])
end Go.Proofs.YtpdceondgbgpkaaGreatDoor
namespace Go.Proofs.YtpdceondgbgpkaaGreatDoor.Dsk
open Go.RowKit Go.Maps
set_option linter.unusedSimpArgs false
set_option linter.unusedVariables false
/-- The names of files, rising. -/
structure NamesOf (F : FM) (l : List ByteArray) : Prop where
  mem : ∀ s, s ∈ l ↔ (F s).isSome = true
  up : l.Pairwise (fun a b => a.data.toList < b.data.toList)
theorem NamesOf.nodup {F : FM} {l : List ByteArray} (h : NamesOf F l) : l.Nodup := h.up.imp (fun hab e => by subst e; exact List.lt_irrefl _ hab)
theorem NamesOf.one {F : FM} {l l' : List ByteArray} (h : NamesOf F l) (h' : NamesOf F l') : l = l' := by
  have hp : l.Perm l' := (List.perm_ext_iff_of_nodup h.nodup h'.nodup).2 (fun s => (h.mem s).trans (h'.mem s).symm)
  exact List.Perm.eq_of_pairwise (le := fun a b : ByteArray => a.data.toList < b.data.toList) (fun a b _ _ h1 h2 => absurd (List.lt_trans h1 h2) (List.lt_irrefl _)) h.up h'.up hp
section
variable {H : Type} {P : Program} {k : TypeId} {R : Value → Option (DataW H × List MemPlace)} {w : World} {b n : Nat} {D : DataW H}
theorem mem_keys (hown : w.ownsMap P k R b n D) (hk : P.underlying k = some .string) (x : List UInt8) : x ∈ strKeys D ↔ Maps.has D (.string x) = true := by
  obtain ⟨es, rfl, hko⟩ := hown.keysOf
  have hs : ∀ p ∈ es, ∃ x, p.1 = .string x := fun p hp => by obtain ⟨v, hv⟩ := hko p hp; obtain ⟨x, _, hx, _⟩ := Maps.keyOf_str hk hv; exact ⟨x, hx⟩
  rw [has_eq, List.any_eq_true]
  show (x ∈ es.map fun p => strOf p.1) ↔ _
  rw [List.mem_map]
  constructor
  · rintro ⟨p, hp', rfl⟩
    obtain ⟨a, ha⟩ := hs p hp'
    exact ⟨p, hp', by rw [ha]; simp [Lit.sameKey, strOf]⟩
  · rintro ⟨p, hp', hq⟩
    obtain ⟨a, ha⟩ := hs p hp'
    rw [ha] at hq
    exact ⟨p, hp', by rw [ha]; simpa [Lit.sameKey, strOf] using hq⟩
theorem nodup_keys (hown : w.ownsMap P k R b n D) (K : Keyed P k) (hk : P.underlying k = some .string) : (strKeys D).Nodup := by
  obtain ⟨es, hD, hpw, _⟩ := hown.entries K
  obtain ⟨es', hD', hko⟩ := hown.keysOf
  obtain rfl : es = es' := by rw [hD] at hD'; simpa using hD'
  subst hD
  have hs : ∀ p ∈ es, ∃ x, p.1 = .string x := fun p hp => by obtain ⟨v, hv⟩ := hko p hp; obtain ⟨x, _, hx, _⟩ := Maps.keyOf_str hk hv; exact ⟨x, hx⟩
  show (es.map fun p => strOf p.1).Nodup
  refine List.pairwise_map.2 (hpw.imp_of_mem fun {p q} hp' hq' hne e => hne ?_)
  obtain ⟨a, ha⟩ := hs p hp'
  obtain ⟨b, hb⟩ := hs q hq'
  rw [ha, hb] at e ⊢
  exact congrArg _ e
end
theorem data_mk (x : List UInt8) : (ByteArray.mk x.toArray).data.toList = x := rfl
theorem names_of {w : World} {b n : Nat} {D : DataW Unit} {F : FM} (hown : w.ownsMap Tryz.prog 9 (plainElem Tryz.prog 9) b n D) (hF : Files D F) {ss : List (List UInt8)} (hp : ss.Perm (strKeys D)) : NamesOf F ((ss.mergeSort leB).map (fun x => ByteArray.mk x.toArray)) := by
  have tr : ∀ a b c : List UInt8, leB a b = true → leB b c = true → leB a c = true := fun a b c h1 h2 => by simp only [leB, decide_eq_true_eq] at *; exact List.le_trans h1 h2
  have to : ∀ a b : List UInt8, (leB a b || leB b a) = true := fun a b => by simp only [leB, Bool.or_eq_true, decide_eq_true_eq]; exact List.le_total a b
  have hperm := (List.mergeSort_perm ss leB).trans hp
  have hnd : (ss.mergeSort leB).Nodup := hperm.nodup_iff.2 (nodup_keys hown key_law Tryz.underlying9)
  refine ⟨fun s => ?_, ?_⟩
  · rw [List.mem_map, ← hF.has, ← mem_keys hown Tryz.underlying9]
    constructor
    · rintro ⟨x, hx, rfl⟩
      exact hperm.mem_iff.1 hx
    · intro hx
      exact ⟨s.data.toList, hperm.mem_iff.2 hx, by apply ByteArray.ext; exact Array.ext' rfl⟩
  · refine List.pairwise_map.2 ?_
    refine ((List.pairwise_mergeSort tr to ss).and hnd).imp (fun {a b} h => ?_)
    obtain ⟨h1, h2⟩ := h
    simp only [leB, decide_eq_true_eq] at h1
    show a < b
    refine Classical.byContradiction (fun hn => h2 ?_)
    exact List.le_antisymm h1 (List.not_lt.1 hn)
theorem size_keys {w : World} {b n : Nat} {D : DataW Unit} (hown : w.ownsMap Tryz.prog 9 (plainElem Tryz.prog 9) b n D) : Maps.size D = (strKeys D).length := by
  obtain ⟨es, rfl, _⟩ := hown.keysOf
  show _ = (es.map _).length
  rw [List.length_map]
  rfl
theorem flat_one {α β : Type} (f : α → β) : ∀ l : List α, (l.map (fun s => [f s])).flatten = l.map f
  | [] => rfl
  | a :: l => by rw [List.map_cons, List.flatten_cons, flat_one f l]; rfl
end Go.Proofs.YtpdceondgbgpkaaGreatDoor.Dsk
