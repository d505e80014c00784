/- shelf: load, save: the walks. -/
import Derived.Test.YtbpnhaeladcbnaaDoorShl4
import Derived.Test.YtbpnhaeladcbnaaDoorCrcU
import Derived.Test.YtbpnhaeladcbnaaDoorDsk8
import Derived.Test.YtbpnhaeladcbnaaDoorDskF
namespace Go.Proofs.YtbpnhaeladcbnaaDoor
open Go.RowKit
set_option linter.unusedSimpArgs false
set_option linter.unusedVariables false
open Sp (bs)
open Dsk (DiskAt Dk)
def Got (a : Value) (f x : ByteArray) (e : Int) (w : World) : Prop := ∀ W, Below w.heap.size w W → Calls Tryd.prog 18 #[a, .string f] W fun r w' => r = .returned (.tuple #[.string x, .int .i64 e]) ∧ Below W.heap.size W w'
theorem Got.on {a : Value} {f x : ByteArray} {e : Int} {w w1 : World} (h : Got a f x e w) (hb : Below w.heap.size w w1) : Got a f x e w1 := fun W hW => h W (hb.trans (hW.mono hb.size))
def Load (a : Value) (f x : ByteArray) (e : Int) (w : World) : Prop := ∀ W, Below w.heap.size w W → Calls Tryd.prog 27 #[a, .string f] W fun r w' => r = .returned (.tuple #[.string x, .int .i64 e]) ∧ Below W.heap.size W w'
theorem Load.on {a : Value} {f x : ByteArray} {e : Int} {w w1 : World} (h : Load a f x e w) (hb : Below w.heap.size w w1) : Load a f x e w1 := fun W hW => h W (hb.trans (hW.mono hb.size))
set_option maxRecDepth 100000 in
set_option maxHeartbeats 2000000 in
theorem load_bad (a : Value) (f : ByteArray) (e : Int) (he : e ≠ 0) (w : World) (h : Got a f ⟨#[]⟩ e w) : Load a f ⟨#[]⟩ e w := by
  intro W hW
  have hr := h W hW
  clear h hW
  go_enter Tryd.func27, Tryd.ntmps27
  go_wp2_with (go_at_call 18; refine hr.mono ?_; rintro _ w2 ⟨rfl, hb2⟩)
  go_ret2
  exact ⟨rfl, hb2⟩
set_option maxRecDepth 100000 in
set_option maxHeartbeats 2000000 in
theorem load_good (a : Value) (f x t : ByteArray) (w : World) (h : Got a f x 0 w) (hx : x.size ≤ 140737488351232) (hu : Crc.unpackP x = (t, ⟨#[]⟩, 0)) : Load a f t 0 w := by
  intro W hW
  have hr := h W hW
  have hn := fun W => unpack_any x W hx
  rw [hu] at hn
  dsimp only at hn
  have hem : (ByteArray.mk #[]).toList.isEmpty = true := by decide +kernel
  clear h hW hu
  go_enter Tryd.func27, Tryd.ntmps27
  go_wp2_with (first
    | (go_at_call 18; refine hr.mono ?_; rintro _ w2 ⟨rfl, hb2⟩)
    | (go_at_call 35; refine (hn _).mono ?_; rintro _ w3 ⟨rfl, hb3⟩))
  go_ret2
  exact ⟨rfl, hb2.trans (hb3.mono hb2.size)⟩
set_option maxRecDepth 100000 in
set_option maxHeartbeats 4000000 in
theorem loadV_none (p : Value) (w : World) (h : Load p ⟨#[118, 111, 116, 101]⟩ ⟨#[]⟩ 4 w) : Calls Tryd.prog 19 #[p] w fun r w' => r = .returned (.tuple #[.agg #[.int .i64 0, .int .i64 (-1)], .int .i64 0]) ∧ Below w.heap.size w w' := by
  have hb0 : Below w.heap.size w (w.alloc (.cells #[.int .i64 0, .int .i64 0] 26)) := (Below.refl _ w).alloc (Nat.le_refl _) _
  have hres := Mem.new w (.cells #[.int .i64 0, .int .i64 0] 26)
  have hl := h _ hb0
  have HB := Lib.hid (And.intro hb0 hres)
  clear hb0 hres h
  go_enter Tryd.func19, Tryd.ntmps19
  go_wp2_with (first
    | (go_at_call 27; refine hl.mono ?_; rintro _ w2 ⟨rfl, hb2⟩; have hres2 := (hb2.block w.heap.size (by simp)).trans HB.out.2; have g0 : w2.frozen? ⟨w.heap.size, 0, none⟩ = false := Mem.free hres2; have g1 : w2.frozen? ⟨w.heap.size, 1, none⟩ = false := Mem.free hres2; have r0 : w2.cell? ⟨w.heap.size, 0, none⟩ = some (.int .i64 0) := Mem.cell hres2 rfl; have r1 : w2.cell? ⟨w.heap.size, 1, none⟩ = some (.int .i64 0) := Mem.cell hres2 rfl))
  have hq := (Mem.set (j := 1) (u := .int .i64 (-1)) (Mem.set (j := 0) (u := .int .i64 0) hres2))
  have q0 := Mem.cell (j := 0) (v := .int .i64 0) hq rfl
  have q1 := Mem.cell (j := 1) (v := .int .i64 (-1)) hq rfl
  refine bodyPost_ret (v := .tuple #[.agg #[.int .i64 0, .int .i64 (-1)], .int .i64 0]) (by simp [results, Tryd.results19, go_sem, *]) rfl ⟨rfl, ?_⟩
  exact Mem.Ch.below (B := w.heap.size) (S := fun k => w.heap.size ≤ k) (((((Mem.Ch.of_below HB.out.1).trans' (Mem.Ch.of_below' hb2))).set (.inl (Nat.le_refl _))).set (.inl (Nat.le_refl _))) (fun k hk hS => by have h : w.heap.size ≤ k := hS; omega) (Nat.le_refl _)
set_option maxRecDepth 100000 in
set_option maxHeartbeats 4000000 in
theorem loadV_err (p : Value) (w : World) (e : Int) (h0 : e ≠ 0) (h4 : e ≠ 4) (h : Load p ⟨#[118, 111, 116, 101]⟩ ⟨#[]⟩ e w) : Calls Tryd.prog 19 #[p] w fun r w' => r = .returned (.tuple #[.agg #[.int .i64 0, .int .i64 0], .int .i64 e]) ∧ Below w.heap.size w w' := by
  have hb0 : Below w.heap.size w (w.alloc (.cells #[.int .i64 0, .int .i64 0] 26)) := (Below.refl _ w).alloc (Nat.le_refl _) _
  have hres := Mem.new w (.cells #[.int .i64 0, .int .i64 0] 26)
  have hl := h _ hb0
  have HB := Lib.hid (And.intro hb0 hres)
  clear hb0 hres h
  go_enter Tryd.func19, Tryd.ntmps19
  go_wp2_with (first
    | (go_at_call 27; refine hl.mono ?_; rintro _ w2 ⟨rfl, hb2⟩; have hres2 := (hb2.block w.heap.size (by simp)).trans HB.out.2; have g0 : w2.frozen? ⟨w.heap.size, 0, none⟩ = false := Mem.free hres2; have g1 : w2.frozen? ⟨w.heap.size, 1, none⟩ = false := Mem.free hres2; have r0 : w2.cell? ⟨w.heap.size, 0, none⟩ = some (.int .i64 0) := Mem.cell hres2 rfl; have r1 : w2.cell? ⟨w.heap.size, 1, none⟩ = some (.int .i64 0) := Mem.cell hres2 rfl))
  have hq := (Mem.set (j := 1) (u := .int .i64 0) (Mem.set (j := 0) (u := .int .i64 0) hres2))
  have q0 := Mem.cell (j := 0) (v := .int .i64 0) hq rfl
  have q1 := Mem.cell (j := 1) (v := .int .i64 0) hq rfl
  refine bodyPost_ret (v := .tuple #[.agg #[.int .i64 0, .int .i64 0], .int .i64 e]) (by simp [results, Tryd.results19, go_sem, *]) rfl ⟨rfl, ?_⟩
  exact Mem.Ch.below (B := w.heap.size) (S := fun k => w.heap.size ≤ k) (((((Mem.Ch.of_below HB.out.1).trans' (Mem.Ch.of_below' hb2))).set (.inl (Nat.le_refl _))).set (.inl (Nat.le_refl _))) (fun k hk hS => by have h : w.heap.size ≤ k := hS; omega) (Nat.le_refl _)
set_option maxRecDepth 100000 in
set_option maxHeartbeats 4000000 in
theorem loadV_ok (p : Value) (w : World) (t : ByteArray) (ht : t.size ≤ 140737488351232) (h : Load p ⟨#[118, 111, 116, 101]⟩ t 0 w) : Calls Tryd.prog 19 #[p] w fun r w' => r = .returned (.tuple #[(Vt.read t).1.val, .int .i64 (Vt.read t).2]) ∧ Below w.heap.size w w' := by
  have hb0 : Below w.heap.size w (w.alloc (.cells #[.int .i64 0, .int .i64 0] 26)) := (Below.refl _ w).alloc (Nat.le_refl _) _
  have hres := Mem.new w (.cells #[.int .i64 0, .int .i64 0] 26)
  have hl := h _ hb0
  have hrd := fun W => readV_any t W ht
  generalize Vt.read t = x at hrd ⊢
  obtain ⟨⟨a, b⟩, e'⟩ := x
  unfold Vt.val at hrd ⊢
  dsimp only at hrd ⊢
  have HB := Lib.hid (And.intro hb0 hres)
  clear hb0 hres h
  go_enter Tryd.func19, Tryd.ntmps19
  go_wp2_with (first
    | (go_at_call 27; refine hl.mono ?_; rintro _ w2 ⟨rfl, hb2⟩; have hres2 := (hb2.block w.heap.size (by simp)).trans HB.out.2; have g0 : w2.frozen? ⟨w.heap.size, 0, none⟩ = false := Mem.free hres2; have g1 : w2.frozen? ⟨w.heap.size, 1, none⟩ = false := Mem.free hres2; have r0 : w2.cell? ⟨w.heap.size, 0, none⟩ = some (.int .i64 0) := Mem.cell hres2 rfl; have r1 : w2.cell? ⟨w.heap.size, 1, none⟩ = some (.int .i64 0) := Mem.cell hres2 rfl)
    | (go_at_call 28; refine (hrd _).mono ?_; rintro _ w3 ⟨rfl, hb3⟩; have hres3 := (hb3.block w.heap.size (Mem.lt hres2)).trans hres2; have g0 : w3.frozen? ⟨w.heap.size, 0, none⟩ = false := Mem.free hres3; have g1 : w3.frozen? ⟨w.heap.size, 1, none⟩ = false := Mem.free hres3; have r0 : w3.cell? ⟨w.heap.size, 0, none⟩ = some (.int .i64 0) := Mem.cell hres3 rfl; have r1 : w3.cell? ⟨w.heap.size, 1, none⟩ = some (.int .i64 0) := Mem.cell hres3 rfl))
  have hq := (Mem.set (j := 1) (u := .int .i64 b) (Mem.set (j := 0) (u := .int .i64 a) hres3))
  have q0 := Mem.cell (j := 0) (v := .int .i64 a) hq rfl
  have q1 := Mem.cell (j := 1) (v := .int .i64 b) hq rfl
  refine bodyPost_ret (v := .tuple #[.agg #[.int .i64 a, .int .i64 b], .int .i64 e']) (by simp [results, Tryd.results19, go_sem, *]) rfl ⟨rfl, ?_⟩
  exact Mem.Ch.below (B := w.heap.size) (S := fun k => w.heap.size ≤ k) ((((((Mem.Ch.of_below HB.out.1).trans' (Mem.Ch.of_below' hb2)).trans' (Mem.Ch.of_below' hb3))).set (.inl (Nat.le_refl _))).set (.inl (Nat.le_refl _))) (fun k hk hS => by have h : w.heap.size ≤ k := hS; omega) (Nat.le_refl _)
set_option maxRecDepth 100000 in
set_option maxHeartbeats 4000000 in
theorem loadS_none (p : Value) (w : World) (h : Load p ⟨#[115, 110, 97, 112]⟩ ⟨#[]⟩ 4 w) : Calls Tryd.prog 20 #[p] w fun r w' => r = .returned (.tuple #[.agg #[.int .i64 0, .int .i64 0, .int .i64 0, .string ⟨#[]⟩], .bool false, .int .i64 0]) ∧ Below w.heap.size w w' := by
  have hb0 : Below w.heap.size w (w.alloc (.cells #[.int .i64 0, .int .i64 0, .int .i64 0, .string ⟨#[]⟩] 28)) := (Below.refl _ w).alloc (Nat.le_refl _) _
  have hres := Mem.new w (.cells #[.int .i64 0, .int .i64 0, .int .i64 0, .string ⟨#[]⟩] 28)
  have hl := h _ hb0
  have HB := Lib.hid (And.intro hb0 hres)
  clear hb0 hres h
  go_enter Tryd.func20, Tryd.ntmps20
  go_wp2_with (first
    | (go_at_call 27; refine hl.mono ?_; rintro _ w2 ⟨rfl, hb2⟩; have hres2 := (hb2.block w.heap.size (by simp)).trans HB.out.2; have g0 : w2.frozen? ⟨w.heap.size, 0, none⟩ = false := Mem.free hres2; have g1 : w2.frozen? ⟨w.heap.size, 1, none⟩ = false := Mem.free hres2; have g2 : w2.frozen? ⟨w.heap.size, 2, none⟩ = false := Mem.free hres2; have g3 : w2.frozen? ⟨w.heap.size, 3, none⟩ = false := Mem.free hres2; have r0 : w2.cell? ⟨w.heap.size, 0, none⟩ = some (.int .i64 0) := Mem.cell hres2 rfl; have r1 : w2.cell? ⟨w.heap.size, 1, none⟩ = some (.int .i64 0) := Mem.cell hres2 rfl; have r2 : w2.cell? ⟨w.heap.size, 2, none⟩ = some (.int .i64 0) := Mem.cell hres2 rfl; have r3 : w2.cell? ⟨w.heap.size, 3, none⟩ = some (.string ⟨#[]⟩) := Mem.cell hres2 rfl))
  have hq := (Mem.set (j := 3) (u := .string ⟨#[]⟩) (Mem.set (j := 2) (u := .int .i64 0) (Mem.set (j := 1) (u := .int .i64 0) (Mem.set (j := 0) (u := .int .i64 0) hres2))))
  have q0 := Mem.cell (j := 0) (v := .int .i64 0) hq rfl
  have q1 := Mem.cell (j := 1) (v := .int .i64 0) hq rfl
  have q2 := Mem.cell (j := 2) (v := .int .i64 0) hq rfl
  have q3 := Mem.cell (j := 3) (v := .string ⟨#[]⟩) hq rfl
  refine bodyPost_ret (v := .tuple #[.agg #[.int .i64 0, .int .i64 0, .int .i64 0, .string ⟨#[]⟩], .bool false, .int .i64 0]) (by simp [results, Tryd.results20, go_sem, *]) rfl ⟨rfl, ?_⟩
  exact Mem.Ch.below (B := w.heap.size) (S := fun k => w.heap.size ≤ k) (((((((Mem.Ch.of_below HB.out.1).trans' (Mem.Ch.of_below' hb2))).set (.inl (Nat.le_refl _))).set (.inl (Nat.le_refl _))).set (.inl (Nat.le_refl _))).set (.inl (Nat.le_refl _))) (fun k hk hS => by have h : w.heap.size ≤ k := hS; omega) (Nat.le_refl _)
set_option maxRecDepth 100000 in
set_option maxHeartbeats 4000000 in
theorem loadS_err (p : Value) (w : World) (e : Int) (h0 : e ≠ 0) (h4 : e ≠ 4) (h : Load p ⟨#[115, 110, 97, 112]⟩ ⟨#[]⟩ e w) : Calls Tryd.prog 20 #[p] w fun r w' => r = .returned (.tuple #[.agg #[.int .i64 0, .int .i64 0, .int .i64 0, .string ⟨#[]⟩], .bool false, .int .i64 e]) ∧ Below w.heap.size w w' := by
  have hb0 : Below w.heap.size w (w.alloc (.cells #[.int .i64 0, .int .i64 0, .int .i64 0, .string ⟨#[]⟩] 28)) := (Below.refl _ w).alloc (Nat.le_refl _) _
  have hres := Mem.new w (.cells #[.int .i64 0, .int .i64 0, .int .i64 0, .string ⟨#[]⟩] 28)
  have hl := h _ hb0
  have HB := Lib.hid (And.intro hb0 hres)
  clear hb0 hres h
  go_enter Tryd.func20, Tryd.ntmps20
  go_wp2_with (first
    | (go_at_call 27; refine hl.mono ?_; rintro _ w2 ⟨rfl, hb2⟩; have hres2 := (hb2.block w.heap.size (by simp)).trans HB.out.2; have g0 : w2.frozen? ⟨w.heap.size, 0, none⟩ = false := Mem.free hres2; have g1 : w2.frozen? ⟨w.heap.size, 1, none⟩ = false := Mem.free hres2; have g2 : w2.frozen? ⟨w.heap.size, 2, none⟩ = false := Mem.free hres2; have g3 : w2.frozen? ⟨w.heap.size, 3, none⟩ = false := Mem.free hres2; have r0 : w2.cell? ⟨w.heap.size, 0, none⟩ = some (.int .i64 0) := Mem.cell hres2 rfl; have r1 : w2.cell? ⟨w.heap.size, 1, none⟩ = some (.int .i64 0) := Mem.cell hres2 rfl; have r2 : w2.cell? ⟨w.heap.size, 2, none⟩ = some (.int .i64 0) := Mem.cell hres2 rfl; have r3 : w2.cell? ⟨w.heap.size, 3, none⟩ = some (.string ⟨#[]⟩) := Mem.cell hres2 rfl))
  have hq := (Mem.set (j := 3) (u := .string ⟨#[]⟩) (Mem.set (j := 2) (u := .int .i64 0) (Mem.set (j := 1) (u := .int .i64 0) (Mem.set (j := 0) (u := .int .i64 0) hres2))))
  have q0 := Mem.cell (j := 0) (v := .int .i64 0) hq rfl
  have q1 := Mem.cell (j := 1) (v := .int .i64 0) hq rfl
  have q2 := Mem.cell (j := 2) (v := .int .i64 0) hq rfl
  have q3 := Mem.cell (j := 3) (v := .string ⟨#[]⟩) hq rfl
  refine bodyPost_ret (v := .tuple #[.agg #[.int .i64 0, .int .i64 0, .int .i64 0, .string ⟨#[]⟩], .bool false, .int .i64 e]) (by simp [results, Tryd.results20, go_sem, *]) rfl ⟨rfl, ?_⟩
  exact Mem.Ch.below (B := w.heap.size) (S := fun k => w.heap.size ≤ k) (((((((Mem.Ch.of_below HB.out.1).trans' (Mem.Ch.of_below' hb2))).set (.inl (Nat.le_refl _))).set (.inl (Nat.le_refl _))).set (.inl (Nat.le_refl _))).set (.inl (Nat.le_refl _))) (fun k hk hS => by have h : w.heap.size ≤ k := hS; omega) (Nat.le_refl _)
end Go.Proofs.YtbpnhaeladcbnaaDoor
