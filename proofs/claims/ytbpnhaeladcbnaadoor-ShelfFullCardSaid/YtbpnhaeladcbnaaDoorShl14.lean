/- LoadSnap where the file says a snapshot. -/
import Derived.Test.YtbpnhaeladcbnaaDoorShl5
namespace Go.Proofs.YtbpnhaeladcbnaaDoor
open Go.RowKit
set_option linter.unusedSimpArgs false
set_option linter.unusedVariables false
set_option maxRecDepth 100000 in
set_option maxHeartbeats 4000000 in
theorem loadS_ok (p : Value) (w : World) (t : ByteArray) (ht : t.size ≤ 140737488351232) (a b c : Int) (t' : ByteArray) (hr : Sn.read t = (⟨a, b, c, t'⟩, 0)) (h : Load p ⟨#[115, 110, 97, 112]⟩ t 0 w) : Calls Tryd.prog 20 #[p] w fun r w' => r = .returned (.tuple #[.agg #[.int .i64 a, .int .i64 b, .int .i64 c, .string t'], .bool true, .int .i64 0]) ∧ Below w.heap.size w w' := by
  have hb0 : Below w.heap.size w (w.alloc (.cells #[.int .i64 0, .int .i64 0, .int .i64 0, .string ⟨#[]⟩] 28)) := (Below.refl _ w).alloc (Nat.le_refl _) _
  have hres := Mem.new w (.cells #[.int .i64 0, .int .i64 0, .int .i64 0, .string ⟨#[]⟩] 28)
  have hl := h _ hb0
  have hrd := fun W => readS_any t W ht
  rw [hr] at hrd
  unfold Sn.val at hrd
  dsimp only at hrd
  have HB := Lib.hid (And.intro hb0 hres)
  clear hb0 hres h hr
  go_enter Tryd.func20, Tryd.ntmps20
  go_wp2_with (first
    | (go_at_call 27; refine hl.mono ?_; rintro _ w2 ⟨rfl, hb2⟩; have hres2 := (hb2.block w.heap.size (by simp)).trans HB.out.2)
    | (go_at_call 29; refine (hrd _).mono ?_; rintro _ w3 ⟨rfl, hb3⟩; have hres3 := (hb3.block w.heap.size (Mem.lt hres2)).trans hres2; have hl3 := Mem.lt hres3; have g0 : w3.frozen? ⟨w.heap.size, 0, none⟩ = false := Mem.free hres3; have g1 : w3.frozen? ⟨w.heap.size, 1, none⟩ = false := Mem.free hres3; have g2 : w3.frozen? ⟨w.heap.size, 2, none⟩ = false := Mem.free hres3; have g3 : w3.frozen? ⟨w.heap.size, 3, none⟩ = false := Mem.free hres3; have r0 : w3.cell? ⟨w.heap.size, 0, none⟩ = some (.int .i64 0) := Mem.cell hres3 rfl; have r1 : w3.cell? ⟨w.heap.size, 1, none⟩ = some (.int .i64 0) := Mem.cell hres3 rfl; have r2 : w3.cell? ⟨w.heap.size, 2, none⟩ = some (.int .i64 0) := Mem.cell hres3 rfl; have r3 : w3.cell? ⟨w.heap.size, 3, none⟩ = some (.string ⟨#[]⟩) := Mem.cell hres3 rfl))
  have hq := Mem.old (Mem.set (j := 3) (u := .string t') (Mem.set (j := 2) (u := .int .i64 c) (Mem.set (j := 1) (u := .int .i64 b) (Mem.set (j := 0) (u := .int .i64 a) hres3)))) (.cells #[.int .i64 a, .int .i64 b, .int .i64 c, .string t'] 28)
  have q0 := Mem.cell (j := 0) (v := .int .i64 a) hq rfl
  have q1 := Mem.cell (j := 1) (v := .int .i64 b) hq rfl
  have q2 := Mem.cell (j := 2) (v := .int .i64 c) hq rfl
  have q3 := Mem.cell (j := 3) (v := .string t') hq rfl
  refine bodyPost_ret (v := .tuple #[.agg #[.int .i64 a, .int .i64 b, .int .i64 c, .string t'], .bool true, .int .i64 0]) (by simp [results, Tryd.results20, go_sem, *]) rfl ⟨rfl, ?_⟩
  exact Mem.Ch.below (B := w.heap.size) (S := fun k => w.heap.size ≤ k) ((((((((Mem.Ch.of_below HB.out.1).trans' (Mem.Ch.of_below' hb2)).trans' (Mem.Ch.of_below' hb3)).set (.inl (Nat.le_refl _))).set (.inl (Nat.le_refl _))).set (.inl (Nat.le_refl _))).set (.inl (Nat.le_refl _))).trans' (Mem.Ch.of_below' ((Below.refl _ _).alloc (Nat.le_refl _) _))) (fun k hk hS => by have h : w.heap.size ≤ k := hS; omega) (Nat.le_refl _)
end Go.Proofs.YtbpnhaeladcbnaaDoor
