/- Blocks that a disk may have. · shelf: load, save: the walks. · LoadSnap where the file says a snapshot. · shelf: saving; the law's example. -/
import Derived.Test.YtpdceondgbgpkaaGreatDoorG9
import Derived.Test.YtpdceondgbgpkaaGreatDoorG7
import Derived.Test.YtpdceondgbgpkaaGreatDoorG4
import Derived.Test.YtpdceondgbgpkaaGreatDoorG10
namespace Go.Proofs.YtpdceondgbgpkaaGreatDoor.Dsk
open Go.RowKit
/-- Blocks from B on, but those from M0 to M1. -/
abbrev Off (B M0 M1 : Nat) : Nat → Prop := fun k => B ≤ k ∧ (k < M0 ∨ M1 ≤ k)
theorem offS {B M0 M1 : Nat} {W w' : World} (h : M1 ≤ W.heap.size) (hM : M0 ≤ M1) (hB : B ≤ M0) : ∀ k, Gr (Off B M0 M1) W w' k → Off B M0 M1 k := fun k hk => by rcases hk with hk | hk; exact hk; exact ⟨by omega, .inr (by omega)⟩
/-- Behind a contract, of blocks at or beyond B alone. -/
theorem above {B : Nat} {W w' : World} {p N : Nat} {d : Dk} (hB : B ≤ W.heap.size) (h1 : Mem.Ch (fun k => B ≤ k) W w') (h2 : DiskAt w' (Gr (fun k => B ≤ k) W w') p N d) : Below B W w' ∧ DiskAt w' (fun k => B ≤ k) p N d :=
  ⟨h1.below (fun k hk => by omega) hB, h2.mono (fun k hk => by rcases hk with hk | hk; exact hk; omega)⟩
end Go.Proofs.YtpdceondgbgpkaaGreatDoor.Dsk
namespace Go.Proofs.YtpdceondgbgpkaaGreatDoor
open Go.RowKit
set_option linter.unusedSimpArgs false
set_option linter.unusedVariables false
open Sp (bs)
open Dsk (DiskAt Dk)
def Got (a : Value) (f x : ByteArray) (e : Int) (w : World) : Prop := ∀ W, Below w.heap.size w W → Calls Tryz.prog 22 #[a, .string f] W fun r w' => r = .returned (.tuple #[.string x, .int .i64 e]) ∧ Below W.heap.size W w'
theorem Got.on {a : Value} {f x : ByteArray} {e : Int} {w w1 : World} (h : Got a f x e w) (hb : Below w.heap.size w w1) : Got a f x e w1 := fun W hW => h W (hb.trans (hW.mono hb.size))
def Load (a : Value) (f x : ByteArray) (e : Int) (w : World) : Prop := ∀ W, Below w.heap.size w W → Calls Tryz.prog 23 #[a, .string f] W fun r w' => r = .returned (.tuple #[.string x, .int .i64 e]) ∧ Below W.heap.size W w'
theorem Load.on {a : Value} {f x : ByteArray} {e : Int} {w w1 : World} (h : Load a f x e w) (hb : Below w.heap.size w w1) : Load a f x e w1 := fun W hW => h W (hb.trans (hW.mono hb.size))
set_option maxRecDepth 100000 in
set_option maxHeartbeats 2000000 in
theorem load_bad (a : Value) (f : ByteArray) (e : Int) (he : e ≠ 0) (w : World) (h : Got a f ⟨#[]⟩ e w) : Load a f ⟨#[]⟩ e w := by
  intro W hW
  have hr := h W hW
  clear h hW
  go_enter Tryz.func23, Tryz.ntmps23
  go_wp2_with (go_at_call 22; refine hr.mono ?_; rintro _ w2 ⟨rfl, hb2⟩)
  go_ret2
  exact ⟨rfl, hb2⟩
set_option maxRecDepth 100000 in
set_option maxHeartbeats 2000000 in
theorem load_good (a : Value) (f x t : ByteArray) (w : World) (h : Got a f x 0 w) (hx : x.size ≤ 140737488351232) (hu : Crc.unpackP x = (t, ⟨#[]⟩, 0)) : Load a f t 0 w := by
  intro W hW
  have hr := h W hW
  have hn := fun W => unpack_any x W hx
  rw [hu] at hn
  dsimp only at hn
  have hem : (ByteArray.mk #[]).toList.isEmpty = true := by decide +kernel
  clear h hW hu
  go_enter Tryz.func23, Tryz.ntmps23
  go_wp2_with (first
    | (go_at_call 22; refine hr.mono ?_; rintro _ w2 ⟨rfl, hb2⟩)
    | (go_at_call 37; refine (hn _).mono ?_; rintro _ w3 ⟨rfl, hb3⟩))
  go_ret2
  exact ⟨rfl, hb2.trans (hb3.mono hb2.size)⟩
set_option maxRecDepth 100000 in
set_option maxHeartbeats 4000000 in
theorem loadV_none (p : Value) (w : World) (h : Load p ⟨#[118, 111, 116, 101]⟩ ⟨#[]⟩ 4 w) : Calls Tryz.prog 9 #[p] w fun r w' => r = .returned (.tuple #[.agg #[.int .i64 0, .int .i64 (-1)], .int .i64 0]) ∧ Below w.heap.size w w' := by
  have hb0 : Below w.heap.size w (w.alloc (.cells #[.int .i64 0, .int .i64 0] 33)) := (Below.refl _ w).alloc (Nat.le_refl _) _
  have hres := Mem.new w (.cells #[.int .i64 0, .int .i64 0] 33)
  have hl := h _ hb0
  have HB := Lib.hid (And.intro hb0 hres)
  clear hb0 hres h
  go_enter Tryz.func9, Tryz.ntmps9
  go_wp2_with (first
    | (go_at_call 23; refine hl.mono ?_; rintro _ w2 ⟨rfl, hb2⟩; have hres2 := (hb2.block w.heap.size (by simp)).trans HB.out.2; have g0 : w2.frozen? ⟨w.heap.size, 0, none⟩ = false := Mem.free hres2; have g1 : w2.frozen? ⟨w.heap.size, 1, none⟩ = false := Mem.free hres2; have r0 : w2.cell? ⟨w.heap.size, 0, none⟩ = some (.int .i64 0) := Mem.cell hres2 rfl; have r1 : w2.cell? ⟨w.heap.size, 1, none⟩ = some (.int .i64 0) := Mem.cell hres2 rfl))
  have hq := (Mem.set (j := 1) (u := .int .i64 (-1)) (Mem.set (j := 0) (u := .int .i64 0) hres2))
  have q0 := Mem.cell (j := 0) (v := .int .i64 0) hq rfl
  have q1 := Mem.cell (j := 1) (v := .int .i64 (-1)) hq rfl
  refine bodyPost_ret (v := .tuple #[.agg #[.int .i64 0, .int .i64 (-1)], .int .i64 0]) (by simp [results, Tryz.results9, go_sem, *]) rfl ⟨rfl, ?_⟩
  exact Mem.Ch.below (B := w.heap.size) (S := fun k => w.heap.size ≤ k) (((((Mem.Ch.of_below HB.out.1).trans' (Mem.Ch.of_below' hb2))).set (.inl (Nat.le_refl _))).set (.inl (Nat.le_refl _))) (fun k hk hS => by have h : w.heap.size ≤ k := hS; omega) (Nat.le_refl _)
set_option maxRecDepth 100000 in
set_option maxHeartbeats 4000000 in
theorem loadV_err (p : Value) (w : World) (e : Int) (h0 : e ≠ 0) (h4 : e ≠ 4) (h : Load p ⟨#[118, 111, 116, 101]⟩ ⟨#[]⟩ e w) : Calls Tryz.prog 9 #[p] w fun r w' => r = .returned (.tuple #[.agg #[.int .i64 0, .int .i64 0], .int .i64 e]) ∧ Below w.heap.size w w' := by
  have hb0 : Below w.heap.size w (w.alloc (.cells #[.int .i64 0, .int .i64 0] 33)) := (Below.refl _ w).alloc (Nat.le_refl _) _
  have hres := Mem.new w (.cells #[.int .i64 0, .int .i64 0] 33)
  have hl := h _ hb0
  have HB := Lib.hid (And.intro hb0 hres)
  clear hb0 hres h
  go_enter Tryz.func9, Tryz.ntmps9
  go_wp2_with (first
    | (go_at_call 23; refine hl.mono ?_; rintro _ w2 ⟨rfl, hb2⟩; have hres2 := (hb2.block w.heap.size (by simp)).trans HB.out.2; have g0 : w2.frozen? ⟨w.heap.size, 0, none⟩ = false := Mem.free hres2; have g1 : w2.frozen? ⟨w.heap.size, 1, none⟩ = false := Mem.free hres2; have r0 : w2.cell? ⟨w.heap.size, 0, none⟩ = some (.int .i64 0) := Mem.cell hres2 rfl; have r1 : w2.cell? ⟨w.heap.size, 1, none⟩ = some (.int .i64 0) := Mem.cell hres2 rfl))
  have hq := (Mem.set (j := 1) (u := .int .i64 0) (Mem.set (j := 0) (u := .int .i64 0) hres2))
  have q0 := Mem.cell (j := 0) (v := .int .i64 0) hq rfl
  have q1 := Mem.cell (j := 1) (v := .int .i64 0) hq rfl
  refine bodyPost_ret (v := .tuple #[.agg #[.int .i64 0, .int .i64 0], .int .i64 e]) (by simp [results, Tryz.results9, go_sem, *]) rfl ⟨rfl, ?_⟩
  exact Mem.Ch.below (B := w.heap.size) (S := fun k => w.heap.size ≤ k) (((((Mem.Ch.of_below HB.out.1).trans' (Mem.Ch.of_below' hb2))).set (.inl (Nat.le_refl _))).set (.inl (Nat.le_refl _))) (fun k hk hS => by have h : w.heap.size ≤ k := hS; omega) (Nat.le_refl _)
set_option maxRecDepth 100000 in
set_option maxHeartbeats 4000000 in
theorem loadV_ok (p : Value) (w : World) (t : ByteArray) (ht : t.size ≤ 140737488351232) (h : Load p ⟨#[118, 111, 116, 101]⟩ t 0 w) : Calls Tryz.prog 9 #[p] w fun r w' => r = .returned (.tuple #[(Vt.read t).1.val, .int .i64 (Vt.read t).2]) ∧ Below w.heap.size w w' := by
  have hb0 : Below w.heap.size w (w.alloc (.cells #[.int .i64 0, .int .i64 0] 33)) := (Below.refl _ w).alloc (Nat.le_refl _) _
  have hres := Mem.new w (.cells #[.int .i64 0, .int .i64 0] 33)
  have hl := h _ hb0
  have hrd := fun W => readV_any t W ht
  generalize Vt.read t = x at hrd ⊢
  obtain ⟨⟨a, b⟩, e'⟩ := x
  unfold Vt.val at hrd ⊢
  dsimp only at hrd ⊢
  have HB := Lib.hid (And.intro hb0 hres)
  clear hb0 hres h
  go_enter Tryz.func9, Tryz.ntmps9
  go_wp2_with (first
    | (go_at_call 23; refine hl.mono ?_; rintro _ w2 ⟨rfl, hb2⟩; have hres2 := (hb2.block w.heap.size (by simp)).trans HB.out.2; have g0 : w2.frozen? ⟨w.heap.size, 0, none⟩ = false := Mem.free hres2; have g1 : w2.frozen? ⟨w.heap.size, 1, none⟩ = false := Mem.free hres2; have r0 : w2.cell? ⟨w.heap.size, 0, none⟩ = some (.int .i64 0) := Mem.cell hres2 rfl; have r1 : w2.cell? ⟨w.heap.size, 1, none⟩ = some (.int .i64 0) := Mem.cell hres2 rfl)
    | (go_at_call 24; refine (hrd _).mono ?_; rintro _ w3 ⟨rfl, hb3⟩; have hres3 := (hb3.block w.heap.size (Mem.lt hres2)).trans hres2; have g0 : w3.frozen? ⟨w.heap.size, 0, none⟩ = false := Mem.free hres3; have g1 : w3.frozen? ⟨w.heap.size, 1, none⟩ = false := Mem.free hres3; have r0 : w3.cell? ⟨w.heap.size, 0, none⟩ = some (.int .i64 0) := Mem.cell hres3 rfl; have r1 : w3.cell? ⟨w.heap.size, 1, none⟩ = some (.int .i64 0) := Mem.cell hres3 rfl))
  have hq := (Mem.set (j := 1) (u := .int .i64 b) (Mem.set (j := 0) (u := .int .i64 a) hres3))
  have q0 := Mem.cell (j := 0) (v := .int .i64 a) hq rfl
  have q1 := Mem.cell (j := 1) (v := .int .i64 b) hq rfl
  refine bodyPost_ret (v := .tuple #[.agg #[.int .i64 a, .int .i64 b], .int .i64 e']) (by simp [results, Tryz.results9, go_sem, *]) rfl ⟨rfl, ?_⟩
  exact Mem.Ch.below (B := w.heap.size) (S := fun k => w.heap.size ≤ k) ((((((Mem.Ch.of_below HB.out.1).trans' (Mem.Ch.of_below' hb2)).trans' (Mem.Ch.of_below' hb3))).set (.inl (Nat.le_refl _))).set (.inl (Nat.le_refl _))) (fun k hk hS => by have h : w.heap.size ≤ k := hS; omega) (Nat.le_refl _)
set_option maxRecDepth 100000 in
set_option maxHeartbeats 4000000 in
theorem loadS_none (p : Value) (w : World) (h : Load p ⟨#[115, 110, 97, 112]⟩ ⟨#[]⟩ 4 w) : Calls Tryz.prog 11 #[p] w fun r w' => r = .returned (.tuple #[.agg #[.int .i64 0, .int .i64 0, .int .i64 0, .string ⟨#[]⟩], .bool false, .int .i64 0]) ∧ Below w.heap.size w w' := by
  have hb0 : Below w.heap.size w (w.alloc (.cells #[.int .i64 0, .int .i64 0, .int .i64 0, .string ⟨#[]⟩] 40)) := (Below.refl _ w).alloc (Nat.le_refl _) _
  have hres := Mem.new w (.cells #[.int .i64 0, .int .i64 0, .int .i64 0, .string ⟨#[]⟩] 40)
  have hl := h _ hb0
  have HB := Lib.hid (And.intro hb0 hres)
  clear hb0 hres h
  go_enter Tryz.func11, Tryz.ntmps11
  go_wp2_with (first
    | (go_at_call 23; refine hl.mono ?_; rintro _ w2 ⟨rfl, hb2⟩; have hres2 := (hb2.block w.heap.size (by simp)).trans HB.out.2; have g0 : w2.frozen? ⟨w.heap.size, 0, none⟩ = false := Mem.free hres2; have g1 : w2.frozen? ⟨w.heap.size, 1, none⟩ = false := Mem.free hres2; have g2 : w2.frozen? ⟨w.heap.size, 2, none⟩ = false := Mem.free hres2; have g3 : w2.frozen? ⟨w.heap.size, 3, none⟩ = false := Mem.free hres2; have r0 : w2.cell? ⟨w.heap.size, 0, none⟩ = some (.int .i64 0) := Mem.cell hres2 rfl; have r1 : w2.cell? ⟨w.heap.size, 1, none⟩ = some (.int .i64 0) := Mem.cell hres2 rfl; have r2 : w2.cell? ⟨w.heap.size, 2, none⟩ = some (.int .i64 0) := Mem.cell hres2 rfl; have r3 : w2.cell? ⟨w.heap.size, 3, none⟩ = some (.string ⟨#[]⟩) := Mem.cell hres2 rfl))
  have hq := (Mem.set (j := 3) (u := .string ⟨#[]⟩) (Mem.set (j := 2) (u := .int .i64 0) (Mem.set (j := 1) (u := .int .i64 0) (Mem.set (j := 0) (u := .int .i64 0) hres2))))
  have q0 := Mem.cell (j := 0) (v := .int .i64 0) hq rfl
  have q1 := Mem.cell (j := 1) (v := .int .i64 0) hq rfl
  have q2 := Mem.cell (j := 2) (v := .int .i64 0) hq rfl
  have q3 := Mem.cell (j := 3) (v := .string ⟨#[]⟩) hq rfl
  refine bodyPost_ret (v := .tuple #[.agg #[.int .i64 0, .int .i64 0, .int .i64 0, .string ⟨#[]⟩], .bool false, .int .i64 0]) (by simp [results, Tryz.results11, go_sem, *]) rfl ⟨rfl, ?_⟩
  exact Mem.Ch.below (B := w.heap.size) (S := fun k => w.heap.size ≤ k) (((((((Mem.Ch.of_below HB.out.1).trans' (Mem.Ch.of_below' hb2))).set (.inl (Nat.le_refl _))).set (.inl (Nat.le_refl _))).set (.inl (Nat.le_refl _))).set (.inl (Nat.le_refl _))) (fun k hk hS => by have h : w.heap.size ≤ k := hS; omega) (Nat.le_refl _)
set_option maxRecDepth 100000 in
set_option maxHeartbeats 4000000 in
theorem loadS_err (p : Value) (w : World) (e : Int) (h0 : e ≠ 0) (h4 : e ≠ 4) (h : Load p ⟨#[115, 110, 97, 112]⟩ ⟨#[]⟩ e w) : Calls Tryz.prog 11 #[p] w fun r w' => r = .returned (.tuple #[.agg #[.int .i64 0, .int .i64 0, .int .i64 0, .string ⟨#[]⟩], .bool false, .int .i64 e]) ∧ Below w.heap.size w w' := by
  have hb0 : Below w.heap.size w (w.alloc (.cells #[.int .i64 0, .int .i64 0, .int .i64 0, .string ⟨#[]⟩] 40)) := (Below.refl _ w).alloc (Nat.le_refl _) _
  have hres := Mem.new w (.cells #[.int .i64 0, .int .i64 0, .int .i64 0, .string ⟨#[]⟩] 40)
  have hl := h _ hb0
  have HB := Lib.hid (And.intro hb0 hres)
  clear hb0 hres h
  go_enter Tryz.func11, Tryz.ntmps11
  go_wp2_with (first
    | (go_at_call 23; refine hl.mono ?_; rintro _ w2 ⟨rfl, hb2⟩; have hres2 := (hb2.block w.heap.size (by simp)).trans HB.out.2; have g0 : w2.frozen? ⟨w.heap.size, 0, none⟩ = false := Mem.free hres2; have g1 : w2.frozen? ⟨w.heap.size, 1, none⟩ = false := Mem.free hres2; have g2 : w2.frozen? ⟨w.heap.size, 2, none⟩ = false := Mem.free hres2; have g3 : w2.frozen? ⟨w.heap.size, 3, none⟩ = false := Mem.free hres2; have r0 : w2.cell? ⟨w.heap.size, 0, none⟩ = some (.int .i64 0) := Mem.cell hres2 rfl; have r1 : w2.cell? ⟨w.heap.size, 1, none⟩ = some (.int .i64 0) := Mem.cell hres2 rfl; have r2 : w2.cell? ⟨w.heap.size, 2, none⟩ = some (.int .i64 0) := Mem.cell hres2 rfl; have r3 : w2.cell? ⟨w.heap.size, 3, none⟩ = some (.string ⟨#[]⟩) := Mem.cell hres2 rfl))
  have hq := (Mem.set (j := 3) (u := .string ⟨#[]⟩) (Mem.set (j := 2) (u := .int .i64 0) (Mem.set (j := 1) (u := .int .i64 0) (Mem.set (j := 0) (u := .int .i64 0) hres2))))
  have q0 := Mem.cell (j := 0) (v := .int .i64 0) hq rfl
  have q1 := Mem.cell (j := 1) (v := .int .i64 0) hq rfl
  have q2 := Mem.cell (j := 2) (v := .int .i64 0) hq rfl
  have q3 := Mem.cell (j := 3) (v := .string ⟨#[]⟩) hq rfl
  refine bodyPost_ret (v := .tuple #[.agg #[.int .i64 0, .int .i64 0, .int .i64 0, .string ⟨#[]⟩], .bool false, .int .i64 e]) (by simp [results, Tryz.results11, go_sem, *]) rfl ⟨rfl, ?_⟩
  exact Mem.Ch.below (B := w.heap.size) (S := fun k => w.heap.size ≤ k) (((((((Mem.Ch.of_below HB.out.1).trans' (Mem.Ch.of_below' hb2))).set (.inl (Nat.le_refl _))).set (.inl (Nat.le_refl _))).set (.inl (Nat.le_refl _))).set (.inl (Nat.le_refl _))) (fun k hk hS => by have h : w.heap.size ≤ k := hS; omega) (Nat.le_refl _)
end Go.Proofs.YtpdceondgbgpkaaGreatDoor
namespace Go.Proofs.YtpdceondgbgpkaaGreatDoor
open Go.RowKit
set_option linter.unusedSimpArgs false
set_option linter.unusedVariables false
set_option maxRecDepth 100000 in
set_option maxHeartbeats 4000000 in
theorem loadS_ok (p : Value) (w : World) (t : ByteArray) (ht : t.size ≤ 140737488351232) (a b c : Int) (t' : ByteArray) (hr : Sn.read t = (⟨a, b, c, t'⟩, 0)) (h : Load p ⟨#[115, 110, 97, 112]⟩ t 0 w) : Calls Tryz.prog 11 #[p] w fun r w' => r = .returned (.tuple #[.agg #[.int .i64 a, .int .i64 b, .int .i64 c, .string t'], .bool true, .int .i64 0]) ∧ Below w.heap.size w w' := by
  have hb0 : Below w.heap.size w (w.alloc (.cells #[.int .i64 0, .int .i64 0, .int .i64 0, .string ⟨#[]⟩] 40)) := (Below.refl _ w).alloc (Nat.le_refl _) _
  have hres := Mem.new w (.cells #[.int .i64 0, .int .i64 0, .int .i64 0, .string ⟨#[]⟩] 40)
  have hl := h _ hb0
  have hrd := fun W => readS_any t W ht
  rw [hr] at hrd
  unfold Sn.val at hrd
  dsimp only at hrd
  have HB := Lib.hid (And.intro hb0 hres)
  clear hb0 hres h hr
  go_enter Tryz.func11, Tryz.ntmps11
  go_wp2_with (first
    | (go_at_call 23; refine hl.mono ?_; rintro _ w2 ⟨rfl, hb2⟩; have hres2 := (hb2.block w.heap.size (by simp)).trans HB.out.2)
    | (go_at_call 28; refine (hrd _).mono ?_; rintro _ w3 ⟨rfl, hb3⟩; have hres3 := (hb3.block w.heap.size (Mem.lt hres2)).trans hres2; have hl3 := Mem.lt hres3; have g0 : w3.frozen? ⟨w.heap.size, 0, none⟩ = false := Mem.free hres3; have g1 : w3.frozen? ⟨w.heap.size, 1, none⟩ = false := Mem.free hres3; have g2 : w3.frozen? ⟨w.heap.size, 2, none⟩ = false := Mem.free hres3; have g3 : w3.frozen? ⟨w.heap.size, 3, none⟩ = false := Mem.free hres3; have r0 : w3.cell? ⟨w.heap.size, 0, none⟩ = some (.int .i64 0) := Mem.cell hres3 rfl; have r1 : w3.cell? ⟨w.heap.size, 1, none⟩ = some (.int .i64 0) := Mem.cell hres3 rfl; have r2 : w3.cell? ⟨w.heap.size, 2, none⟩ = some (.int .i64 0) := Mem.cell hres3 rfl; have r3 : w3.cell? ⟨w.heap.size, 3, none⟩ = some (.string ⟨#[]⟩) := Mem.cell hres3 rfl))
  have hq := Mem.old (Mem.set (j := 3) (u := .string t') (Mem.set (j := 2) (u := .int .i64 c) (Mem.set (j := 1) (u := .int .i64 b) (Mem.set (j := 0) (u := .int .i64 a) hres3)))) (.cells #[.int .i64 a, .int .i64 b, .int .i64 c, .string t'] 40)
  have q0 := Mem.cell (j := 0) (v := .int .i64 a) hq rfl
  have q1 := Mem.cell (j := 1) (v := .int .i64 b) hq rfl
  have q2 := Mem.cell (j := 2) (v := .int .i64 c) hq rfl
  have q3 := Mem.cell (j := 3) (v := .string t') hq rfl
  refine bodyPost_ret (v := .tuple #[.agg #[.int .i64 a, .int .i64 b, .int .i64 c, .string t'], .bool true, .int .i64 0]) (by simp [results, Tryz.results11, go_sem, *]) rfl ⟨rfl, ?_⟩
  exact Mem.Ch.below (B := w.heap.size) (S := fun k => w.heap.size ≤ k) ((((((((Mem.Ch.of_below HB.out.1).trans' (Mem.Ch.of_below' hb2)).trans' (Mem.Ch.of_below' hb3)).set (.inl (Nat.le_refl _))).set (.inl (Nat.le_refl _))).set (.inl (Nat.le_refl _))).set (.inl (Nat.le_refl _))).trans' (Mem.Ch.of_below' ((Below.refl _ _).alloc (Nat.le_refl _) _))) (fun k hk hS => by have h : w.heap.size ≤ k := hS; omega) (Nat.le_refl _)
end Go.Proofs.YtpdceondgbgpkaaGreatDoor
namespace Go.Proofs.YtpdceondgbgpkaaGreatDoor
open Go.RowKit
set_option linter.unusedSimpArgs false
set_option linter.unusedVariables false
open Sp (bs)
open Dsk (DiskAt Dk Gr)
def newK : ByteArray := ⟨#[46, 110, 101, 119]⟩
def voteK : ByteArray := ⟨#[118, 111, 116, 101]⟩
def snapK : ByteArray := ⟨#[115, 110, 97, 112]⟩
set_option maxRecDepth 100000 in
set_option maxHeartbeats 2000000 in
theorem saveV_nil (v : Vt) (hi : IsI64 v.to) (w : World) : Calls Tryz.prog 30 #[.pointer none, v.val] w fun r w' => r = .returned (.int .i64 1) ∧ Below w.heap.size w w' := by
  have ht := fun W => textV_any v W hi
  generalize v.text = x at ht
  obtain ⟨t, e⟩ := x
  obtain ⟨a, b⟩ := v
  unfold Vt.val at ht ⊢
  dsimp only at ht ⊢
  have hb0 : Below w.heap.size w (w.alloc (.cells #[.int .i64 a, .int .i64 b] 33)) := (Below.refl _ w).alloc (Nat.le_refl _) _
  go_enter Tryz.func30, Tryz.ntmps30
  go_wp2_with (go_at_call 55; refine (ht _).mono ?_; rintro _ w2 ⟨rfl, hb2⟩)
  go_ret
  exact ⟨rfl, hb0.trans (hb2.mono (by simp))⟩
set_option maxRecDepth 100000 in
set_option maxHeartbeats 2000000 in
theorem saveV_by (p : Nat) (v : Vt) (t : ByteArray) (e : Int) (Q : World → World → Prop) (hi : IsI64 v.to) (hv : v.text = (t, 0)) (w : World)
    (hs : ∀ W, Below w.heap.size w W → Calls Tryz.prog 56 #[.pointer (some ⟨p, 0, none⟩), .string ⟨#[118, 111, 116, 101]⟩, .string t] W fun r w' => r = .returned (.int .i64 e) ∧ Q W w') :
    Calls Tryz.prog 30 #[.pointer (some ⟨p, 0, none⟩), v.val] w fun r w' => r = .returned (.int .i64 e) ∧ ∃ W, Below w.heap.size w W ∧ Q W w' := by
  have ht := fun W => textV_any v W hi
  rw [hv] at ht
  clear hv
  obtain ⟨a, b⟩ := v
  unfold Vt.val at ht ⊢
  dsimp only at ht ⊢
  have hb0 : Below w.heap.size w (w.alloc (.cells #[.int .i64 a, .int .i64 b] 33)) := (Below.refl _ w).alloc (Nat.le_refl _) _
  go_enter Tryz.func30, Tryz.ntmps30
  go_wp2_with (first
    | (go_at_call 55; refine (ht _).mono ?_; rintro _ w2 ⟨rfl, hb2⟩; have hbW := hb0.trans (hb2.mono (by simp)))
    | (go_at_call 56; refine (hs _ hbW).mono ?_; rintro _ w3 ⟨rfl, hQ⟩))
  go_ret
  exact ⟨rfl, _, hbW, hQ⟩
set_option maxRecDepth 100000 in
set_option maxHeartbeats 4000000 in
theorem save_down (S : Nat → Prop) (p N : Nat) (d : Dk) (f t : ByteArray) (w : World) (h : DiskAt w S p N d) (hd : d.down = true) (hf : f.size ≤ 1000) (ht : t.size ≤ 1048576) :
    Calls Tryz.prog 56 #[.pointer (some ⟨p, 0, none⟩), .string f, .string t] w fun r w' => r = .returned (.int .i64 8) ∧ Below w.heap.size w w' := by
  have hp := fun W => pack_any t W ht
  have hz : (f ++ newK).size ≤ maxLen := by rw [ByteArray.size_append]; show f.size + 4 ≤ _; unfold maxLen; omega
  have h8 : d.there (f ++ newK) = 8 := by unfold Dk.there; rw [if_pos hd]
  have hrd : ∀ W, DiskAt W S p N d → Calls Tryz.prog 22 #[.pointer (some ⟨p, 0, none⟩), .string (f ++ newK)] W fun r w' => r = .returned (.tuple #[.string ⟨#[]⟩, .int .i64 8]) ∧ Below W.heap.size W w' := fun W hW => by
    have := Dsk.Read_any S p N d (f ++ newK) W hW hz
    rw [h8] at this
    exact this
  have hpt : ∀ W x, DiskAt W S p N d → Calls Tryz.prog 5 #[.pointer (some ⟨p, 0, none⟩), .string (f ++ newK), .int .i64 0, .string x] W fun r w' => r = .returned (.int .i64 8) ∧ w' = W := fun W x hW => Dsk.Put_down S p N d (f ++ newK) 0 x W hW hd
  have hfz : (newK).size = 4 := rfl
  unfold newK at hrd hpt
  clear hz h8
  have H := Lib.hid h
  clear h
  go_enter Tryz.func56, Tryz.ntmps56
  go_wp2_with (first
    | (go_at_call 79; refine (hp _).mono ?_; rintro _ w2 ⟨rfl, hb2⟩; have h2 := H.out.below hb2)
    | (go_at_call 22; refine (hrd _ h2).mono ?_; rintro _ w3 ⟨rfl, hb3⟩; have h3 := h2.below hb3)
    | (go_at_call 5; refine (hpt _ _ h3).mono ?_; rintro _ _ ⟨rfl, rfl⟩))
  go_ret
  exact ⟨rfl, hb2.trans (hb3.mono hb2.size)⟩
end Go.Proofs.YtpdceondgbgpkaaGreatDoor
