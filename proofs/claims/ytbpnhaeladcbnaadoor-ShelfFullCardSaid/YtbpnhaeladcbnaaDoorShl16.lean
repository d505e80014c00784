/- shelf: saving on a disk that is up. -/
import Derived.Test.YtbpnhaeladcbnaaDoorShl15
namespace Go.Proofs.YtbpnhaeladcbnaaDoor
open Go.RowKit
set_option linter.unusedSimpArgs false
set_option linter.unusedVariables false
open Sp (bs)
open Dsk (DiskAt Dk Gr nameP FM)
open Shf
set_option maxRecDepth 100000 in
set_option maxHeartbeats 2000000 in
theorem saveV_bad (p : Nat) (v : Vt) (hi : IsI64 v.to) (hv : ¬ v.ok) (w : World) : Calls Tryd.prog 21 #[.pointer (some ⟨p, 0, none⟩), v.val] w fun r w' => r = .returned (.int .i64 1) ∧ Below w.heap.size w w' := by
  have ht := fun W => textV_any v W hi
  have e : v.text = (⟨#[]⟩, 1) := by unfold Vt.text; rw [if_neg hv]
  rw [e] at ht
  clear e hv
  obtain ⟨a, b⟩ := v
  unfold Vt.val at ht ⊢
  dsimp only at ht ⊢
  have hb0 : Below w.heap.size w (w.alloc (.cells #[.int .i64 a, .int .i64 b] 26)) := (Below.refl _ w).alloc (Nat.le_refl _) _
  go_enter Tryd.func21, Tryd.ntmps21
  go_wp2_with (go_at_call 30; refine (ht _).mono ?_; rintro _ w2 ⟨rfl, hb2⟩)
  go_ret
  exact ⟨rfl, hb0.trans (hb2.mono (by simp))⟩
theorem saveV_at (S : Nat → Prop) (p N : Nat) (d : Dk) (v : Vt) (hi : IsI64 v.to) (hv : v.ok) (w : World) (hS : ∀ k, w.heap.size ≤ k → S k) (h : DiskAt w S p N d) (hu : Shf.Up d) (hN : N < 900000000) :
    Calls Tryd.prog 21 #[.pointer (some ⟨p, 0, none⟩), v.val] w fun r w' => r = .returned (.int .i64 (Shf.saveD d voteK (Crc.packB v.text.1)).1) ∧ Mem.Ch S w w' ∧ DiskAt w' S p (N + 4) (Shf.saveD d voteK (Crc.packB v.text.1)).2 := by
  have hz : v.text.1.size ≤ 1048576 := by have := text_small v hi hv; omega
  have e : v.text = (v.text.1, 0) := by
    have : v.text.2 = 0 := by unfold Vt.text; rw [if_pos hv]
    rw [← this]
  refine (saveV_by p v v.text.1 (Shf.saveD d voteK (Crc.packB v.text.1)).1 (fun W w' => Mem.Ch S W w' ∧ DiskAt w' S p (N + 4) (Shf.saveD d voteK (Crc.packB v.text.1)).2) hi e w (fun W hW => ?_)).mono ?_
  · exact save_any S p N d _ _ W (fun k hk => hS k (Nat.le_trans hW.size hk)) (h.below hW) hu (by decide) (by decide +kernel) (by decide +kernel) hz hN
  · rintro _ w' ⟨rfl, W', hb, h1, h2⟩
    exact ⟨rfl, (Mem.Ch.of_below' hb).trans' h1, h2⟩
set_option maxRecDepth 100000 in
set_option maxHeartbeats 2000000 in
theorem saveS_bad (p : Nat) (v : Sn) (hv : ¬ v.ok) (w : World) : Calls Tryd.prog 22 #[.pointer (some ⟨p, 0, none⟩), v.val] w fun r w' => r = .returned (.int .i64 1) ∧ Below w.heap.size w w' := by
  have ht := fun W => textS_any v W trivial
  have e : v.wrote = (⟨#[]⟩, 1) := by unfold Sn.wrote; rw [if_neg hv]
  rw [e] at ht
  clear e hv
  obtain ⟨a, b, c, d⟩ := v
  unfold Sn.val at ht ⊢
  dsimp only at ht ⊢
  have hb0 : Below w.heap.size w (w.alloc (.cells #[.int .i64 a, .int .i64 b, .int .i64 c, .string d] 28)) := (Below.refl _ w).alloc (Nat.le_refl _) _
  go_enter Tryd.func22, Tryd.ntmps22
  go_wp2_with (go_at_call 32; refine (ht _).mono ?_; rintro _ w2 ⟨rfl, hb2⟩)
  go_ret
  exact ⟨rfl, hb0.trans (hb2.mono (by simp))⟩
set_option maxRecDepth 100000 in
set_option maxHeartbeats 2000000 in
theorem saveS_by (p : Nat) (v : Sn) (t : ByteArray) (e : Int) (Q : World → World → Prop) (hv : v.wrote = (t, 0)) (w : World)
    (hs : ∀ W, Below w.heap.size w W → Calls Tryd.prog 31 #[.pointer (some ⟨p, 0, none⟩), .string ⟨#[115, 110, 97, 112]⟩, .string t] W fun r w' => r = .returned (.int .i64 e) ∧ Q W w') :
    Calls Tryd.prog 22 #[.pointer (some ⟨p, 0, none⟩), v.val] w fun r w' => r = .returned (.int .i64 e) ∧ ∃ W, Below w.heap.size w W ∧ Q W w' := by
  have ht := fun W => textS_any v W trivial
  rw [hv] at ht
  clear hv
  obtain ⟨a, b, c, d⟩ := v
  unfold Sn.val at ht ⊢
  dsimp only at ht ⊢
  have hb0 : Below w.heap.size w (w.alloc (.cells #[.int .i64 a, .int .i64 b, .int .i64 c, .string d] 28)) := (Below.refl _ w).alloc (Nat.le_refl _) _
  go_enter Tryd.func22, Tryd.ntmps22
  go_wp2_with (first
    | (go_at_call 32; refine (ht _).mono ?_; rintro _ w2 ⟨rfl, hb2⟩; have hbW := hb0.trans (hb2.mono (by simp)))
    | (go_at_call 31; refine (hs _ hbW).mono ?_; rintro _ w3 ⟨rfl, hQ⟩))
  go_ret
  exact ⟨rfl, _, hbW, hQ⟩
theorem saveS_at (S : Nat → Prop) (p N : Nat) (d : Dk) (v : Sn) (hv : v.ok) (w : World) (hS : ∀ k, w.heap.size ≤ k → S k) (h : DiskAt w S p N d) (hu : Shf.Up d) (hN : N < 900000000) :
    Calls Tryd.prog 22 #[.pointer (some ⟨p, 0, none⟩), v.val] w fun r w' => r = .returned (.int .i64 (Shf.saveD d snapK (Crc.packB v.wrote.1)).1) ∧ Mem.Ch S w w' ∧ DiskAt w' S p (N + 4) (Shf.saveD d snapK (Crc.packB v.wrote.1)).2 := by
  have hz : v.wrote.1.size ≤ 1048576 := by have := wrote_small v hv; omega
  have e : v.wrote = (v.wrote.1, 0) := by
    have : v.wrote.2 = 0 := by unfold Sn.wrote; rw [if_pos hv]
    rw [← this]
  refine (saveS_by p v v.wrote.1 (Shf.saveD d snapK (Crc.packB v.wrote.1)).1 (fun W w' => Mem.Ch S W w' ∧ DiskAt w' S p (N + 4) (Shf.saveD d snapK (Crc.packB v.wrote.1)).2) e w (fun W hW => ?_)).mono ?_
  · exact save_any S p N d _ _ W (fun k hk => hS k (Nat.le_trans hW.size hk)) (h.below hW) hu (by decide) (by decide +kernel) (by decide +kernel) hz hN
  · rintro _ w' ⟨rfl, W', hb, h1, h2⟩
    exact ⟨rfl, (Mem.Ch.of_below' hb).trans' h1, h2⟩
end Go.Proofs.YtbpnhaeladcbnaaDoor
