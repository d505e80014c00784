/- shelf: saving; the law's example. -/
import Derived.Test.YtbpnhaeladcbnaaDoorShl5
namespace Go.Proofs.YtbpnhaeladcbnaaDoor
open Go.RowKit
set_option linter.unusedSimpArgs false
set_option linter.unusedVariables false
open Sp (bs)
open Dsk (DiskAt Dk Gr)
def newK : ByteArray := ⟨#[46, 110, 101, 119]⟩
def voteK : ByteArray := ⟨#[118, 111, 116, 101]⟩
def snapK : ByteArray := ⟨#[115, 110, 97, 112]⟩
set_option maxRecDepth 100000 in
set_option maxHeartbeats 2000000 in
theorem saveV_nil (v : Vt) (hi : IsI64 v.to) (w : World) : Calls Tryd.prog 21 #[.pointer none, v.val] w fun r w' => r = .returned (.int .i64 1) ∧ Below w.heap.size w w' := by
  have ht := fun W => textV_any v W hi
  generalize v.text = x at ht
  obtain ⟨t, e⟩ := x
  obtain ⟨a, b⟩ := v
  unfold Vt.val at ht ⊢
  dsimp only at ht ⊢
  have hb0 : Below w.heap.size w (w.alloc (.cells #[.int .i64 a, .int .i64 b] 26)) := (Below.refl _ w).alloc (Nat.le_refl _) _
  go_enter Tryd.func21, Tryd.ntmps21
  go_wp2_with (go_at_call 30; refine (ht _).mono ?_; rintro _ w2 ⟨rfl, hb2⟩)
  go_ret
  exact ⟨rfl, hb0.trans (hb2.mono (by simp))⟩
set_option maxRecDepth 100000 in
set_option maxHeartbeats 2000000 in
theorem saveS_nil (v : Sn) (w : World) : Calls Tryd.prog 22 #[.pointer none, v.val] w fun r w' => r = .returned (.int .i64 1) ∧ Below w.heap.size w w' := by
  have ht := fun W => textS_any v W trivial
  generalize v.wrote = x at ht
  obtain ⟨t, e⟩ := x
  obtain ⟨a, b, c, d⟩ := v
  unfold Sn.val at ht ⊢
  dsimp only at ht ⊢
  have hb0 : Below w.heap.size w (w.alloc (.cells #[.int .i64 a, .int .i64 b, .int .i64 c, .string d] 28)) := (Below.refl _ w).alloc (Nat.le_refl _) _
  go_enter Tryd.func22, Tryd.ntmps22
  go_wp2_with (go_at_call 32; refine (ht _).mono ?_; rintro _ w2 ⟨rfl, hb2⟩)
  go_ret
  exact ⟨rfl, hb0.trans (hb2.mono (by simp))⟩
set_option maxRecDepth 100000 in
set_option maxHeartbeats 2000000 in
theorem saveV_by (p : Nat) (v : Vt) (t : ByteArray) (e : Int) (Q : World → World → Prop) (hi : IsI64 v.to) (hv : v.text = (t, 0)) (w : World)
    (hs : ∀ W, Below w.heap.size w W → Calls Tryd.prog 31 #[.pointer (some ⟨p, 0, none⟩), .string ⟨#[118, 111, 116, 101]⟩, .string t] W fun r w' => r = .returned (.int .i64 e) ∧ Q W w') :
    Calls Tryd.prog 21 #[.pointer (some ⟨p, 0, none⟩), v.val] w fun r w' => r = .returned (.int .i64 e) ∧ ∃ W, Below w.heap.size w W ∧ Q W w' := by
  have ht := fun W => textV_any v W hi
  rw [hv] at ht
  clear hv
  obtain ⟨a, b⟩ := v
  unfold Vt.val at ht ⊢
  dsimp only at ht ⊢
  have hb0 : Below w.heap.size w (w.alloc (.cells #[.int .i64 a, .int .i64 b] 26)) := (Below.refl _ w).alloc (Nat.le_refl _) _
  go_enter Tryd.func21, Tryd.ntmps21
  go_wp2_with (first
    | (go_at_call 30; refine (ht _).mono ?_; rintro _ w2 ⟨rfl, hb2⟩; have hbW := hb0.trans (hb2.mono (by simp)))
    | (go_at_call 31; refine (hs _ hbW).mono ?_; rintro _ w3 ⟨rfl, hQ⟩))
  go_ret
  exact ⟨rfl, _, hbW, hQ⟩
set_option maxRecDepth 100000 in
set_option maxHeartbeats 4000000 in
theorem save_down (S : Nat → Prop) (p N : Nat) (d : Dk) (f t : ByteArray) (w : World) (h : DiskAt w S p N d) (hd : d.down = true) (hf : f.size ≤ 1000) (ht : t.size ≤ 1048576) :
    Calls Tryd.prog 31 #[.pointer (some ⟨p, 0, none⟩), .string f, .string t] w fun r w' => r = .returned (.int .i64 8) ∧ Below w.heap.size w w' := by
  have hp := fun W => pack_any t W ht
  have hz : (f ++ newK).size ≤ maxLen := by rw [ByteArray.size_append]; show f.size + 4 ≤ _; unfold maxLen; omega
  have h8 : d.there (f ++ newK) = 8 := by unfold Dk.there; rw [if_pos hd]
  have hrd : ∀ W, DiskAt W S p N d → Calls Tryd.prog 18 #[.pointer (some ⟨p, 0, none⟩), .string (f ++ newK)] W fun r w' => r = .returned (.tuple #[.string ⟨#[]⟩, .int .i64 8]) ∧ Below W.heap.size W w' := fun W hW => by
    have := Dsk.Read_any S p N d (f ++ newK) W hW hz
    rw [h8] at this
    exact this
  have hpt : ∀ W x, DiskAt W S p N d → Calls Tryd.prog 49 #[.pointer (some ⟨p, 0, none⟩), .string (f ++ newK), .int .i64 0, .string x] W fun r w' => r = .returned (.int .i64 8) ∧ w' = W := fun W x hW => Dsk.Put_down S p N d (f ++ newK) 0 x W hW hd
  have hfz : (newK).size = 4 := rfl
  unfold newK at hrd hpt
  clear hz h8
  have H := Lib.hid h
  clear h
  go_enter Tryd.func31, Tryd.ntmps31
  go_wp2_with (first
    | (go_at_call 47; refine (hp _).mono ?_; rintro _ w2 ⟨rfl, hb2⟩; have h2 := H.out.below hb2)
    | (go_at_call 18; refine (hrd _ h2).mono ?_; rintro _ w3 ⟨rfl, hb3⟩; have h3 := h2.below hb3)
    | (go_at_call 49; refine (hpt _ _ h3).mono ?_; rintro _ _ ⟨rfl, rfl⟩))
  go_ret
  exact ⟨rfl, hb2.trans (hb3.mono hb2.size)⟩
end Go.Proofs.YtbpnhaeladcbnaaDoor
