/- shelf: the text of a vote, of a snapshot (printed by tools/gen_text.py). -/
import Derived.Test.YtbpnhaeladcbnaaDoorShl3
import Derived.BigQuiet
namespace Go.Proofs.YtbpnhaeladcbnaaDoor
open Go.RowKit
set_option linter.unusedSimpArgs false
set_option linter.unusedVariables false
open Sp (fold intB textS bs)
attribute [local go_sem] Mem.After.cell
theorem tnum_size (n : Nat) (h : n < 18446744073709551616) : (bs (Sp.num n)).size ≤ 9 := by rw [Sp.bs_size]; exact (Sp.num_length n h).2
theorem tnum_size' (n : Int) (h : n < 18446744073709551616) : (bs (Sp.num n.toNat)).size ≤ 9 := tnum_size _ (by omega)
theorem tint_size (n : Int) (h : IsI64 n) : (bs (intB n)).size ≤ 9 := by have := fold_u64 h; unfold IsU64 at this; exact tnum_size _ (by omega)
theorem ttext_size (s : ByteArray) (h : s.size ≤ 140737488351232) : (textS s).size ≤ s.size + 9 := by
  have := tnum_size s.size (by omega)
  unfold textS
  rw [ByteArray.size_append]
  omega
def Vt.text (v : Vt) : ByteArray × Int := if v.ok then (bs (Sp.num v.term.toNat) ++ bs (intB v.to), 0) else (⟨#[]⟩, 1)
def Sn.wrote (s : Sn) : ByteArray × Int := if s.ok then (bs (Sp.num s.index.toNat) ++ bs (Sp.num s.term.toNat) ++ bs (Sp.num s.mask.toNat) ++ textS s.text, 0) else (⟨#[]⟩, 1)
set_option maxRecDepth 100000 in
set_option maxHeartbeats 4000000 in
theorem textV_any (v : Vt) (w : World) (hi : IsI64 v.to) : Calls Tryd.prog 30 #[v.val] w fun r w' => r = .returned (.tuple #[.string v.text.1, .int .i64 v.text.2]) ∧ Below w.heap.size w w' := by
  have hv := voted_any v
  obtain ⟨a, b⟩ := v
  unfold Vt.text
  unfold Vt.val at hv ⊢
  dsimp only at hv ⊢
  by_cases h0 : Vt.ok ⟨a, b⟩
  · rw [if_pos h0]
    simp only [decide_eq_true h0] at hv
    obtain ⟨h1, h2, h3, h4⟩ := h0
    dsimp only at *
    have u1 : IntKind.u64.wrap a = a := by show a % 18446744073709551616 = a; omega
    have z1 := tnum_size' a (by omega)
    have z2 := tint_size b hi
    have n0 := fun W => Num_any a W ⟨h1, by omega⟩
    have n1 := fun W => Int_any b W hi
    have HN := Lib.hid (And.intro n0 n1)
    clear n0 n1
    go_enter Tryd.func30, Tryd.ntmps30
    go_wp2_with (go_at_call 40; refine (hv _).mono ?_; rintro _ w2 ⟨rfl, hb2⟩; have hx := (hb2.block w.heap.size (by simp)).trans (Mem.new w _); have b0 : w2.cell? ⟨w.heap.size, 0, none⟩ = some (.int .i64 a) := Mem.cell hx rfl; have b1 : w2.cell? ⟨w.heap.size, 1, none⟩ = some (.int .i64 b) := Mem.cell hx rfl; have hl := Mem.lt hx; have hbel : Below w.heap.size w w2 := ((Below.refl _ _).alloc (Nat.le_refl _) _).trans (hb2.mono (by simp)))
    clear hx
    refine Mem.wp_region_after (by kernel_rfl) (by kernel_rfl) ?_
    repeat (go_big_quiet_step (first | (go_at_call 45; exact Mem.After.call _ (HN.out.1 _)) | (go_at_call 46; exact Mem.After.call _ (HN.out.2 _))))
    refine wpQuiet_nil ?_
    intro w3 hb3
    go_wp2_with fail
    go_ret2
    exact ⟨rfl, hbel.trans (hb3.mono hbel.size)⟩
  · rw [if_neg h0]
    simp only [decide_eq_false h0] at hv
    go_enter Tryd.func30, Tryd.ntmps30
    go_wp2_with (go_at_call 40; refine (hv _).mono ?_; rintro _ w2 ⟨rfl, hb2⟩; have hx := (hb2.block w.heap.size (by simp)).trans (Mem.new w _); have b0 : w2.cell? ⟨w.heap.size, 0, none⟩ = some (.int .i64 a) := Mem.cell hx rfl; have b1 : w2.cell? ⟨w.heap.size, 1, none⟩ = some (.int .i64 b) := Mem.cell hx rfl; have hl := Mem.lt hx; have hbel : Below w.heap.size w w2 := ((Below.refl _ _).alloc (Nat.le_refl _) _).trans (hb2.mono (by simp)))
    go_ret2
    exact ⟨rfl, hbel⟩
set_option maxRecDepth 100000 in
set_option maxHeartbeats 4000000 in
theorem textS_any (v : Sn) (w : World) (_h : True) : Calls Tryd.prog 32 #[v.val] w fun r w' => r = .returned (.tuple #[.string v.wrote.1, .int .i64 v.wrote.2]) ∧ Below w.heap.size w w' := by
  have hv := may_any v
  obtain ⟨a, b, c, t⟩ := v
  unfold Sn.wrote
  unfold Sn.val at hv ⊢
  dsimp only at hv ⊢
  by_cases h0 : Sn.ok ⟨a, b, c, t⟩
  · rw [if_pos h0]
    simp only [decide_eq_true h0] at hv
    obtain ⟨h1, h2, h3, h4, h5, h6, h7⟩ := h0
    dsimp only at *
    have u1 : IntKind.u64.wrap a = a := by show a % 18446744073709551616 = a; omega
    have u2 : IntKind.u64.wrap b = b := by show b % 18446744073709551616 = b; omega
    have u3 : IntKind.u64.wrap c = c := by show c % 18446744073709551616 = c; omega
    have z1 := tnum_size' a (by omega)
    have z2 := tnum_size' b (by omega)
    have z3 := tnum_size' c (by omega)
    have z4 := ttext_size t (by omega)
    have HU := Lib.hid (And.intro (show IsU64 a from ⟨h1, by omega⟩) (And.intro (show IsU64 b from ⟨h3, by omega⟩) (And.intro (show IsU64 c from ⟨h5, by omega⟩) (show t.size ≤ 140737488351232 by omega))))
    go_enter Tryd.func32, Tryd.ntmps32
    go_wp2_with (go_at_call 44; refine (hv _).mono ?_; rintro _ w2 ⟨rfl, hb2⟩; have hx := (hb2.block w.heap.size (by simp)).trans (Mem.new w _); have b0 : w2.cell? ⟨w.heap.size, 0, none⟩ = some (.int .i64 a) := Mem.cell hx rfl; have b1 : w2.cell? ⟨w.heap.size, 1, none⟩ = some (.int .i64 b) := Mem.cell hx rfl; have b2 : w2.cell? ⟨w.heap.size, 2, none⟩ = some (.int .i64 c) := Mem.cell hx rfl; have b3 : w2.cell? ⟨w.heap.size, 3, none⟩ = some (.string t) := Mem.cell hx rfl; have hl := Mem.lt hx; have hbel : Below w.heap.size w w2 := ((Below.refl _ _).alloc (Nat.le_refl _) _).trans (hb2.mono (by simp)))
    clear hx
    refine Mem.wp_region_after (by kernel_rfl) (by kernel_rfl) ?_
    repeat (go_big_quiet_step (first | (go_at_call 45; exact Mem.After.call _ (Num_any _ _ (by first | exact HU.out.1 | exact HU.out.2.1 | exact HU.out.2.2.1))) | (go_at_call 52; exact Mem.After.call _ (Text_any t _ HU.out.2.2.2))))
    refine wpQuiet_nil ?_
    intro w3 hb3
    go_wp2_with fail
    go_ret2
    exact ⟨rfl, hbel.trans (hb3.mono hbel.size)⟩
  · rw [if_neg h0]
    simp only [decide_eq_false h0] at hv
    go_enter Tryd.func32, Tryd.ntmps32
    go_wp2_with (go_at_call 44; refine (hv _).mono ?_; rintro _ w2 ⟨rfl, hb2⟩; have hx := (hb2.block w.heap.size (by simp)).trans (Mem.new w _); have b0 : w2.cell? ⟨w.heap.size, 0, none⟩ = some (.int .i64 a) := Mem.cell hx rfl; have b1 : w2.cell? ⟨w.heap.size, 1, none⟩ = some (.int .i64 b) := Mem.cell hx rfl; have b2 : w2.cell? ⟨w.heap.size, 2, none⟩ = some (.int .i64 c) := Mem.cell hx rfl; have b3 : w2.cell? ⟨w.heap.size, 3, none⟩ = some (.string t) := Mem.cell hx rfl; have hl := Mem.lt hx; have hbel : Below w.heap.size w w2 := ((Below.refl _ _).alloc (Nat.le_refl _) _).trans (hb2.mono (by simp)))
    go_ret2
    exact ⟨rfl, hbel⟩
end Go.Proofs.YtbpnhaeladcbnaaDoor
