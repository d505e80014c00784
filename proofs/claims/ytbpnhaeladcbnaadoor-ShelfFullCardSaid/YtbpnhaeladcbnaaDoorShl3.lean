/- shelf: which vote, which snapshot a text says: the walks (printed by tools/gen_whole.py). -/
import Derived.Test.YtbpnhaeladcbnaaDoorShl2
namespace Go.Proofs.YtbpnhaeladcbnaaDoor
open Go.RowKit
set_option linter.unusedSimpArgs false
set_option linter.unusedVariables false
theorem at_g (s : ByteArray) (g : Nat) (w : World) (hg : w.heap.size = g) : Calls Tryd.prog 55 #[.string s] w fun r w' => r = .returned (.pointer (some ⟨g, 0, none⟩)) ∧ TapeAt w' g s 0 ∧ Below w.heap.size w w' ∧ g < w'.heap.size := by
  subst hg
  refine (at_any s w).mono ?_
  rintro _ w' ⟨rfl, h1, h2⟩
  exact ⟨rfl, h1, h2, Mem.lt h1⟩
set_option maxRecDepth 100000 in
set_option maxHeartbeats 4000000 in
theorem wholeV_any (s : ByteArray) (w : World) (hs : s.size ≤ 140737488351232) : Calls Tryd.prog 36 #[.string s, .func (.func 37) #[] #[], .func (.func 40) #[] #[]] w fun r w' => r = .returned (.tuple #[(Vt.read s).1.val, .int .i64 (Vt.read s).2]) ∧ Below w.heap.size w w' := by
  have hf := fun W (h : TapeAt W (w.heap.size + 1) s 0) => rv1_any s 0 (w.heap.size + 1) W h hs
  unfold Vt.read
  generalize Vt.rd ⟨s, 0⟩ = x at hf ⊢
  obtain ⟨⟨a, b⟩, ⟨s', e'⟩⟩ := x
  dsimp only [Vt.val] at hf ⊢
  have hv := fun W => voted_any ⟨a, b⟩ W
  have he := fun W (h : TapeAt W (w.heap.size + 1) s' e') => end_any s' e' (w.heap.size + 1) W h
  have hres := Mem.new w (.cells #[.int .i64 0, .int .i64 0] 26)
  have hB : ∀ {W : World}, Below (w.alloc (.cells #[.int .i64 0, .int .i64 0] 26)).heap.size (w.alloc (.cells #[.int .i64 0, .int .i64 0] 26)) W → Below w.heap.size w W := fun h => ((Below.refl _ w).alloc (Nat.le_refl _) _).trans (h.mono (by simp))
  unfold Vt.val at hv
  dsimp only at hv
  by_cases h0 : Tp.ends ⟨s', e'⟩ = 0
  · rw [h0] at he
    by_cases h1 : Vt.ok ⟨a, b⟩
    · rw [if_pos ⟨h0, h1⟩]
      rw [decide_eq_true h1] at hv
      clear h0 h1
      go_enter Tryd.func36, Tryd.ntmps36
      go_wp2_with (first
        | (go_at_call 55; refine (at_g s (w.heap.size + 1) _ (by simp)).mono ?_; rintro _ w2 ⟨rfl, hT2, hb2, hl2⟩)
        | (go_at_call 37; refine (hf _ hT2).mono ?_; rintro _ w3 ⟨rfl, hT3, hc3⟩; have hsz3 := hc3.size; have hl3 : w.heap.size + 1 < w3.heap.size := Nat.lt_of_lt_of_le hl2 hsz3; have hres3 := hc3.at_ ((hb2.block w.heap.size (by simp)).trans hres) (by omega); have ag0 : w3.frozen? ⟨w.heap.size, 0, none⟩ = false := Mem.free hres3; have ag1 : w3.frozen? ⟨w.heap.size, 1, none⟩ = false := Mem.free hres3; have ar0 : w3.cell? ⟨w.heap.size, 0, none⟩ = some (.int .i64 0) := Mem.cell hres3 rfl; have ar1 : w3.cell? ⟨w.heap.size, 1, none⟩ = some (.int .i64 0) := Mem.cell hres3 rfl; have HC := Lib.hid (And.intro hb2 hc3); clear hb2 hc3 hsz3 hl2)
        | (go_at_call 56; refine (he _ (hT3.step ((Below.refl _ _).alloc (Nat.le_refl _) _))).mono ?_; rintro _ _ ⟨rfl, rfl⟩)
        | (go_at_call 40; refine (hv _).mono ?_; rintro _ w5 ⟨rfl, hb5⟩; have hx5 := (hb5.block w3.heap.size (by simp)).trans (Mem.new w3 _); have hres5 := (hb5.block w.heap.size (by simp; omega)).trans (Mem.old hres3 _); have bg0 : w5.frozen? ⟨w.heap.size, 0, none⟩ = false := Mem.free hres5; have bg1 : w5.frozen? ⟨w.heap.size, 1, none⟩ = false := Mem.free hres5; have br0 : w5.cell? ⟨w.heap.size, 0, none⟩ = some (.int .i64 0) := Mem.cell hres5 rfl; have br1 : w5.cell? ⟨w.heap.size, 1, none⟩ = some (.int .i64 0) := Mem.cell hres5 rfl; have cg0 : w5.frozen? ⟨w3.heap.size, 0, none⟩ = false := Mem.free hx5; have cg1 : w5.frozen? ⟨w3.heap.size, 1, none⟩ = false := Mem.free hx5; have cr0 : w5.cell? ⟨w3.heap.size, 0, none⟩ = some (.int .i64 a) := Mem.cell hx5 rfl; have cr1 : w5.cell? ⟨w3.heap.size, 1, none⟩ = some (.int .i64 b) := Mem.cell hx5 rfl))
      have hq := (Mem.set (j := 1) (u := .int .i64 b) (Mem.set (j := 0) (u := .int .i64 a) hres5))
      have q0 := Mem.cell (j := 0) (v := .int .i64 a) hq rfl
      have q1 := Mem.cell (j := 1) (v := .int .i64 b) hq rfl
      refine bodyPost_ret (v := .tuple #[.agg #[.int .i64 a, .int .i64 b], .int .i64 0]) (by simp [results, Tryd.results36, go_sem, *]) rfl ⟨rfl, ?_⟩
      exact Mem.Ch.below (B := w.heap.size) (S := fun k => w.heap.size ≤ k) ((((((Mem.Ch.of_below (hB HC.out.1)).trans' (HC.out.2.mono (fun k hk hS => by omega))).trans' ((Mem.Ch.of_below' ((Below.refl _ w3).alloc (Nat.le_refl _) _)).trans' (Mem.Ch.of_below' hb5)))).set (.inl (Nat.le_refl _))).set (.inl (Nat.le_refl _))) (fun k hk hS => by have h : w.heap.size ≤ k := hS; omega) (Nat.le_refl _)
    · rw [if_neg (fun h => h1 h.2)]
      rw [decide_eq_false h1] at hv
      clear h0 h1
      go_enter Tryd.func36, Tryd.ntmps36
      go_wp2_with (first
        | (go_at_call 55; refine (at_g s (w.heap.size + 1) _ (by simp)).mono ?_; rintro _ w2 ⟨rfl, hT2, hb2, hl2⟩)
        | (go_at_call 37; refine (hf _ hT2).mono ?_; rintro _ w3 ⟨rfl, hT3, hc3⟩; have hsz3 := hc3.size; have hl3 : w.heap.size + 1 < w3.heap.size := Nat.lt_of_lt_of_le hl2 hsz3; have hres3 := hc3.at_ ((hb2.block w.heap.size (by simp)).trans hres) (by omega); have ag0 : w3.frozen? ⟨w.heap.size, 0, none⟩ = false := Mem.free hres3; have ag1 : w3.frozen? ⟨w.heap.size, 1, none⟩ = false := Mem.free hres3; have ar0 : w3.cell? ⟨w.heap.size, 0, none⟩ = some (.int .i64 0) := Mem.cell hres3 rfl; have ar1 : w3.cell? ⟨w.heap.size, 1, none⟩ = some (.int .i64 0) := Mem.cell hres3 rfl; have HC := Lib.hid (And.intro hb2 hc3); clear hb2 hc3 hsz3 hl2)
        | (go_at_call 56; refine (he _ (hT3.step ((Below.refl _ _).alloc (Nat.le_refl _) _))).mono ?_; rintro _ _ ⟨rfl, rfl⟩)
        | (go_at_call 40; refine (hv _).mono ?_; rintro _ w5 ⟨rfl, hb5⟩; have hx5 := (hb5.block w3.heap.size (by simp)).trans (Mem.new w3 _); have hres5 := (hb5.block w.heap.size (by simp; omega)).trans (Mem.old hres3 _); have bg0 : w5.frozen? ⟨w.heap.size, 0, none⟩ = false := Mem.free hres5; have bg1 : w5.frozen? ⟨w.heap.size, 1, none⟩ = false := Mem.free hres5; have br0 : w5.cell? ⟨w.heap.size, 0, none⟩ = some (.int .i64 0) := Mem.cell hres5 rfl; have br1 : w5.cell? ⟨w.heap.size, 1, none⟩ = some (.int .i64 0) := Mem.cell hres5 rfl; have cg0 : w5.frozen? ⟨w3.heap.size, 0, none⟩ = false := Mem.free hx5; have cg1 : w5.frozen? ⟨w3.heap.size, 1, none⟩ = false := Mem.free hx5; have cr0 : w5.cell? ⟨w3.heap.size, 0, none⟩ = some (.int .i64 a) := Mem.cell hx5 rfl; have cr1 : w5.cell? ⟨w3.heap.size, 1, none⟩ = some (.int .i64 b) := Mem.cell hx5 rfl; have hz5 := Mem.old hres5 (.cells #[.int .i64 0, .int .i64 0] 26); have dg0 : (w5.alloc (.cells #[.int .i64 0, .int .i64 0] 26)).frozen? ⟨w.heap.size, 0, none⟩ = false := Mem.free hz5; have dg1 : (w5.alloc (.cells #[.int .i64 0, .int .i64 0] 26)).frozen? ⟨w.heap.size, 1, none⟩ = false := Mem.free hz5; have dr0 : (w5.alloc (.cells #[.int .i64 0, .int .i64 0] 26)).cell? ⟨w.heap.size, 0, none⟩ = some (.int .i64 0) := Mem.cell hz5 rfl; have dr1 : (w5.alloc (.cells #[.int .i64 0, .int .i64 0] 26)).cell? ⟨w.heap.size, 1, none⟩ = some (.int .i64 0) := Mem.cell hz5 rfl))
      have hq := (Mem.set (j := 1) (u := .int .i64 0) (Mem.set (j := 0) (u := .int .i64 0) (Mem.old hres5 (.cells #[.int .i64 0, .int .i64 0] 26))))
      have q0 := Mem.cell (j := 0) (v := .int .i64 0) hq rfl
      have q1 := Mem.cell (j := 1) (v := .int .i64 0) hq rfl
      refine bodyPost_ret (v := .tuple #[.agg #[.int .i64 0, .int .i64 0], .int .i64 3]) (by simp [results, Tryd.results36, go_sem, *]) rfl ⟨rfl, ?_⟩
      exact Mem.Ch.below (B := w.heap.size) (S := fun k => w.heap.size ≤ k) (((((((Mem.Ch.of_below (hB HC.out.1)).trans' (HC.out.2.mono (fun k hk hS => by omega))).trans' ((Mem.Ch.of_below' ((Below.refl _ w3).alloc (Nat.le_refl _) _)).trans' (Mem.Ch.of_below' hb5))).trans' (Mem.Ch.of_below' ((Below.refl _ w5).alloc (Nat.le_refl _) _)))).set (.inl (Nat.le_refl _))).set (.inl (Nat.le_refl _))) (fun k hk hS => by have h : w.heap.size ≤ k := hS; omega) (Nat.le_refl _)
  · rw [if_neg (fun h => h0 h.1)]
    go_enter Tryd.func36, Tryd.ntmps36
    go_wp2_with (first
      | (go_at_call 55; refine (at_g s (w.heap.size + 1) _ (by simp)).mono ?_; rintro _ w2 ⟨rfl, hT2, hb2, hl2⟩)
      | (go_at_call 37; refine (hf _ hT2).mono ?_; rintro _ w3 ⟨rfl, hT3, hc3⟩; have hsz3 := hc3.size; have hl3 : w.heap.size + 1 < w3.heap.size := Nat.lt_of_lt_of_le hl2 hsz3; have hres3 := hc3.at_ ((hb2.block w.heap.size (by simp)).trans hres) (by omega); have ag0 : w3.frozen? ⟨w.heap.size, 0, none⟩ = false := Mem.free hres3; have ag1 : w3.frozen? ⟨w.heap.size, 1, none⟩ = false := Mem.free hres3; have ar0 : w3.cell? ⟨w.heap.size, 0, none⟩ = some (.int .i64 0) := Mem.cell hres3 rfl; have ar1 : w3.cell? ⟨w.heap.size, 1, none⟩ = some (.int .i64 0) := Mem.cell hres3 rfl; have HC := Lib.hid (And.intro hb2 hc3); clear hb2 hc3 hsz3 hl2)
      | (go_at_call 56; refine (he _ (hT3.step ((Below.refl _ _).alloc (Nat.le_refl _) _))).mono ?_; rintro _ _ ⟨rfl, rfl⟩; have hz4 := Mem.old (Mem.old hres3 (.cells #[.int .i64 a, .int .i64 b] 26)) (.cells #[.int .i64 0, .int .i64 0] 26); have dg0 : ((w3.alloc (.cells #[.int .i64 a, .int .i64 b] 26)).alloc (.cells #[.int .i64 0, .int .i64 0] 26)).frozen? ⟨w.heap.size, 0, none⟩ = false := Mem.free hz4; have dg1 : ((w3.alloc (.cells #[.int .i64 a, .int .i64 b] 26)).alloc (.cells #[.int .i64 0, .int .i64 0] 26)).frozen? ⟨w.heap.size, 1, none⟩ = false := Mem.free hz4; have dr0 : ((w3.alloc (.cells #[.int .i64 a, .int .i64 b] 26)).alloc (.cells #[.int .i64 0, .int .i64 0] 26)).cell? ⟨w.heap.size, 0, none⟩ = some (.int .i64 0) := Mem.cell hz4 rfl; have dr1 : ((w3.alloc (.cells #[.int .i64 a, .int .i64 b] 26)).alloc (.cells #[.int .i64 0, .int .i64 0] 26)).cell? ⟨w.heap.size, 1, none⟩ = some (.int .i64 0) := Mem.cell hz4 rfl))
    have hq := (Mem.set (j := 1) (u := .int .i64 0) (Mem.set (j := 0) (u := .int .i64 0) (Mem.old (Mem.old hres3 (.cells #[.int .i64 a, .int .i64 b] 26)) (.cells #[.int .i64 0, .int .i64 0] 26))))
    have q0 := Mem.cell (j := 0) (v := .int .i64 0) hq rfl
    have q1 := Mem.cell (j := 1) (v := .int .i64 0) hq rfl
    refine bodyPost_ret (v := .tuple #[.agg #[.int .i64 0, .int .i64 0], .int .i64 3]) (by simp [results, Tryd.results36, go_sem, *]) rfl ⟨rfl, ?_⟩
    exact Mem.Ch.below (B := w.heap.size) (S := fun k => w.heap.size ≤ k) ((((((Mem.Ch.of_below (hB HC.out.1)).trans' (HC.out.2.mono (fun k hk hS => by omega))).trans' ((Mem.Ch.of_below' ((Below.refl _ w3).alloc (Nat.le_refl _) _)).trans' (Mem.Ch.of_below' ((Below.refl _ _).alloc (Nat.le_refl _) _))))).set (.inl (Nat.le_refl _))).set (.inl (Nat.le_refl _))) (fun k hk hS => by have h : w.heap.size ≤ k := hS; omega) (Nat.le_refl _)
set_option maxRecDepth 100000 in
set_option maxHeartbeats 4000000 in
theorem readV_any (s : ByteArray) (w : World) (hs : s.size ≤ 140737488351232) : Calls Tryd.prog 28 #[.string s] w fun r w' => r = .returned (.tuple #[(Vt.read s).1.val, .int .i64 (Vt.read s).2]) ∧ Below w.heap.size w w' := by
  have hf := fun W => wholeV_any s W hs
  generalize Vt.read s = x at hf ⊢
  obtain ⟨⟨a, b⟩, e⟩ := x
  dsimp only [Vt.val] at hf ⊢
  have hres := Mem.new w (.cells #[.int .i64 0, .int .i64 0] 26)
  go_enter Tryd.func28, Tryd.ntmps28
  go_wp2_with (go_at_call 36; refine (hf _).mono ?_; rintro _ w3 ⟨rfl, hb3⟩; have hres3 := (hb3.block w.heap.size (by simp)).trans hres; have ag0 : w3.frozen? ⟨w.heap.size, 0, none⟩ = false := Mem.free hres3; have ag1 : w3.frozen? ⟨w.heap.size, 1, none⟩ = false := Mem.free hres3; have ar0 : w3.cell? ⟨w.heap.size, 0, none⟩ = some (.int .i64 0) := Mem.cell hres3 rfl; have ar1 : w3.cell? ⟨w.heap.size, 1, none⟩ = some (.int .i64 0) := Mem.cell hres3 rfl)
  have hq := (Mem.set (j := 1) (u := .int .i64 b) (Mem.set (j := 0) (u := .int .i64 a) hres3))
  have q0 := Mem.cell (j := 0) (v := .int .i64 a) hq rfl
  have q1 := Mem.cell (j := 1) (v := .int .i64 b) hq rfl
  refine bodyPost_ret (v := .tuple #[.agg #[.int .i64 a, .int .i64 b], .int .i64 e]) (by simp [results, Tryd.results28, go_sem, *]) rfl ⟨rfl, ?_⟩
  exact Mem.Ch.below (B := w.heap.size) (S := fun k => w.heap.size ≤ k) (((((Mem.Ch.of_below' ((Below.refl _ w).alloc (Nat.le_refl _) _)).trans' (Mem.Ch.of_below' hb3))).set (.inl (Nat.le_refl _))).set (.inl (Nat.le_refl _))) (fun k hk hS => by have h : w.heap.size ≤ k := hS; omega) (Nat.le_refl _)
set_option maxRecDepth 100000 in
set_option maxHeartbeats 4000000 in
theorem wholeS_any (s : ByteArray) (w : World) (hs : s.size ≤ 140737488351232) : Calls Tryd.prog 41 #[.string s, .func (.func 42) #[] #[], .func (.func 44) #[] #[]] w fun r w' => r = .returned (.tuple #[(Sn.read s).1.val, .int .i64 (Sn.read s).2]) ∧ Below w.heap.size w w' := by
  have hf := fun W (h : TapeAt W (w.heap.size + 1) s 0) => rs1_any s 0 (w.heap.size + 1) W h hs
  unfold Sn.read
  generalize Sn.rd ⟨s, 0⟩ = x at hf ⊢
  obtain ⟨⟨a, b, c, t⟩, ⟨s', e'⟩⟩ := x
  dsimp only [Sn.val] at hf ⊢
  have hv := fun W => may_any ⟨a, b, c, t⟩ W
  have he := fun W (h : TapeAt W (w.heap.size + 1) s' e') => end_any s' e' (w.heap.size + 1) W h
  have hres := Mem.new w (.cells #[.int .i64 0, .int .i64 0, .int .i64 0, .string ⟨#[]⟩] 28)
  have hB : ∀ {W : World}, Below (w.alloc (.cells #[.int .i64 0, .int .i64 0, .int .i64 0, .string ⟨#[]⟩] 28)).heap.size (w.alloc (.cells #[.int .i64 0, .int .i64 0, .int .i64 0, .string ⟨#[]⟩] 28)) W → Below w.heap.size w W := fun h => ((Below.refl _ w).alloc (Nat.le_refl _) _).trans (h.mono (by simp))
  unfold Sn.val at hv
  dsimp only at hv
  by_cases h0 : Tp.ends ⟨s', e'⟩ = 0
  · rw [h0] at he
    by_cases h1 : Sn.ok ⟨a, b, c, t⟩
    · rw [if_pos ⟨h0, h1⟩]
      rw [decide_eq_true h1] at hv
      clear h0 h1
      go_enter Tryd.func41, Tryd.ntmps41
      go_wp2_with (first
        | (go_at_call 55; refine (at_g s (w.heap.size + 1) _ (by simp)).mono ?_; rintro _ w2 ⟨rfl, hT2, hb2, hl2⟩)
        | (go_at_call 42; refine (hf _ hT2).mono ?_; rintro _ w3 ⟨rfl, hT3, hc3⟩; have hsz3 := hc3.size; have hl3 : w.heap.size + 1 < w3.heap.size := Nat.lt_of_lt_of_le hl2 hsz3; have hres3 := hc3.at_ ((hb2.block w.heap.size (by simp)).trans hres) (by omega); have ag0 : w3.frozen? ⟨w.heap.size, 0, none⟩ = false := Mem.free hres3; have ag1 : w3.frozen? ⟨w.heap.size, 1, none⟩ = false := Mem.free hres3; have ag2 : w3.frozen? ⟨w.heap.size, 2, none⟩ = false := Mem.free hres3; have ag3 : w3.frozen? ⟨w.heap.size, 3, none⟩ = false := Mem.free hres3; have ar0 : w3.cell? ⟨w.heap.size, 0, none⟩ = some (.int .i64 0) := Mem.cell hres3 rfl; have ar1 : w3.cell? ⟨w.heap.size, 1, none⟩ = some (.int .i64 0) := Mem.cell hres3 rfl; have ar2 : w3.cell? ⟨w.heap.size, 2, none⟩ = some (.int .i64 0) := Mem.cell hres3 rfl; have ar3 : w3.cell? ⟨w.heap.size, 3, none⟩ = some (.string ⟨#[]⟩) := Mem.cell hres3 rfl; have HC := Lib.hid (And.intro hb2 hc3); clear hb2 hc3 hsz3 hl2)
        | (go_at_call 56; refine (he _ (hT3.step ((Below.refl _ _).alloc (Nat.le_refl _) _))).mono ?_; rintro _ _ ⟨rfl, rfl⟩)
        | (go_at_call 44; refine (hv _).mono ?_; rintro _ w5 ⟨rfl, hb5⟩; have hx5 := (hb5.block w3.heap.size (by simp)).trans (Mem.new w3 _); have hres5 := (hb5.block w.heap.size (by simp; omega)).trans (Mem.old hres3 _); have bg0 : w5.frozen? ⟨w.heap.size, 0, none⟩ = false := Mem.free hres5; have bg1 : w5.frozen? ⟨w.heap.size, 1, none⟩ = false := Mem.free hres5; have bg2 : w5.frozen? ⟨w.heap.size, 2, none⟩ = false := Mem.free hres5; have bg3 : w5.frozen? ⟨w.heap.size, 3, none⟩ = false := Mem.free hres5; have br0 : w5.cell? ⟨w.heap.size, 0, none⟩ = some (.int .i64 0) := Mem.cell hres5 rfl; have br1 : w5.cell? ⟨w.heap.size, 1, none⟩ = some (.int .i64 0) := Mem.cell hres5 rfl; have br2 : w5.cell? ⟨w.heap.size, 2, none⟩ = some (.int .i64 0) := Mem.cell hres5 rfl; have br3 : w5.cell? ⟨w.heap.size, 3, none⟩ = some (.string ⟨#[]⟩) := Mem.cell hres5 rfl; have cg0 : w5.frozen? ⟨w3.heap.size, 0, none⟩ = false := Mem.free hx5; have cg1 : w5.frozen? ⟨w3.heap.size, 1, none⟩ = false := Mem.free hx5; have cg2 : w5.frozen? ⟨w3.heap.size, 2, none⟩ = false := Mem.free hx5; have cg3 : w5.frozen? ⟨w3.heap.size, 3, none⟩ = false := Mem.free hx5; have cr0 : w5.cell? ⟨w3.heap.size, 0, none⟩ = some (.int .i64 a) := Mem.cell hx5 rfl; have cr1 : w5.cell? ⟨w3.heap.size, 1, none⟩ = some (.int .i64 b) := Mem.cell hx5 rfl; have cr2 : w5.cell? ⟨w3.heap.size, 2, none⟩ = some (.int .i64 c) := Mem.cell hx5 rfl; have cr3 : w5.cell? ⟨w3.heap.size, 3, none⟩ = some (.string t) := Mem.cell hx5 rfl))
      have hq := (Mem.set (j := 3) (u := .string t) (Mem.set (j := 2) (u := .int .i64 c) (Mem.set (j := 1) (u := .int .i64 b) (Mem.set (j := 0) (u := .int .i64 a) hres5))))
      have q0 := Mem.cell (j := 0) (v := .int .i64 a) hq rfl
      have q1 := Mem.cell (j := 1) (v := .int .i64 b) hq rfl
      have q2 := Mem.cell (j := 2) (v := .int .i64 c) hq rfl
      have q3 := Mem.cell (j := 3) (v := .string t) hq rfl
      refine bodyPost_ret (v := .tuple #[.agg #[.int .i64 a, .int .i64 b, .int .i64 c, .string t], .int .i64 0]) (by simp [results, Tryd.results41, go_sem, *]) rfl ⟨rfl, ?_⟩
      exact Mem.Ch.below (B := w.heap.size) (S := fun k => w.heap.size ≤ k) ((((((((Mem.Ch.of_below (hB HC.out.1)).trans' (HC.out.2.mono (fun k hk hS => by omega))).trans' ((Mem.Ch.of_below' ((Below.refl _ w3).alloc (Nat.le_refl _) _)).trans' (Mem.Ch.of_below' hb5)))).set (.inl (Nat.le_refl _))).set (.inl (Nat.le_refl _))).set (.inl (Nat.le_refl _))).set (.inl (Nat.le_refl _))) (fun k hk hS => by have h : w.heap.size ≤ k := hS; omega) (Nat.le_refl _)
    · rw [if_neg (fun h => h1 h.2)]
      rw [decide_eq_false h1] at hv
      clear h0 h1
      go_enter Tryd.func41, Tryd.ntmps41
      go_wp2_with (first
        | (go_at_call 55; refine (at_g s (w.heap.size + 1) _ (by simp)).mono ?_; rintro _ w2 ⟨rfl, hT2, hb2, hl2⟩)
        | (go_at_call 42; refine (hf _ hT2).mono ?_; rintro _ w3 ⟨rfl, hT3, hc3⟩; have hsz3 := hc3.size; have hl3 : w.heap.size + 1 < w3.heap.size := Nat.lt_of_lt_of_le hl2 hsz3; have hres3 := hc3.at_ ((hb2.block w.heap.size (by simp)).trans hres) (by omega); have ag0 : w3.frozen? ⟨w.heap.size, 0, none⟩ = false := Mem.free hres3; have ag1 : w3.frozen? ⟨w.heap.size, 1, none⟩ = false := Mem.free hres3; have ag2 : w3.frozen? ⟨w.heap.size, 2, none⟩ = false := Mem.free hres3; have ag3 : w3.frozen? ⟨w.heap.size, 3, none⟩ = false := Mem.free hres3; have ar0 : w3.cell? ⟨w.heap.size, 0, none⟩ = some (.int .i64 0) := Mem.cell hres3 rfl; have ar1 : w3.cell? ⟨w.heap.size, 1, none⟩ = some (.int .i64 0) := Mem.cell hres3 rfl; have ar2 : w3.cell? ⟨w.heap.size, 2, none⟩ = some (.int .i64 0) := Mem.cell hres3 rfl; have ar3 : w3.cell? ⟨w.heap.size, 3, none⟩ = some (.string ⟨#[]⟩) := Mem.cell hres3 rfl; have HC := Lib.hid (And.intro hb2 hc3); clear hb2 hc3 hsz3 hl2)
        | (go_at_call 56; refine (he _ (hT3.step ((Below.refl _ _).alloc (Nat.le_refl _) _))).mono ?_; rintro _ _ ⟨rfl, rfl⟩)
        | (go_at_call 44; refine (hv _).mono ?_; rintro _ w5 ⟨rfl, hb5⟩; have hx5 := (hb5.block w3.heap.size (by simp)).trans (Mem.new w3 _); have hres5 := (hb5.block w.heap.size (by simp; omega)).trans (Mem.old hres3 _); have bg0 : w5.frozen? ⟨w.heap.size, 0, none⟩ = false := Mem.free hres5; have bg1 : w5.frozen? ⟨w.heap.size, 1, none⟩ = false := Mem.free hres5; have bg2 : w5.frozen? ⟨w.heap.size, 2, none⟩ = false := Mem.free hres5; have bg3 : w5.frozen? ⟨w.heap.size, 3, none⟩ = false := Mem.free hres5; have br0 : w5.cell? ⟨w.heap.size, 0, none⟩ = some (.int .i64 0) := Mem.cell hres5 rfl; have br1 : w5.cell? ⟨w.heap.size, 1, none⟩ = some (.int .i64 0) := Mem.cell hres5 rfl; have br2 : w5.cell? ⟨w.heap.size, 2, none⟩ = some (.int .i64 0) := Mem.cell hres5 rfl; have br3 : w5.cell? ⟨w.heap.size, 3, none⟩ = some (.string ⟨#[]⟩) := Mem.cell hres5 rfl; have cg0 : w5.frozen? ⟨w3.heap.size, 0, none⟩ = false := Mem.free hx5; have cg1 : w5.frozen? ⟨w3.heap.size, 1, none⟩ = false := Mem.free hx5; have cg2 : w5.frozen? ⟨w3.heap.size, 2, none⟩ = false := Mem.free hx5; have cg3 : w5.frozen? ⟨w3.heap.size, 3, none⟩ = false := Mem.free hx5; have cr0 : w5.cell? ⟨w3.heap.size, 0, none⟩ = some (.int .i64 a) := Mem.cell hx5 rfl; have cr1 : w5.cell? ⟨w3.heap.size, 1, none⟩ = some (.int .i64 b) := Mem.cell hx5 rfl; have cr2 : w5.cell? ⟨w3.heap.size, 2, none⟩ = some (.int .i64 c) := Mem.cell hx5 rfl; have cr3 : w5.cell? ⟨w3.heap.size, 3, none⟩ = some (.string t) := Mem.cell hx5 rfl; have hz5 := Mem.old hres5 (.cells #[.int .i64 0, .int .i64 0, .int .i64 0, .string ⟨#[]⟩] 28); have dg0 : (w5.alloc (.cells #[.int .i64 0, .int .i64 0, .int .i64 0, .string ⟨#[]⟩] 28)).frozen? ⟨w.heap.size, 0, none⟩ = false := Mem.free hz5; have dg1 : (w5.alloc (.cells #[.int .i64 0, .int .i64 0, .int .i64 0, .string ⟨#[]⟩] 28)).frozen? ⟨w.heap.size, 1, none⟩ = false := Mem.free hz5; have dg2 : (w5.alloc (.cells #[.int .i64 0, .int .i64 0, .int .i64 0, .string ⟨#[]⟩] 28)).frozen? ⟨w.heap.size, 2, none⟩ = false := Mem.free hz5; have dg3 : (w5.alloc (.cells #[.int .i64 0, .int .i64 0, .int .i64 0, .string ⟨#[]⟩] 28)).frozen? ⟨w.heap.size, 3, none⟩ = false := Mem.free hz5; have dr0 : (w5.alloc (.cells #[.int .i64 0, .int .i64 0, .int .i64 0, .string ⟨#[]⟩] 28)).cell? ⟨w.heap.size, 0, none⟩ = some (.int .i64 0) := Mem.cell hz5 rfl; have dr1 : (w5.alloc (.cells #[.int .i64 0, .int .i64 0, .int .i64 0, .string ⟨#[]⟩] 28)).cell? ⟨w.heap.size, 1, none⟩ = some (.int .i64 0) := Mem.cell hz5 rfl; have dr2 : (w5.alloc (.cells #[.int .i64 0, .int .i64 0, .int .i64 0, .string ⟨#[]⟩] 28)).cell? ⟨w.heap.size, 2, none⟩ = some (.int .i64 0) := Mem.cell hz5 rfl; have dr3 : (w5.alloc (.cells #[.int .i64 0, .int .i64 0, .int .i64 0, .string ⟨#[]⟩] 28)).cell? ⟨w.heap.size, 3, none⟩ = some (.string ⟨#[]⟩) := Mem.cell hz5 rfl))
      have hq := (Mem.set (j := 3) (u := .string ⟨#[]⟩) (Mem.set (j := 2) (u := .int .i64 0) (Mem.set (j := 1) (u := .int .i64 0) (Mem.set (j := 0) (u := .int .i64 0) (Mem.old hres5 (.cells #[.int .i64 0, .int .i64 0, .int .i64 0, .string ⟨#[]⟩] 28))))))
      have q0 := Mem.cell (j := 0) (v := .int .i64 0) hq rfl
      have q1 := Mem.cell (j := 1) (v := .int .i64 0) hq rfl
      have q2 := Mem.cell (j := 2) (v := .int .i64 0) hq rfl
      have q3 := Mem.cell (j := 3) (v := .string ⟨#[]⟩) hq rfl
      refine bodyPost_ret (v := .tuple #[.agg #[.int .i64 0, .int .i64 0, .int .i64 0, .string ⟨#[]⟩], .int .i64 3]) (by simp [results, Tryd.results41, go_sem, *]) rfl ⟨rfl, ?_⟩
      exact Mem.Ch.below (B := w.heap.size) (S := fun k => w.heap.size ≤ k) (((((((((Mem.Ch.of_below (hB HC.out.1)).trans' (HC.out.2.mono (fun k hk hS => by omega))).trans' ((Mem.Ch.of_below' ((Below.refl _ w3).alloc (Nat.le_refl _) _)).trans' (Mem.Ch.of_below' hb5))).trans' (Mem.Ch.of_below' ((Below.refl _ w5).alloc (Nat.le_refl _) _)))).set (.inl (Nat.le_refl _))).set (.inl (Nat.le_refl _))).set (.inl (Nat.le_refl _))).set (.inl (Nat.le_refl _))) (fun k hk hS => by have h : w.heap.size ≤ k := hS; omega) (Nat.le_refl _)
  · rw [if_neg (fun h => h0 h.1)]
    go_enter Tryd.func41, Tryd.ntmps41
    go_wp2_with (first
      | (go_at_call 55; refine (at_g s (w.heap.size + 1) _ (by simp)).mono ?_; rintro _ w2 ⟨rfl, hT2, hb2, hl2⟩)
      | (go_at_call 42; refine (hf _ hT2).mono ?_; rintro _ w3 ⟨rfl, hT3, hc3⟩; have hsz3 := hc3.size; have hl3 : w.heap.size + 1 < w3.heap.size := Nat.lt_of_lt_of_le hl2 hsz3; have hres3 := hc3.at_ ((hb2.block w.heap.size (by simp)).trans hres) (by omega); have ag0 : w3.frozen? ⟨w.heap.size, 0, none⟩ = false := Mem.free hres3; have ag1 : w3.frozen? ⟨w.heap.size, 1, none⟩ = false := Mem.free hres3; have ag2 : w3.frozen? ⟨w.heap.size, 2, none⟩ = false := Mem.free hres3; have ag3 : w3.frozen? ⟨w.heap.size, 3, none⟩ = false := Mem.free hres3; have ar0 : w3.cell? ⟨w.heap.size, 0, none⟩ = some (.int .i64 0) := Mem.cell hres3 rfl; have ar1 : w3.cell? ⟨w.heap.size, 1, none⟩ = some (.int .i64 0) := Mem.cell hres3 rfl; have ar2 : w3.cell? ⟨w.heap.size, 2, none⟩ = some (.int .i64 0) := Mem.cell hres3 rfl; have ar3 : w3.cell? ⟨w.heap.size, 3, none⟩ = some (.string ⟨#[]⟩) := Mem.cell hres3 rfl; have HC := Lib.hid (And.intro hb2 hc3); clear hb2 hc3 hsz3 hl2)
      | (go_at_call 56; refine (he _ (hT3.step ((Below.refl _ _).alloc (Nat.le_refl _) _))).mono ?_; rintro _ _ ⟨rfl, rfl⟩; have hz4 := Mem.old (Mem.old hres3 (.cells #[.int .i64 a, .int .i64 b, .int .i64 c, .string t] 28)) (.cells #[.int .i64 0, .int .i64 0, .int .i64 0, .string ⟨#[]⟩] 28); have dg0 : ((w3.alloc (.cells #[.int .i64 a, .int .i64 b, .int .i64 c, .string t] 28)).alloc (.cells #[.int .i64 0, .int .i64 0, .int .i64 0, .string ⟨#[]⟩] 28)).frozen? ⟨w.heap.size, 0, none⟩ = false := Mem.free hz4; have dg1 : ((w3.alloc (.cells #[.int .i64 a, .int .i64 b, .int .i64 c, .string t] 28)).alloc (.cells #[.int .i64 0, .int .i64 0, .int .i64 0, .string ⟨#[]⟩] 28)).frozen? ⟨w.heap.size, 1, none⟩ = false := Mem.free hz4; have dg2 : ((w3.alloc (.cells #[.int .i64 a, .int .i64 b, .int .i64 c, .string t] 28)).alloc (.cells #[.int .i64 0, .int .i64 0, .int .i64 0, .string ⟨#[]⟩] 28)).frozen? ⟨w.heap.size, 2, none⟩ = false := Mem.free hz4; have dg3 : ((w3.alloc (.cells #[.int .i64 a, .int .i64 b, .int .i64 c, .string t] 28)).alloc (.cells #[.int .i64 0, .int .i64 0, .int .i64 0, .string ⟨#[]⟩] 28)).frozen? ⟨w.heap.size, 3, none⟩ = false := Mem.free hz4; have dr0 : ((w3.alloc (.cells #[.int .i64 a, .int .i64 b, .int .i64 c, .string t] 28)).alloc (.cells #[.int .i64 0, .int .i64 0, .int .i64 0, .string ⟨#[]⟩] 28)).cell? ⟨w.heap.size, 0, none⟩ = some (.int .i64 0) := Mem.cell hz4 rfl; have dr1 : ((w3.alloc (.cells #[.int .i64 a, .int .i64 b, .int .i64 c, .string t] 28)).alloc (.cells #[.int .i64 0, .int .i64 0, .int .i64 0, .string ⟨#[]⟩] 28)).cell? ⟨w.heap.size, 1, none⟩ = some (.int .i64 0) := Mem.cell hz4 rfl; have dr2 : ((w3.alloc (.cells #[.int .i64 a, .int .i64 b, .int .i64 c, .string t] 28)).alloc (.cells #[.int .i64 0, .int .i64 0, .int .i64 0, .string ⟨#[]⟩] 28)).cell? ⟨w.heap.size, 2, none⟩ = some (.int .i64 0) := Mem.cell hz4 rfl; have dr3 : ((w3.alloc (.cells #[.int .i64 a, .int .i64 b, .int .i64 c, .string t] 28)).alloc (.cells #[.int .i64 0, .int .i64 0, .int .i64 0, .string ⟨#[]⟩] 28)).cell? ⟨w.heap.size, 3, none⟩ = some (.string ⟨#[]⟩) := Mem.cell hz4 rfl))
    have hq := (Mem.set (j := 3) (u := .string ⟨#[]⟩) (Mem.set (j := 2) (u := .int .i64 0) (Mem.set (j := 1) (u := .int .i64 0) (Mem.set (j := 0) (u := .int .i64 0) (Mem.old (Mem.old hres3 (.cells #[.int .i64 a, .int .i64 b, .int .i64 c, .string t] 28)) (.cells #[.int .i64 0, .int .i64 0, .int .i64 0, .string ⟨#[]⟩] 28))))))
    have q0 := Mem.cell (j := 0) (v := .int .i64 0) hq rfl
    have q1 := Mem.cell (j := 1) (v := .int .i64 0) hq rfl
    have q2 := Mem.cell (j := 2) (v := .int .i64 0) hq rfl
    have q3 := Mem.cell (j := 3) (v := .string ⟨#[]⟩) hq rfl
    refine bodyPost_ret (v := .tuple #[.agg #[.int .i64 0, .int .i64 0, .int .i64 0, .string ⟨#[]⟩], .int .i64 3]) (by simp [results, Tryd.results41, go_sem, *]) rfl ⟨rfl, ?_⟩
    exact Mem.Ch.below (B := w.heap.size) (S := fun k => w.heap.size ≤ k) ((((((((Mem.Ch.of_below (hB HC.out.1)).trans' (HC.out.2.mono (fun k hk hS => by omega))).trans' ((Mem.Ch.of_below' ((Below.refl _ w3).alloc (Nat.le_refl _) _)).trans' (Mem.Ch.of_below' ((Below.refl _ _).alloc (Nat.le_refl _) _))))).set (.inl (Nat.le_refl _))).set (.inl (Nat.le_refl _))).set (.inl (Nat.le_refl _))).set (.inl (Nat.le_refl _))) (fun k hk hS => by have h : w.heap.size ≤ k := hS; omega) (Nat.le_refl _)
set_option maxRecDepth 100000 in
set_option maxHeartbeats 4000000 in
theorem readS_any (s : ByteArray) (w : World) (hs : s.size ≤ 140737488351232) : Calls Tryd.prog 29 #[.string s] w fun r w' => r = .returned (.tuple #[(Sn.read s).1.val, .int .i64 (Sn.read s).2]) ∧ Below w.heap.size w w' := by
  have hf := fun W => wholeS_any s W hs
  generalize Sn.read s = x at hf ⊢
  obtain ⟨⟨a, b, c, t⟩, e⟩ := x
  dsimp only [Sn.val] at hf ⊢
  have hres := Mem.new w (.cells #[.int .i64 0, .int .i64 0, .int .i64 0, .string ⟨#[]⟩] 28)
  go_enter Tryd.func29, Tryd.ntmps29
  go_wp2_with (go_at_call 41; refine (hf _).mono ?_; rintro _ w3 ⟨rfl, hb3⟩; have hres3 := (hb3.block w.heap.size (by simp)).trans hres; have ag0 : w3.frozen? ⟨w.heap.size, 0, none⟩ = false := Mem.free hres3; have ag1 : w3.frozen? ⟨w.heap.size, 1, none⟩ = false := Mem.free hres3; have ag2 : w3.frozen? ⟨w.heap.size, 2, none⟩ = false := Mem.free hres3; have ag3 : w3.frozen? ⟨w.heap.size, 3, none⟩ = false := Mem.free hres3; have ar0 : w3.cell? ⟨w.heap.size, 0, none⟩ = some (.int .i64 0) := Mem.cell hres3 rfl; have ar1 : w3.cell? ⟨w.heap.size, 1, none⟩ = some (.int .i64 0) := Mem.cell hres3 rfl; have ar2 : w3.cell? ⟨w.heap.size, 2, none⟩ = some (.int .i64 0) := Mem.cell hres3 rfl; have ar3 : w3.cell? ⟨w.heap.size, 3, none⟩ = some (.string ⟨#[]⟩) := Mem.cell hres3 rfl)
  have hq := (Mem.set (j := 3) (u := .string t) (Mem.set (j := 2) (u := .int .i64 c) (Mem.set (j := 1) (u := .int .i64 b) (Mem.set (j := 0) (u := .int .i64 a) hres3))))
  have q0 := Mem.cell (j := 0) (v := .int .i64 a) hq rfl
  have q1 := Mem.cell (j := 1) (v := .int .i64 b) hq rfl
  have q2 := Mem.cell (j := 2) (v := .int .i64 c) hq rfl
  have q3 := Mem.cell (j := 3) (v := .string t) hq rfl
  refine bodyPost_ret (v := .tuple #[.agg #[.int .i64 a, .int .i64 b, .int .i64 c, .string t], .int .i64 e]) (by simp [results, Tryd.results29, go_sem, *]) rfl ⟨rfl, ?_⟩
  exact Mem.Ch.below (B := w.heap.size) (S := fun k => w.heap.size ≤ k) (((((((Mem.Ch.of_below' ((Below.refl _ w).alloc (Nat.le_refl _) _)).trans' (Mem.Ch.of_below' hb3))).set (.inl (Nat.le_refl _))).set (.inl (Nat.le_refl _))).set (.inl (Nat.le_refl _))).set (.inl (Nat.le_refl _))) (fun k hk hS => by have h : w.heap.size ≤ k := hS; omega) (Nat.le_refl _)
end Go.Proofs.YtbpnhaeladcbnaaDoor
