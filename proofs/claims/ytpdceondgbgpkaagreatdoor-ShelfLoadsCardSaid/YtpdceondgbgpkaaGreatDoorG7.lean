/- shelf: which vote, which snapshot a text says: the walks (printed by tools/gen_whole.py). · shelf: the text of a vote, of a snapshot (printed by tools/gen_text.py). -/
import Derived.Test.YtpdceondgbgpkaaGreatDoorG6
import Derived.BigQuiet
namespace Go.Proofs.YtpdceondgbgpkaaGreatDoor
open Go.RowKit
set_option linter.unusedSimpArgs false
set_option linter.unusedVariables false
theorem at_g (s : ByteArray) (g : Nat) (w : World) (hg : w.heap.size = g) : Calls Tryz.prog 68 #[.string s] w fun r w' => r = .returned (.pointer (some ⟨g, 0, none⟩)) ∧ TapeAt w' g s 0 ∧ Below w.heap.size w w' ∧ g < w'.heap.size := by
  subst hg
  refine (at_any s w).mono ?_
  rintro _ w' ⟨rfl, h1, h2⟩
  exact ⟨rfl, h1, h2, Mem.lt h1⟩
set_option maxRecDepth 100000 in
set_option maxHeartbeats 4000000 in
theorem wholeV_any (s : ByteArray) (w : World) (hs : s.size ≤ 140737488351232) : Calls Tryz.prog 38 #[.string s, .func (.func 39) #[] #[], .func (.func 42) #[] #[]] w fun r w' => r = .returned (.tuple #[(Vt.read s).1.val, .int .i64 (Vt.read s).2]) ∧ Below w.heap.size w w' := by
  have hf := fun W (h : TapeAt W (w.heap.size + 1) s 0) => rv1_any s 0 (w.heap.size + 1) W h hs
  unfold Vt.read
  generalize Vt.rd ⟨s, 0⟩ = x at hf ⊢
  obtain ⟨⟨a, b⟩, ⟨s', e'⟩⟩ := x
  dsimp only [Vt.val] at hf ⊢
  have hv := fun W => voted_any ⟨a, b⟩ W
  have he := fun W (h : TapeAt W (w.heap.size + 1) s' e') => end_any s' e' (w.heap.size + 1) W h
  have hres := Mem.new w (.cells #[.int .i64 0, .int .i64 0] 33)
  have hB : ∀ {W : World}, Below (w.alloc (.cells #[.int .i64 0, .int .i64 0] 33)).heap.size (w.alloc (.cells #[.int .i64 0, .int .i64 0] 33)) W → Below w.heap.size w W := fun h => ((Below.refl _ w).alloc (Nat.le_refl _) _).trans (h.mono (by simp))
  unfold Vt.val at hv
  dsimp only at hv
  by_cases h0 : Tp.ends ⟨s', e'⟩ = 0
  · rw [h0] at he
    by_cases h1 : Vt.ok ⟨a, b⟩
    · rw [if_pos ⟨h0, h1⟩]
      rw [decide_eq_true h1] at hv
      clear h0 h1
      go_enter Tryz.func38, Tryz.ntmps38
      go_wp2_with (first
        | (go_at_call 68; refine (at_g s (w.heap.size + 1) _ (by simp)).mono ?_; rintro _ w2 ⟨rfl, hT2, hb2, hl2⟩)
        | (go_at_call 39; refine (hf _ hT2).mono ?_; rintro _ w3 ⟨rfl, hT3, hc3⟩; have hsz3 := hc3.size; have hl3 : w.heap.size + 1 < w3.heap.size := Nat.lt_of_lt_of_le hl2 hsz3; have hres3 := hc3.at_ ((hb2.block w.heap.size (by simp)).trans hres) (by omega); have ag0 : w3.frozen? ⟨w.heap.size, 0, none⟩ = false := Mem.free hres3; have ag1 : w3.frozen? ⟨w.heap.size, 1, none⟩ = false := Mem.free hres3; have ar0 : w3.cell? ⟨w.heap.size, 0, none⟩ = some (.int .i64 0) := Mem.cell hres3 rfl; have ar1 : w3.cell? ⟨w.heap.size, 1, none⟩ = some (.int .i64 0) := Mem.cell hres3 rfl; have HC := Lib.hid (And.intro hb2 hc3); clear hb2 hc3 hsz3 hl2)
        | (go_at_call 69; refine (he _ (hT3.step ((Below.refl _ _).alloc (Nat.le_refl _) _))).mono ?_; rintro _ _ ⟨rfl, rfl⟩)
        | (go_at_call 42; refine (hv _).mono ?_; rintro _ w5 ⟨rfl, hb5⟩; have hx5 := (hb5.block w3.heap.size (by simp)).trans (Mem.new w3 _); have hres5 := (hb5.block w.heap.size (by simp; omega)).trans (Mem.old hres3 _); have bg0 : w5.frozen? ⟨w.heap.size, 0, none⟩ = false := Mem.free hres5; have bg1 : w5.frozen? ⟨w.heap.size, 1, none⟩ = false := Mem.free hres5; have br0 : w5.cell? ⟨w.heap.size, 0, none⟩ = some (.int .i64 0) := Mem.cell hres5 rfl; have br1 : w5.cell? ⟨w.heap.size, 1, none⟩ = some (.int .i64 0) := Mem.cell hres5 rfl; have cg0 : w5.frozen? ⟨w3.heap.size, 0, none⟩ = false := Mem.free hx5; have cg1 : w5.frozen? ⟨w3.heap.size, 1, none⟩ = false := Mem.free hx5; have cr0 : w5.cell? ⟨w3.heap.size, 0, none⟩ = some (.int .i64 a) := Mem.cell hx5 rfl; have cr1 : w5.cell? ⟨w3.heap.size, 1, none⟩ = some (.int .i64 b) := Mem.cell hx5 rfl))
      have hq := (Mem.set (j := 1) (u := .int .i64 b) (Mem.set (j := 0) (u := .int .i64 a) hres5))
      have q0 := Mem.cell (j := 0) (v := .int .i64 a) hq rfl
      have q1 := Mem.cell (j := 1) (v := .int .i64 b) hq rfl
      refine bodyPost_ret (v := .tuple #[.agg #[.int .i64 a, .int .i64 b], .int .i64 0]) (by simp [results, Tryz.results38, go_sem, *]) rfl ⟨rfl, ?_⟩
      exact Mem.Ch.below (B := w.heap.size) (S := fun k => w.heap.size ≤ k) ((((((Mem.Ch.of_below (hB HC.out.1)).trans' (HC.out.2.mono (fun k hk hS => by omega))).trans' ((Mem.Ch.of_below' ((Below.refl _ w3).alloc (Nat.le_refl _) _)).trans' (Mem.Ch.of_below' hb5)))).set (.inl (Nat.le_refl _))).set (.inl (Nat.le_refl _))) (fun k hk hS => by have h : w.heap.size ≤ k := hS; omega) (Nat.le_refl _)
    · rw [if_neg (fun h => h1 h.2)]
      rw [decide_eq_false h1] at hv
      clear h0 h1
      go_enter Tryz.func38, Tryz.ntmps38
      go_wp2_with (first
        | (go_at_call 68; refine (at_g s (w.heap.size + 1) _ (by simp)).mono ?_; rintro _ w2 ⟨rfl, hT2, hb2, hl2⟩)
        | (go_at_call 39; refine (hf _ hT2).mono ?_; rintro _ w3 ⟨rfl, hT3, hc3⟩; have hsz3 := hc3.size; have hl3 : w.heap.size + 1 < w3.heap.size := Nat.lt_of_lt_of_le hl2 hsz3; have hres3 := hc3.at_ ((hb2.block w.heap.size (by simp)).trans hres) (by omega); have ag0 : w3.frozen? ⟨w.heap.size, 0, none⟩ = false := Mem.free hres3; have ag1 : w3.frozen? ⟨w.heap.size, 1, none⟩ = false := Mem.free hres3; have ar0 : w3.cell? ⟨w.heap.size, 0, none⟩ = some (.int .i64 0) := Mem.cell hres3 rfl; have ar1 : w3.cell? ⟨w.heap.size, 1, none⟩ = some (.int .i64 0) := Mem.cell hres3 rfl; have HC := Lib.hid (And.intro hb2 hc3); clear hb2 hc3 hsz3 hl2)
        | (go_at_call 69; refine (he _ (hT3.step ((Below.refl _ _).alloc (Nat.le_refl _) _))).mono ?_; rintro _ _ ⟨rfl, rfl⟩)
        | (go_at_call 42; refine (hv _).mono ?_; rintro _ w5 ⟨rfl, hb5⟩; have hx5 := (hb5.block w3.heap.size (by simp)).trans (Mem.new w3 _); have hres5 := (hb5.block w.heap.size (by simp; omega)).trans (Mem.old hres3 _); have bg0 : w5.frozen? ⟨w.heap.size, 0, none⟩ = false := Mem.free hres5; have bg1 : w5.frozen? ⟨w.heap.size, 1, none⟩ = false := Mem.free hres5; have br0 : w5.cell? ⟨w.heap.size, 0, none⟩ = some (.int .i64 0) := Mem.cell hres5 rfl; have br1 : w5.cell? ⟨w.heap.size, 1, none⟩ = some (.int .i64 0) := Mem.cell hres5 rfl; have cg0 : w5.frozen? ⟨w3.heap.size, 0, none⟩ = false := Mem.free hx5; have cg1 : w5.frozen? ⟨w3.heap.size, 1, none⟩ = false := Mem.free hx5; have cr0 : w5.cell? ⟨w3.heap.size, 0, none⟩ = some (.int .i64 a) := Mem.cell hx5 rfl; have cr1 : w5.cell? ⟨w3.heap.size, 1, none⟩ = some (.int .i64 b) := Mem.cell hx5 rfl; have hz5 := Mem.old hres5 (.cells #[.int .i64 0, .int .i64 0] 33); have dg0 : (w5.alloc (.cells #[.int .i64 0, .int .i64 0] 33)).frozen? ⟨w.heap.size, 0, none⟩ = false := Mem.free hz5; have dg1 : (w5.alloc (.cells #[.int .i64 0, .int .i64 0] 33)).frozen? ⟨w.heap.size, 1, none⟩ = false := Mem.free hz5; have dr0 : (w5.alloc (.cells #[.int .i64 0, .int .i64 0] 33)).cell? ⟨w.heap.size, 0, none⟩ = some (.int .i64 0) := Mem.cell hz5 rfl; have dr1 : (w5.alloc (.cells #[.int .i64 0, .int .i64 0] 33)).cell? ⟨w.heap.size, 1, none⟩ = some (.int .i64 0) := Mem.cell hz5 rfl))
      have hq := (Mem.set (j := 1) (u := .int .i64 0) (Mem.set (j := 0) (u := .int .i64 0) (Mem.old hres5 (.cells #[.int .i64 0, .int .i64 0] 33))))
      have q0 := Mem.cell (j := 0) (v := .int .i64 0) hq rfl
      have q1 := Mem.cell (j := 1) (v := .int .i64 0) hq rfl
      refine bodyPost_ret (v := .tuple #[.agg #[.int .i64 0, .int .i64 0], .int .i64 3]) (by simp [results, Tryz.results38, go_sem, *]) rfl ⟨rfl, ?_⟩
      exact Mem.Ch.below (B := w.heap.size) (S := fun k => w.heap.size ≤ k) (((((((Mem.Ch.of_below (hB HC.out.1)).trans' (HC.out.2.mono (fun k hk hS => by omega))).trans' ((Mem.Ch.of_below' ((Below.refl _ w3).alloc (Nat.le_refl _) _)).trans' (Mem.Ch.of_below' hb5))).trans' (Mem.Ch.of_below' ((Below.refl _ w5).alloc (Nat.le_refl _) _)))).set (.inl (Nat.le_refl _))).set (.inl (Nat.le_refl _))) (fun k hk hS => by have h : w.heap.size ≤ k := hS; omega) (Nat.le_refl _)
  · rw [if_neg (fun h => h0 h.1)]
    go_enter Tryz.func38, Tryz.ntmps38
    go_wp2_with (first
      | (go_at_call 68; refine (at_g s (w.heap.size + 1) _ (by simp)).mono ?_; rintro _ w2 ⟨rfl, hT2, hb2, hl2⟩)
      | (go_at_call 39; refine (hf _ hT2).mono ?_; rintro _ w3 ⟨rfl, hT3, hc3⟩; have hsz3 := hc3.size; have hl3 : w.heap.size + 1 < w3.heap.size := Nat.lt_of_lt_of_le hl2 hsz3; have hres3 := hc3.at_ ((hb2.block w.heap.size (by simp)).trans hres) (by omega); have ag0 : w3.frozen? ⟨w.heap.size, 0, none⟩ = false := Mem.free hres3; have ag1 : w3.frozen? ⟨w.heap.size, 1, none⟩ = false := Mem.free hres3; have ar0 : w3.cell? ⟨w.heap.size, 0, none⟩ = some (.int .i64 0) := Mem.cell hres3 rfl; have ar1 : w3.cell? ⟨w.heap.size, 1, none⟩ = some (.int .i64 0) := Mem.cell hres3 rfl; have HC := Lib.hid (And.intro hb2 hc3); clear hb2 hc3 hsz3 hl2)
      | (go_at_call 69; refine (he _ (hT3.step ((Below.refl _ _).alloc (Nat.le_refl _) _))).mono ?_; rintro _ _ ⟨rfl, rfl⟩; have hz4 := Mem.old (Mem.old hres3 (.cells #[.int .i64 a, .int .i64 b] 33)) (.cells #[.int .i64 0, .int .i64 0] 33); have dg0 : ((w3.alloc (.cells #[.int .i64 a, .int .i64 b] 33)).alloc (.cells #[.int .i64 0, .int .i64 0] 33)).frozen? ⟨w.heap.size, 0, none⟩ = false := Mem.free hz4; have dg1 : ((w3.alloc (.cells #[.int .i64 a, .int .i64 b] 33)).alloc (.cells #[.int .i64 0, .int .i64 0] 33)).frozen? ⟨w.heap.size, 1, none⟩ = false := Mem.free hz4; have dr0 : ((w3.alloc (.cells #[.int .i64 a, .int .i64 b] 33)).alloc (.cells #[.int .i64 0, .int .i64 0] 33)).cell? ⟨w.heap.size, 0, none⟩ = some (.int .i64 0) := Mem.cell hz4 rfl; have dr1 : ((w3.alloc (.cells #[.int .i64 a, .int .i64 b] 33)).alloc (.cells #[.int .i64 0, .int .i64 0] 33)).cell? ⟨w.heap.size, 1, none⟩ = some (.int .i64 0) := Mem.cell hz4 rfl))
    have hq := (Mem.set (j := 1) (u := .int .i64 0) (Mem.set (j := 0) (u := .int .i64 0) (Mem.old (Mem.old hres3 (.cells #[.int .i64 a, .int .i64 b] 33)) (.cells #[.int .i64 0, .int .i64 0] 33))))
    have q0 := Mem.cell (j := 0) (v := .int .i64 0) hq rfl
    have q1 := Mem.cell (j := 1) (v := .int .i64 0) hq rfl
    refine bodyPost_ret (v := .tuple #[.agg #[.int .i64 0, .int .i64 0], .int .i64 3]) (by simp [results, Tryz.results38, go_sem, *]) rfl ⟨rfl, ?_⟩
    exact Mem.Ch.below (B := w.heap.size) (S := fun k => w.heap.size ≤ k) ((((((Mem.Ch.of_below (hB HC.out.1)).trans' (HC.out.2.mono (fun k hk hS => by omega))).trans' ((Mem.Ch.of_below' ((Below.refl _ w3).alloc (Nat.le_refl _) _)).trans' (Mem.Ch.of_below' ((Below.refl _ _).alloc (Nat.le_refl _) _))))).set (.inl (Nat.le_refl _))).set (.inl (Nat.le_refl _))) (fun k hk hS => by have h : w.heap.size ≤ k := hS; omega) (Nat.le_refl _)
set_option maxRecDepth 100000 in
set_option maxHeartbeats 4000000 in
theorem readV_any (s : ByteArray) (w : World) (hs : s.size ≤ 140737488351232) : Calls Tryz.prog 24 #[.string s] w fun r w' => r = .returned (.tuple #[(Vt.read s).1.val, .int .i64 (Vt.read s).2]) ∧ Below w.heap.size w w' := by
  have hf := fun W => wholeV_any s W hs
  generalize Vt.read s = x at hf ⊢
  obtain ⟨⟨a, b⟩, e⟩ := x
  dsimp only [Vt.val] at hf ⊢
  have hres := Mem.new w (.cells #[.int .i64 0, .int .i64 0] 33)
  go_enter Tryz.func24, Tryz.ntmps24
  go_wp2_with (go_at_call 38; refine (hf _).mono ?_; rintro _ w3 ⟨rfl, hb3⟩; have hres3 := (hb3.block w.heap.size (by simp)).trans hres; have ag0 : w3.frozen? ⟨w.heap.size, 0, none⟩ = false := Mem.free hres3; have ag1 : w3.frozen? ⟨w.heap.size, 1, none⟩ = false := Mem.free hres3; have ar0 : w3.cell? ⟨w.heap.size, 0, none⟩ = some (.int .i64 0) := Mem.cell hres3 rfl; have ar1 : w3.cell? ⟨w.heap.size, 1, none⟩ = some (.int .i64 0) := Mem.cell hres3 rfl)
  have hq := (Mem.set (j := 1) (u := .int .i64 b) (Mem.set (j := 0) (u := .int .i64 a) hres3))
  have q0 := Mem.cell (j := 0) (v := .int .i64 a) hq rfl
  have q1 := Mem.cell (j := 1) (v := .int .i64 b) hq rfl
  refine bodyPost_ret (v := .tuple #[.agg #[.int .i64 a, .int .i64 b], .int .i64 e]) (by simp [results, Tryz.results24, go_sem, *]) rfl ⟨rfl, ?_⟩
  exact Mem.Ch.below (B := w.heap.size) (S := fun k => w.heap.size ≤ k) (((((Mem.Ch.of_below' ((Below.refl _ w).alloc (Nat.le_refl _) _)).trans' (Mem.Ch.of_below' hb3))).set (.inl (Nat.le_refl _))).set (.inl (Nat.le_refl _))) (fun k hk hS => by have h : w.heap.size ≤ k := hS; omega) (Nat.le_refl _)
set_option maxRecDepth 100000 in
set_option maxHeartbeats 4000000 in
theorem wholeS_any (s : ByteArray) (w : World) (hs : s.size ≤ 140737488351232) : Calls Tryz.prog 49 #[.string s, .func (.func 50) #[] #[], .func (.func 52) #[] #[]] w fun r w' => r = .returned (.tuple #[(Sn.read s).1.val, .int .i64 (Sn.read s).2]) ∧ Below w.heap.size w w' := by
  have hf := fun W (h : TapeAt W (w.heap.size + 1) s 0) => rs1_any s 0 (w.heap.size + 1) W h hs
  unfold Sn.read
  generalize Sn.rd ⟨s, 0⟩ = x at hf ⊢
  obtain ⟨⟨a, b, c, t⟩, ⟨s', e'⟩⟩ := x
  dsimp only [Sn.val] at hf ⊢
  have hv := fun W => may_any ⟨a, b, c, t⟩ W
  have he := fun W (h : TapeAt W (w.heap.size + 1) s' e') => end_any s' e' (w.heap.size + 1) W h
  have hres := Mem.new w (.cells #[.int .i64 0, .int .i64 0, .int .i64 0, .string ⟨#[]⟩] 40)
  have hB : ∀ {W : World}, Below (w.alloc (.cells #[.int .i64 0, .int .i64 0, .int .i64 0, .string ⟨#[]⟩] 40)).heap.size (w.alloc (.cells #[.int .i64 0, .int .i64 0, .int .i64 0, .string ⟨#[]⟩] 40)) W → Below w.heap.size w W := fun h => ((Below.refl _ w).alloc (Nat.le_refl _) _).trans (h.mono (by simp))
  unfold Sn.val at hv
  dsimp only at hv
  by_cases h0 : Tp.ends ⟨s', e'⟩ = 0
  · rw [h0] at he
    by_cases h1 : Sn.ok ⟨a, b, c, t⟩
    · rw [if_pos ⟨h0, h1⟩]
      rw [decide_eq_true h1] at hv
      clear h0 h1
      go_enter Tryz.func49, Tryz.ntmps49
      go_wp2_with (first
        | (go_at_call 68; refine (at_g s (w.heap.size + 1) _ (by simp)).mono ?_; rintro _ w2 ⟨rfl, hT2, hb2, hl2⟩)
        | (go_at_call 50; refine (hf _ hT2).mono ?_; rintro _ w3 ⟨rfl, hT3, hc3⟩; have hsz3 := hc3.size; have hl3 : w.heap.size + 1 < w3.heap.size := Nat.lt_of_lt_of_le hl2 hsz3; have hres3 := hc3.at_ ((hb2.block w.heap.size (by simp)).trans hres) (by omega); have ag0 : w3.frozen? ⟨w.heap.size, 0, none⟩ = false := Mem.free hres3; have ag1 : w3.frozen? ⟨w.heap.size, 1, none⟩ = false := Mem.free hres3; have ag2 : w3.frozen? ⟨w.heap.size, 2, none⟩ = false := Mem.free hres3; have ag3 : w3.frozen? ⟨w.heap.size, 3, none⟩ = false := Mem.free hres3; have ar0 : w3.cell? ⟨w.heap.size, 0, none⟩ = some (.int .i64 0) := Mem.cell hres3 rfl; have ar1 : w3.cell? ⟨w.heap.size, 1, none⟩ = some (.int .i64 0) := Mem.cell hres3 rfl; have ar2 : w3.cell? ⟨w.heap.size, 2, none⟩ = some (.int .i64 0) := Mem.cell hres3 rfl; have ar3 : w3.cell? ⟨w.heap.size, 3, none⟩ = some (.string ⟨#[]⟩) := Mem.cell hres3 rfl; have HC := Lib.hid (And.intro hb2 hc3); clear hb2 hc3 hsz3 hl2)
        | (go_at_call 69; refine (he _ (hT3.step ((Below.refl _ _).alloc (Nat.le_refl _) _))).mono ?_; rintro _ _ ⟨rfl, rfl⟩)
        | (go_at_call 52; refine (hv _).mono ?_; rintro _ w5 ⟨rfl, hb5⟩; have hx5 := (hb5.block w3.heap.size (by simp)).trans (Mem.new w3 _); have hres5 := (hb5.block w.heap.size (by simp; omega)).trans (Mem.old hres3 _); have bg0 : w5.frozen? ⟨w.heap.size, 0, none⟩ = false := Mem.free hres5; have bg1 : w5.frozen? ⟨w.heap.size, 1, none⟩ = false := Mem.free hres5; have bg2 : w5.frozen? ⟨w.heap.size, 2, none⟩ = false := Mem.free hres5; have bg3 : w5.frozen? ⟨w.heap.size, 3, none⟩ = false := Mem.free hres5; have br0 : w5.cell? ⟨w.heap.size, 0, none⟩ = some (.int .i64 0) := Mem.cell hres5 rfl; have br1 : w5.cell? ⟨w.heap.size, 1, none⟩ = some (.int .i64 0) := Mem.cell hres5 rfl; have br2 : w5.cell? ⟨w.heap.size, 2, none⟩ = some (.int .i64 0) := Mem.cell hres5 rfl; have br3 : w5.cell? ⟨w.heap.size, 3, none⟩ = some (.string ⟨#[]⟩) := Mem.cell hres5 rfl; have cg0 : w5.frozen? ⟨w3.heap.size, 0, none⟩ = false := Mem.free hx5; have cg1 : w5.frozen? ⟨w3.heap.size, 1, none⟩ = false := Mem.free hx5; have cg2 : w5.frozen? ⟨w3.heap.size, 2, none⟩ = false := Mem.free hx5; have cg3 : w5.frozen? ⟨w3.heap.size, 3, none⟩ = false := Mem.free hx5; have cr0 : w5.cell? ⟨w3.heap.size, 0, none⟩ = some (.int .i64 a) := Mem.cell hx5 rfl; have cr1 : w5.cell? ⟨w3.heap.size, 1, none⟩ = some (.int .i64 b) := Mem.cell hx5 rfl; have cr2 : w5.cell? ⟨w3.heap.size, 2, none⟩ = some (.int .i64 c) := Mem.cell hx5 rfl; have cr3 : w5.cell? ⟨w3.heap.size, 3, none⟩ = some (.string t) := Mem.cell hx5 rfl))
      have hq := (Mem.set (j := 3) (u := .string t) (Mem.set (j := 2) (u := .int .i64 c) (Mem.set (j := 1) (u := .int .i64 b) (Mem.set (j := 0) (u := .int .i64 a) hres5))))
      have q0 := Mem.cell (j := 0) (v := .int .i64 a) hq rfl
      have q1 := Mem.cell (j := 1) (v := .int .i64 b) hq rfl
      have q2 := Mem.cell (j := 2) (v := .int .i64 c) hq rfl
      have q3 := Mem.cell (j := 3) (v := .string t) hq rfl
      refine bodyPost_ret (v := .tuple #[.agg #[.int .i64 a, .int .i64 b, .int .i64 c, .string t], .int .i64 0]) (by simp [results, Tryz.results49, go_sem, *]) rfl ⟨rfl, ?_⟩
      exact Mem.Ch.below (B := w.heap.size) (S := fun k => w.heap.size ≤ k) ((((((((Mem.Ch.of_below (hB HC.out.1)).trans' (HC.out.2.mono (fun k hk hS => by omega))).trans' ((Mem.Ch.of_below' ((Below.refl _ w3).alloc (Nat.le_refl _) _)).trans' (Mem.Ch.of_below' hb5)))).set (.inl (Nat.le_refl _))).set (.inl (Nat.le_refl _))).set (.inl (Nat.le_refl _))).set (.inl (Nat.le_refl _))) (fun k hk hS => by have h : w.heap.size ≤ k := hS; omega) (Nat.le_refl _)
    · rw [if_neg (fun h => h1 h.2)]
      rw [decide_eq_false h1] at hv
      clear h0 h1
      go_enter Tryz.func49, Tryz.ntmps49
      go_wp2_with (first
        | (go_at_call 68; refine (at_g s (w.heap.size + 1) _ (by simp)).mono ?_; rintro _ w2 ⟨rfl, hT2, hb2, hl2⟩)
        | (go_at_call 50; refine (hf _ hT2).mono ?_; rintro _ w3 ⟨rfl, hT3, hc3⟩; have hsz3 := hc3.size; have hl3 : w.heap.size + 1 < w3.heap.size := Nat.lt_of_lt_of_le hl2 hsz3; have hres3 := hc3.at_ ((hb2.block w.heap.size (by simp)).trans hres) (by omega); have ag0 : w3.frozen? ⟨w.heap.size, 0, none⟩ = false := Mem.free hres3; have ag1 : w3.frozen? ⟨w.heap.size, 1, none⟩ = false := Mem.free hres3; have ag2 : w3.frozen? ⟨w.heap.size, 2, none⟩ = false := Mem.free hres3; have ag3 : w3.frozen? ⟨w.heap.size, 3, none⟩ = false := Mem.free hres3; have ar0 : w3.cell? ⟨w.heap.size, 0, none⟩ = some (.int .i64 0) := Mem.cell hres3 rfl; have ar1 : w3.cell? ⟨w.heap.size, 1, none⟩ = some (.int .i64 0) := Mem.cell hres3 rfl; have ar2 : w3.cell? ⟨w.heap.size, 2, none⟩ = some (.int .i64 0) := Mem.cell hres3 rfl; have ar3 : w3.cell? ⟨w.heap.size, 3, none⟩ = some (.string ⟨#[]⟩) := Mem.cell hres3 rfl; have HC := Lib.hid (And.intro hb2 hc3); clear hb2 hc3 hsz3 hl2)
        | (go_at_call 69; refine (he _ (hT3.step ((Below.refl _ _).alloc (Nat.le_refl _) _))).mono ?_; rintro _ _ ⟨rfl, rfl⟩)
        | (go_at_call 52; refine (hv _).mono ?_; rintro _ w5 ⟨rfl, hb5⟩; have hx5 := (hb5.block w3.heap.size (by simp)).trans (Mem.new w3 _); have hres5 := (hb5.block w.heap.size (by simp; omega)).trans (Mem.old hres3 _); have bg0 : w5.frozen? ⟨w.heap.size, 0, none⟩ = false := Mem.free hres5; have bg1 : w5.frozen? ⟨w.heap.size, 1, none⟩ = false := Mem.free hres5; have bg2 : w5.frozen? ⟨w.heap.size, 2, none⟩ = false := Mem.free hres5; have bg3 : w5.frozen? ⟨w.heap.size, 3, none⟩ = false := Mem.free hres5; have br0 : w5.cell? ⟨w.heap.size, 0, none⟩ = some (.int .i64 0) := Mem.cell hres5 rfl; have br1 : w5.cell? ⟨w.heap.size, 1, none⟩ = some (.int .i64 0) := Mem.cell hres5 rfl; have br2 : w5.cell? ⟨w.heap.size, 2, none⟩ = some (.int .i64 0) := Mem.cell hres5 rfl; have br3 : w5.cell? ⟨w.heap.size, 3, none⟩ = some (.string ⟨#[]⟩) := Mem.cell hres5 rfl; have cg0 : w5.frozen? ⟨w3.heap.size, 0, none⟩ = false := Mem.free hx5; have cg1 : w5.frozen? ⟨w3.heap.size, 1, none⟩ = false := Mem.free hx5; have cg2 : w5.frozen? ⟨w3.heap.size, 2, none⟩ = false := Mem.free hx5; have cg3 : w5.frozen? ⟨w3.heap.size, 3, none⟩ = false := Mem.free hx5; have cr0 : w5.cell? ⟨w3.heap.size, 0, none⟩ = some (.int .i64 a) := Mem.cell hx5 rfl; have cr1 : w5.cell? ⟨w3.heap.size, 1, none⟩ = some (.int .i64 b) := Mem.cell hx5 rfl; have cr2 : w5.cell? ⟨w3.heap.size, 2, none⟩ = some (.int .i64 c) := Mem.cell hx5 rfl; have cr3 : w5.cell? ⟨w3.heap.size, 3, none⟩ = some (.string t) := Mem.cell hx5 rfl; have hz5 := Mem.old hres5 (.cells #[.int .i64 0, .int .i64 0, .int .i64 0, .string ⟨#[]⟩] 40); have dg0 : (w5.alloc (.cells #[.int .i64 0, .int .i64 0, .int .i64 0, .string ⟨#[]⟩] 40)).frozen? ⟨w.heap.size, 0, none⟩ = false := Mem.free hz5; have dg1 : (w5.alloc (.cells #[.int .i64 0, .int .i64 0, .int .i64 0, .string ⟨#[]⟩] 40)).frozen? ⟨w.heap.size, 1, none⟩ = false := Mem.free hz5; have dg2 : (w5.alloc (.cells #[.int .i64 0, .int .i64 0, .int .i64 0, .string ⟨#[]⟩] 40)).frozen? ⟨w.heap.size, 2, none⟩ = false := Mem.free hz5; have dg3 : (w5.alloc (.cells #[.int .i64 0, .int .i64 0, .int .i64 0, .string ⟨#[]⟩] 40)).frozen? ⟨w.heap.size, 3, none⟩ = false := Mem.free hz5; have dr0 : (w5.alloc (.cells #[.int .i64 0, .int .i64 0, .int .i64 0, .string ⟨#[]⟩] 40)).cell? ⟨w.heap.size, 0, none⟩ = some (.int .i64 0) := Mem.cell hz5 rfl; have dr1 : (w5.alloc (.cells #[.int .i64 0, .int .i64 0, .int .i64 0, .string ⟨#[]⟩] 40)).cell? ⟨w.heap.size, 1, none⟩ = some (.int .i64 0) := Mem.cell hz5 rfl; have dr2 : (w5.alloc (.cells #[.int .i64 0, .int .i64 0, .int .i64 0, .string ⟨#[]⟩] 40)).cell? ⟨w.heap.size, 2, none⟩ = some (.int .i64 0) := Mem.cell hz5 rfl; have dr3 : (w5.alloc (.cells #[.int .i64 0, .int .i64 0, .int .i64 0, .string ⟨#[]⟩] 40)).cell? ⟨w.heap.size, 3, none⟩ = some (.string ⟨#[]⟩) := Mem.cell hz5 rfl))
      have hq := (Mem.set (j := 3) (u := .string ⟨#[]⟩) (Mem.set (j := 2) (u := .int .i64 0) (Mem.set (j := 1) (u := .int .i64 0) (Mem.set (j := 0) (u := .int .i64 0) (Mem.old hres5 (.cells #[.int .i64 0, .int .i64 0, .int .i64 0, .string ⟨#[]⟩] 40))))))
      have q0 := Mem.cell (j := 0) (v := .int .i64 0) hq rfl
      have q1 := Mem.cell (j := 1) (v := .int .i64 0) hq rfl
      have q2 := Mem.cell (j := 2) (v := .int .i64 0) hq rfl
      have q3 := Mem.cell (j := 3) (v := .string ⟨#[]⟩) hq rfl
      refine bodyPost_ret (v := .tuple #[.agg #[.int .i64 0, .int .i64 0, .int .i64 0, .string ⟨#[]⟩], .int .i64 3]) (by simp [results, Tryz.results49, go_sem, *]) rfl ⟨rfl, ?_⟩
      exact Mem.Ch.below (B := w.heap.size) (S := fun k => w.heap.size ≤ k) (((((((((Mem.Ch.of_below (hB HC.out.1)).trans' (HC.out.2.mono (fun k hk hS => by omega))).trans' ((Mem.Ch.of_below' ((Below.refl _ w3).alloc (Nat.le_refl _) _)).trans' (Mem.Ch.of_below' hb5))).trans' (Mem.Ch.of_below' ((Below.refl _ w5).alloc (Nat.le_refl _) _)))).set (.inl (Nat.le_refl _))).set (.inl (Nat.le_refl _))).set (.inl (Nat.le_refl _))).set (.inl (Nat.le_refl _))) (fun k hk hS => by have h : w.heap.size ≤ k := hS; omega) (Nat.le_refl _)
  · rw [if_neg (fun h => h0 h.1)]
    go_enter Tryz.func49, Tryz.ntmps49
    go_wp2_with (first
      | (go_at_call 68; refine (at_g s (w.heap.size + 1) _ (by simp)).mono ?_; rintro _ w2 ⟨rfl, hT2, hb2, hl2⟩)
      | (go_at_call 50; refine (hf _ hT2).mono ?_; rintro _ w3 ⟨rfl, hT3, hc3⟩; have hsz3 := hc3.size; have hl3 : w.heap.size + 1 < w3.heap.size := Nat.lt_of_lt_of_le hl2 hsz3; have hres3 := hc3.at_ ((hb2.block w.heap.size (by simp)).trans hres) (by omega); have ag0 : w3.frozen? ⟨w.heap.size, 0, none⟩ = false := Mem.free hres3; have ag1 : w3.frozen? ⟨w.heap.size, 1, none⟩ = false := Mem.free hres3; have ag2 : w3.frozen? ⟨w.heap.size, 2, none⟩ = false := Mem.free hres3; have ag3 : w3.frozen? ⟨w.heap.size, 3, none⟩ = false := Mem.free hres3; have ar0 : w3.cell? ⟨w.heap.size, 0, none⟩ = some (.int .i64 0) := Mem.cell hres3 rfl; have ar1 : w3.cell? ⟨w.heap.size, 1, none⟩ = some (.int .i64 0) := Mem.cell hres3 rfl; have ar2 : w3.cell? ⟨w.heap.size, 2, none⟩ = some (.int .i64 0) := Mem.cell hres3 rfl; have ar3 : w3.cell? ⟨w.heap.size, 3, none⟩ = some (.string ⟨#[]⟩) := Mem.cell hres3 rfl; have HC := Lib.hid (And.intro hb2 hc3); clear hb2 hc3 hsz3 hl2)
      | (go_at_call 69; refine (he _ (hT3.step ((Below.refl _ _).alloc (Nat.le_refl _) _))).mono ?_; rintro _ _ ⟨rfl, rfl⟩; have hz4 := Mem.old (Mem.old hres3 (.cells #[.int .i64 a, .int .i64 b, .int .i64 c, .string t] 40)) (.cells #[.int .i64 0, .int .i64 0, .int .i64 0, .string ⟨#[]⟩] 40); have dg0 : ((w3.alloc (.cells #[.int .i64 a, .int .i64 b, .int .i64 c, .string t] 40)).alloc (.cells #[.int .i64 0, .int .i64 0, .int .i64 0, .string ⟨#[]⟩] 40)).frozen? ⟨w.heap.size, 0, none⟩ = false := Mem.free hz4; have dg1 : ((w3.alloc (.cells #[.int .i64 a, .int .i64 b, .int .i64 c, .string t] 40)).alloc (.cells #[.int .i64 0, .int .i64 0, .int .i64 0, .string ⟨#[]⟩] 40)).frozen? ⟨w.heap.size, 1, none⟩ = false := Mem.free hz4; have dg2 : ((w3.alloc (.cells #[.int .i64 a, .int .i64 b, .int .i64 c, .string t] 40)).alloc (.cells #[.int .i64 0, .int .i64 0, .int .i64 0, .string ⟨#[]⟩] 40)).frozen? ⟨w.heap.size, 2, none⟩ = false := Mem.free hz4; have dg3 : ((w3.alloc (.cells #[.int .i64 a, .int .i64 b, .int .i64 c, .string t] 40)).alloc (.cells #[.int .i64 0, .int .i64 0, .int .i64 0, .string ⟨#[]⟩] 40)).frozen? ⟨w.heap.size, 3, none⟩ = false := Mem.free hz4; have dr0 : ((w3.alloc (.cells #[.int .i64 a, .int .i64 b, .int .i64 c, .string t] 40)).alloc (.cells #[.int .i64 0, .int .i64 0, .int .i64 0, .string ⟨#[]⟩] 40)).cell? ⟨w.heap.size, 0, none⟩ = some (.int .i64 0) := Mem.cell hz4 rfl; have dr1 : ((w3.alloc (.cells #[.int .i64 a, .int .i64 b, .int .i64 c, .string t] 40)).alloc (.cells #[.int .i64 0, .int .i64 0, .int .i64 0, .string ⟨#[]⟩] 40)).cell? ⟨w.heap.size, 1, none⟩ = some (.int .i64 0) := Mem.cell hz4 rfl; have dr2 : ((w3.alloc (.cells #[.int .i64 a, .int .i64 b, .int .i64 c, .string t] 40)).alloc (.cells #[.int .i64 0, .int .i64 0, .int .i64 0, .string ⟨#[]⟩] 40)).cell? ⟨w.heap.size, 2, none⟩ = some (.int .i64 0) := Mem.cell hz4 rfl; have dr3 : ((w3.alloc (.cells #[.int .i64 a, .int .i64 b, .int .i64 c, .string t] 40)).alloc (.cells #[.int .i64 0, .int .i64 0, .int .i64 0, .string ⟨#[]⟩] 40)).cell? ⟨w.heap.size, 3, none⟩ = some (.string ⟨#[]⟩) := Mem.cell hz4 rfl))
    have hq := (Mem.set (j := 3) (u := .string ⟨#[]⟩) (Mem.set (j := 2) (u := .int .i64 0) (Mem.set (j := 1) (u := .int .i64 0) (Mem.set (j := 0) (u := .int .i64 0) (Mem.old (Mem.old hres3 (.cells #[.int .i64 a, .int .i64 b, .int .i64 c, .string t] 40)) (.cells #[.int .i64 0, .int .i64 0, .int .i64 0, .string ⟨#[]⟩] 40))))))
    have q0 := Mem.cell (j := 0) (v := .int .i64 0) hq rfl
    have q1 := Mem.cell (j := 1) (v := .int .i64 0) hq rfl
    have q2 := Mem.cell (j := 2) (v := .int .i64 0) hq rfl
    have q3 := Mem.cell (j := 3) (v := .string ⟨#[]⟩) hq rfl
    refine bodyPost_ret (v := .tuple #[.agg #[.int .i64 0, .int .i64 0, .int .i64 0, .string ⟨#[]⟩], .int .i64 3]) (by simp [results, Tryz.results49, go_sem, *]) rfl ⟨rfl, ?_⟩
    exact Mem.Ch.below (B := w.heap.size) (S := fun k => w.heap.size ≤ k) ((((((((Mem.Ch.of_below (hB HC.out.1)).trans' (HC.out.2.mono (fun k hk hS => by omega))).trans' ((Mem.Ch.of_below' ((Below.refl _ w3).alloc (Nat.le_refl _) _)).trans' (Mem.Ch.of_below' ((Below.refl _ _).alloc (Nat.le_refl _) _))))).set (.inl (Nat.le_refl _))).set (.inl (Nat.le_refl _))).set (.inl (Nat.le_refl _))).set (.inl (Nat.le_refl _))) (fun k hk hS => by have h : w.heap.size ≤ k := hS; omega) (Nat.le_refl _)
set_option maxRecDepth 100000 in
set_option maxHeartbeats 4000000 in
theorem readS_any (s : ByteArray) (w : World) (hs : s.size ≤ 140737488351232) : Calls Tryz.prog 28 #[.string s] w fun r w' => r = .returned (.tuple #[(Sn.read s).1.val, .int .i64 (Sn.read s).2]) ∧ Below w.heap.size w w' := by
  have hf := fun W => wholeS_any s W hs
  generalize Sn.read s = x at hf ⊢
  obtain ⟨⟨a, b, c, t⟩, e⟩ := x
  dsimp only [Sn.val] at hf ⊢
  have hres := Mem.new w (.cells #[.int .i64 0, .int .i64 0, .int .i64 0, .string ⟨#[]⟩] 40)
  go_enter Tryz.func28, Tryz.ntmps28
  go_wp2_with (go_at_call 49; refine (hf _).mono ?_; rintro _ w3 ⟨rfl, hb3⟩; have hres3 := (hb3.block w.heap.size (by simp)).trans hres; have ag0 : w3.frozen? ⟨w.heap.size, 0, none⟩ = false := Mem.free hres3; have ag1 : w3.frozen? ⟨w.heap.size, 1, none⟩ = false := Mem.free hres3; have ag2 : w3.frozen? ⟨w.heap.size, 2, none⟩ = false := Mem.free hres3; have ag3 : w3.frozen? ⟨w.heap.size, 3, none⟩ = false := Mem.free hres3; have ar0 : w3.cell? ⟨w.heap.size, 0, none⟩ = some (.int .i64 0) := Mem.cell hres3 rfl; have ar1 : w3.cell? ⟨w.heap.size, 1, none⟩ = some (.int .i64 0) := Mem.cell hres3 rfl; have ar2 : w3.cell? ⟨w.heap.size, 2, none⟩ = some (.int .i64 0) := Mem.cell hres3 rfl; have ar3 : w3.cell? ⟨w.heap.size, 3, none⟩ = some (.string ⟨#[]⟩) := Mem.cell hres3 rfl)
  have hq := (Mem.set (j := 3) (u := .string t) (Mem.set (j := 2) (u := .int .i64 c) (Mem.set (j := 1) (u := .int .i64 b) (Mem.set (j := 0) (u := .int .i64 a) hres3))))
  have q0 := Mem.cell (j := 0) (v := .int .i64 a) hq rfl
  have q1 := Mem.cell (j := 1) (v := .int .i64 b) hq rfl
  have q2 := Mem.cell (j := 2) (v := .int .i64 c) hq rfl
  have q3 := Mem.cell (j := 3) (v := .string t) hq rfl
  refine bodyPost_ret (v := .tuple #[.agg #[.int .i64 a, .int .i64 b, .int .i64 c, .string t], .int .i64 e]) (by simp [results, Tryz.results28, go_sem, *]) rfl ⟨rfl, ?_⟩
  exact Mem.Ch.below (B := w.heap.size) (S := fun k => w.heap.size ≤ k) (((((((Mem.Ch.of_below' ((Below.refl _ w).alloc (Nat.le_refl _) _)).trans' (Mem.Ch.of_below' hb3))).set (.inl (Nat.le_refl _))).set (.inl (Nat.le_refl _))).set (.inl (Nat.le_refl _))).set (.inl (Nat.le_refl _))) (fun k hk hS => by have h : w.heap.size ≤ k := hS; omega) (Nat.le_refl _)
end Go.Proofs.YtpdceondgbgpkaaGreatDoor
namespace Go.Proofs.YtpdceondgbgpkaaGreatDoor
open Go.RowKit
set_option linter.unusedSimpArgs false
set_option linter.unusedVariables false
open Sp (fold intB textS bs)
attribute [local go_sem] Mem.After.cell
theorem tnum_size (n : Nat) (h : n < 18446744073709551616) : (bs (Sp.num n)).size ≤ 9 := by rw [Sp.bs_size]; exact (Sp.num_length n h).2
theorem tnum_size' (n : Int) (h : n < 18446744073709551616) : (bs (Sp.num n.toNat)).size ≤ 9 := tnum_size _ (by omega)
theorem tint_size (n : Int) (h : IsI64 n) : (bs (intB n)).size ≤ 9 := by have := fold_u64 h; unfold IsU64 at this; exact tnum_size _ (by omega)
theorem ttext_size (s : ByteArray) (h : s.size ≤ 140737488351232) : (textS s).size ≤ s.size + 9 := by
  have := tnum_size s.size (by omega)
  unfold textS
  rw [ByteArray.size_append]
  omega
def Vt.text (v : Vt) : ByteArray × Int := if v.ok then (bs (Sp.num v.term.toNat) ++ bs (intB v.to), 0) else (⟨#[]⟩, 1)
def Sn.wrote (s : Sn) : ByteArray × Int := if s.ok then (bs (Sp.num s.index.toNat) ++ bs (Sp.num s.term.toNat) ++ bs (Sp.num s.mask.toNat) ++ textS s.text, 0) else (⟨#[]⟩, 1)
set_option maxRecDepth 100000 in
set_option maxHeartbeats 4000000 in
theorem textV_any (v : Vt) (w : World) (hi : IsI64 v.to) : Calls Tryz.prog 55 #[v.val] w fun r w' => r = .returned (.tuple #[.string v.text.1, .int .i64 v.text.2]) ∧ Below w.heap.size w w' := by
  have hv := voted_any v
  obtain ⟨a, b⟩ := v
  unfold Vt.text
  unfold Vt.val at hv ⊢
  dsimp only at hv ⊢
  by_cases h0 : Vt.ok ⟨a, b⟩
  · rw [if_pos h0]
    simp only [decide_eq_true h0] at hv
    obtain ⟨h1, h2, h3, h4⟩ := h0
    dsimp only at *
    have u1 : IntKind.u64.wrap a = a := by show a % 18446744073709551616 = a; omega
    have z1 := tnum_size' a (by omega)
    have z2 := tint_size b hi
    have n0 := fun W => Num_any a W ⟨h1, by omega⟩
    have n1 := fun W => Int_any b W hi
    have HN := Lib.hid (And.intro n0 n1)
    clear n0 n1
    go_enter Tryz.func55, Tryz.ntmps55
    go_wp2_with (go_at_call 42; refine (hv _).mono ?_; rintro _ w2 ⟨rfl, hb2⟩; have hx := (hb2.block w.heap.size (by simp)).trans (Mem.new w _); have b0 : w2.cell? ⟨w.heap.size, 0, none⟩ = some (.int .i64 a) := Mem.cell hx rfl; have b1 : w2.cell? ⟨w.heap.size, 1, none⟩ = some (.int .i64 b) := Mem.cell hx rfl; have hl := Mem.lt hx; have hbel : Below w.heap.size w w2 := ((Below.refl _ _).alloc (Nat.le_refl _) _).trans (hb2.mono (by simp)))
    clear hx
    refine Mem.wp_region_after (by kernel_rfl) (by kernel_rfl) ?_
    repeat (go_big_quiet_step (first | (go_at_call 77; exact Mem.After.call _ (HN.out.1 _)) | (go_at_call 78; exact Mem.After.call _ (HN.out.2 _))))
    refine wpQuiet_nil ?_
    intro w3 hb3
    go_wp2_with fail
    go_ret2
    exact ⟨rfl, hbel.trans (hb3.mono hbel.size)⟩
  · rw [if_neg h0]
    simp only [decide_eq_false h0] at hv
    go_enter Tryz.func55, Tryz.ntmps55
    go_wp2_with (go_at_call 42; refine (hv _).mono ?_; rintro _ w2 ⟨rfl, hb2⟩; have hx := (hb2.block w.heap.size (by simp)).trans (Mem.new w _); have b0 : w2.cell? ⟨w.heap.size, 0, none⟩ = some (.int .i64 a) := Mem.cell hx rfl; have b1 : w2.cell? ⟨w.heap.size, 1, none⟩ = some (.int .i64 b) := Mem.cell hx rfl; have hl := Mem.lt hx; have hbel : Below w.heap.size w w2 := ((Below.refl _ _).alloc (Nat.le_refl _) _).trans (hb2.mono (by simp)))
    go_ret2
    exact ⟨rfl, hbel⟩
end Go.Proofs.YtpdceondgbgpkaaGreatDoor
