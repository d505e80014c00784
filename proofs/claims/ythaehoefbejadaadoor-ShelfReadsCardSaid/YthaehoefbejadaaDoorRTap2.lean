/- The document's tape: its methods. -/
import Derived.Test.YthaehoefbejadaaDoorRTap
import Derived.Test.YthaehoefbejadaaDoorShl2
namespace Go.Proofs.YthaehoefbejadaaDoor
open Go.RowKit
set_option linter.unusedSimpArgs false
set_option linter.unusedVariables false
namespace Tp
def val (t : Tp) : Value := .agg #[.string t.s, .int .i64 t.e]
end Tp
theorem emp {s : ByteArray} (h : s.size = 0) : s.toList.isEmpty = true := by rw [ByteArray.toList_eq, show s.data.toList = [] by rw [← List.length_eq_zero_iff, Array.length_toList]; exact h]; rfl
theorem nemp {s : ByteArray} (h : s.size ≠ 0) : s.toList.isEmpty = false := by
  rw [ByteArray.toList_eq]
  cases hh : s.data.toList with
  | nil => exact absurd (by have := congrArg List.length hh; rw [Array.length_toList] at this; exact this) h
  | cons a b => rfl
section
variable (s : ByteArray) (e : Int) (w : World)
set_option maxRecDepth 100000 in
set_option maxHeartbeats 2000000 in
theorem rend_any : Calls Tryd.prog 57 #[(Tp.mk s e).val] w fun r w' => r = .returned (.int .i64 (Tp.ends ⟨s, e⟩)) ∧ Below w.heap.size w w' := by
  have hb : Below w.heap.size w (w.alloc (.cells #[.string s, .int .i64 e] 91)) := (Below.refl _ w).alloc (Nat.le_refl _) _
  unfold Tp.val
  dsimp only
  by_cases he : e = 0
  · subst he
    by_cases h0 : s.size = 0
    · have h1 := emp h0
      have hE : Tp.ends ⟨s, 0⟩ = 0 := by unfold Tp.ends; rw [if_neg (fun h => h.2 h0)]
      rw [hE]
      clear hE
      go_enter Tryd.func57, Tryd.ntmps57
      go_wp2_with fail
      go_ret
      exact ⟨rfl, hb⟩
    · have h1 := nemp h0
      have hE : Tp.ends ⟨s, 0⟩ = 3 := by unfold Tp.ends; rw [if_pos ⟨rfl, h0⟩]
      rw [hE]
      clear hE
      go_enter Tryd.func57, Tryd.ntmps57
      go_wp2_with fail
      go_ret
      exact ⟨rfl, hb⟩
  · have hE : Tp.ends ⟨s, e⟩ = e := by unfold Tp.ends; rw [if_neg (fun h => he h.1)]
    rw [hE]
    clear hE
    go_enter Tryd.func57, Tryd.ntmps57
    go_wp2_with fail
    go_ret
    exact ⟨rfl, hb⟩
set_option maxRecDepth 100000 in
set_option maxHeartbeats 4000000 in
theorem rtpnum_any (hs : s.size ≤ 140737488351232) : Calls Tryd.prog 54 #[(Tp.mk s e).val] w fun r w' => r = .returned (.tuple #[(Tp.num ⟨s, e⟩).1.val, .int .u64 ((Tp.num ⟨s, e⟩).2 : Nat)]) ∧ Below w.heap.size w w' := by
  have hb : Below w.heap.size w ((w.alloc (.cells #[.string s, .int .i64 e] 91)).alloc (.cells #[.string ⟨#[]⟩, .int .i64 0] 91)) := ((Below.refl _ w).alloc (Nat.le_refl _) _).alloc (by simp) _
  have hx := Mem.old (Mem.new w (.cells #[.string s, .int .i64 e] 91)) (.cells #[.string ⟨#[]⟩, .int .i64 0] 91)
  have hres := Mem.new (w.alloc (.cells #[.string s, .int .i64 e] 91)) (.cells #[.string ⟨#[]⟩, .int .i64 0] 91)
  rw [show (w.alloc (.cells #[.string s, .int .i64 e] 91)).heap.size = w.heap.size + 1 by simp] at hres
  unfold Tp.val
  by_cases he : e = 0
  · subst he
    have hn := fun W => rahead_any s W hs
    have hfit := rdN_fit s.data.toList
    rw [Array.length_toList] at hfit
    unfold Tp.num
    rw [if_neg (by simp)]
    dsimp only
    generalize Sp.rdN s.data.toList = x at hn hfit ⊢
    obtain ⟨n, k, f⟩ := x
    obtain ⟨h1, h2, h3, h4⟩ := hfit
    dsimp only at hn h1 h2 h3 h4 ⊢
    have hk1 : (k : Int) ≤ (s.size : Int) := by have : k ≤ s.size := h2; omega
    have hk0 : (0 : Int) ≤ (k : Int) := by omega
    clear h1 h2 h3 h4
    have HB := Lib.hid hb
    have HX := Lib.hid (And.intro hx hres)
    clear hb hx hres
    go_enter Tryd.func54, Tryd.ntmps54
    go_wp2_with (go_at_call 82; refine (hn _).mono ?_; rintro _ w2 ⟨rfl, hb2⟩; have hx2 := (hb2.block w.heap.size (by simp; omega)).trans HX.out.1; have hres2 := (hb2.block (w.heap.size + 1) (by simp)).trans HX.out.2; have x0 := Mem.cell (j := 0) (v := .string s) hx2 rfl; have f0 : w2.frozen? ⟨w.heap.size + 1, 0, none⟩ = false := Mem.free hres2; have f1 : w2.frozen? ⟨w.heap.size + 1, 1, none⟩ = false := Mem.free hres2; have r0 : w2.cell? ⟨w.heap.size + 1, 0, none⟩ = some (.string ⟨#[]⟩) := Mem.cell hres2 rfl; have r1 : w2.cell? ⟨w.heap.size + 1, 1, none⟩ = some (.int .i64 0) := Mem.cell hres2 rfl)
    have hq := Mem.set (j := 1) (u := .int .i64 f) (Mem.set (j := 0) (u := .string (s.extract k s.size)) hres2)
    have q0 := Mem.cell (j := 0) (v := .string (s.extract k s.size)) hq rfl
    have q1 := Mem.cell (j := 1) (v := .int .i64 f) hq rfl
    refine bodyPost_ret (v := .tuple #[.agg #[.string (s.extract k s.size), .int .i64 f], .int .u64 (n : Nat)]) (by simp [results, Tryd.results54, go_sem, *]) rfl ⟨rfl, ?_⟩
    exact Mem.Ch.below (B := w.heap.size) (S := fun k => w.heap.size ≤ k) ((((Mem.Ch.of_below HB.out).trans' (Mem.Ch.of_below' hb2)).set (.inl (Nat.le_succ _))).set (.inl (Nat.le_succ _))) (fun k hk hS => by have h : w.heap.size ≤ k := hS; omega) (Nat.le_refl _)
  · have e2 : Tp.num ⟨s, e⟩ = (⟨s, e⟩, 0) := by unfold Tp.num; rw [if_pos he]
    rw [e2]
    clear e2
    dsimp only
    have f0 : ((w.alloc (.cells #[.string s, .int .i64 e] 91)).alloc (.cells #[.string ⟨#[]⟩, .int .i64 0] 91)).frozen? ⟨w.heap.size + 1, 0, none⟩ = false := Mem.free hres
    have f1 : ((w.alloc (.cells #[.string s, .int .i64 e] 91)).alloc (.cells #[.string ⟨#[]⟩, .int .i64 0] 91)).frozen? ⟨w.heap.size + 1, 1, none⟩ = false := Mem.free hres
    have HB := Lib.hid hb
    have HX := Lib.hid (And.intro hx hres)
    clear hb hx hres
    go_enter Tryd.func54, Tryd.ntmps54
    go_wp2_with fail
    have hq := Mem.set (j := 1) (u := .int .i64 e) (Mem.set (j := 0) (u := .string s) HX.out.2)
    have q0 := Mem.cell (j := 0) (v := .string s) hq rfl
    have q1 := Mem.cell (j := 1) (v := .int .i64 e) hq rfl
    refine bodyPost_ret (v := .tuple #[.agg #[.string s, .int .i64 e], .int .u64 0]) (by simp [results, Tryd.results54, go_sem, *]) rfl ⟨rfl, ?_⟩
    exact ((Below.refl _ w).alloc (Nat.le_refl _) _).alloc (by simp) _
theorem wq (n : Nat) (h : n < 18446744073709551616) : IntKind.u64.wrap ((n : Int) / 2) = ((n / 2 : Nat) : Int) := by
  show ((n : Int) / 2) % 18446744073709551616 = _
  omega
theorem wneg (n : Nat) (h : n < 18446744073709551616) : wrap64 (wrap64 (-wrap64 (IntKind.u64.wrap ((n : Int) / 2))) - 1) = -((n / 2 : Nat) : Int) - 1 := by
  have e1 : wrap64 (IntKind.u64.wrap ((n : Int) / 2)) = ((n / 2 : Nat) : Int) := by rw [wq n h]; unfold wrap64; omega
  rw [e1]
  have e2 : wrap64 (-((n / 2 : Nat) : Int)) = -((n / 2 : Nat) : Int) := by unfold wrap64; omega
  rw [e2]
  unfold wrap64
  omega
theorem whalf (n : Nat) (h : n < 18446744073709551616) : wrap64 (wrap64 (-((n : Int) / 2)) - 1) = -((n : Int) / 2) - 1 := by
  have e : wrap64 (-((n : Int) / 2)) = -((n : Int) / 2) := by unfold wrap64; omega
  rw [e]
  unfold wrap64
  omega
theorem wpos (n : Nat) (h : n < 18446744073709551616) : wrap64 (IntKind.u64.wrap ((n : Int) / 2)) = ((n / 2 : Nat) : Int) := by rw [wq n h]; unfold wrap64; omega
set_option maxRecDepth 100000 in
set_option maxHeartbeats 4000000 in
theorem rtpint_any (hs : s.size ≤ 140737488351232) : Calls Tryd.prog 55 #[(Tp.mk s e).val] w fun r w' => r = .returned (.tuple #[(Tp.num ⟨s, e⟩).1.val, .int .i64 (Tp.unf (Tp.num ⟨s, e⟩).2)]) ∧ Below w.heap.size w w' := by
  have hb : Below w.heap.size w ((w.alloc (.cells #[.string s, .int .i64 e] 91)).alloc (.cells #[.string ⟨#[]⟩, .int .i64 0] 91)) := ((Below.refl _ w).alloc (Nat.le_refl _) _).alloc (by simp) _
  have hres := Mem.new (w.alloc (.cells #[.string s, .int .i64 e] 91)) (.cells #[.string ⟨#[]⟩, .int .i64 0] 91)
  rw [show (w.alloc (.cells #[.string s, .int .i64 e] 91)).heap.size = w.heap.size + 1 by simp] at hres
  have hn := fun W => rtpnum_any s e W hs
  have hlt := Tp.num_lt ⟨s, e⟩
  generalize Tp.num ⟨s, e⟩ = x at hn hlt ⊢
  obtain ⟨⟨s', e'⟩, n⟩ := x
  unfold Tp.val at hn ⊢
  dsimp only at hn hlt ⊢
  have hw1 := wneg n hlt
  have hw2 := wpos n hlt
  have hw3 := whalf n hlt
  have HB := Lib.hid (And.intro hb hres)
  clear hb hres
  unfold Tp.unf
  by_cases ho : n % 2 = 0
  · rw [if_pos ho]
    have ho1 : (n : Int) % 2 = 0 := by omega
    clear hlt ho
    go_enter Tryd.func55, Tryd.ntmps55
    go_wp2_with (go_at_call 54; refine (hn _).mono ?_; rintro _ w2 ⟨rfl, hb2⟩; have hres2 := (hb2.block (w.heap.size + 1) (by simp)).trans HB.out.2; have hl2 := Mem.lt hres2; have f0 : w2.frozen? ⟨w.heap.size + 1, 0, none⟩ = false := Mem.free hres2; have f1 : w2.frozen? ⟨w.heap.size + 1, 1, none⟩ = false := Mem.free hres2; have r0 : w2.cell? ⟨w.heap.size + 1, 0, none⟩ = some (.string ⟨#[]⟩) := Mem.cell hres2 rfl; have r1 : w2.cell? ⟨w.heap.size + 1, 1, none⟩ = some (.int .i64 0) := Mem.cell hres2 rfl)
    have hq := Mem.old (Mem.set (j := 1) (u := .int .i64 e') (Mem.set (j := 0) (u := .string s') hres2)) (.cells #[.string s', .int .i64 e'] 91)
    have q0 := Mem.cell (j := 0) (v := .string s') hq rfl
    have q1 := Mem.cell (j := 1) (v := .int .i64 e') hq rfl
    refine bodyPost_ret (v := .tuple #[.agg #[.string s', .int .i64 e'], .int .i64 ((n / 2 : Nat) : Int)]) (by simp [results, Tryd.results55, go_sem, *]) rfl ⟨rfl, ?_⟩
    exact Mem.Ch.below (B := w.heap.size) (S := fun k => w.heap.size ≤ k) (((((Mem.Ch.of_below HB.out.1).trans' (Mem.Ch.of_below' hb2)).set (.inl (Nat.le_succ _))).set (.inl (Nat.le_succ _))).trans' (Mem.Ch.of_below' ((Below.refl _ _).alloc (Nat.le_refl _) _))) (fun k hk hS => by have h : w.heap.size ≤ k := hS; omega) (Nat.le_refl _)
  · rw [if_neg ho]
    have ho1 : ¬ (n : Int) % 2 = 0 := by omega
    have ho2 : (n : Int) % 2 = 1 := by omega
    clear hlt ho
    go_enter Tryd.func55, Tryd.ntmps55
    go_wp2_with (go_at_call 54; refine (hn _).mono ?_; rintro _ w2 ⟨rfl, hb2⟩; have hres2 := (hb2.block (w.heap.size + 1) (by simp)).trans HB.out.2; have hl2 := Mem.lt hres2; have f0 : w2.frozen? ⟨w.heap.size + 1, 0, none⟩ = false := Mem.free hres2; have f1 : w2.frozen? ⟨w.heap.size + 1, 1, none⟩ = false := Mem.free hres2; have r0 : w2.cell? ⟨w.heap.size + 1, 0, none⟩ = some (.string ⟨#[]⟩) := Mem.cell hres2 rfl; have r1 : w2.cell? ⟨w.heap.size + 1, 1, none⟩ = some (.int .i64 0) := Mem.cell hres2 rfl)
    have hq := Mem.old (Mem.set (j := 1) (u := .int .i64 e') (Mem.set (j := 0) (u := .string s') hres2)) (.cells #[.string s', .int .i64 e'] 91)
    have q0 := Mem.cell (j := 0) (v := .string s') hq rfl
    have q1 := Mem.cell (j := 1) (v := .int .i64 e') hq rfl
    refine bodyPost_ret (v := .tuple #[.agg #[.string s', .int .i64 e'], .int .i64 (-((n / 2 : Nat) : Int) - 1)]) (by simp [results, Tryd.results55, go_sem, *]) rfl ⟨rfl, ?_⟩
    exact Mem.Ch.below (B := w.heap.size) (S := fun k => w.heap.size ≤ k) (((((Mem.Ch.of_below HB.out.1).trans' (Mem.Ch.of_below' hb2)).set (.inl (Nat.le_succ _))).set (.inl (Nat.le_succ _))).trans' (Mem.Ch.of_below' ((Below.refl _ _).alloc (Nat.le_refl _) _))) (fun k hk hS => by have h : w.heap.size ≤ k := hS; omega) (Nat.le_refl _)
end
end Go.Proofs.YthaehoefbejadaaDoor
