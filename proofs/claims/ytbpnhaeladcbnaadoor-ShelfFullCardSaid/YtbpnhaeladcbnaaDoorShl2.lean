/- shelf: which vote, which snapshot, a text says. -/
import Derived.Test.YtbpnhaeladcbnaaDoorShl1
namespace Go.Proofs.YtbpnhaeladcbnaaDoor
open Go.RowKit
set_option linter.unusedSimpArgs false
set_option linter.unusedVariables false
open Sp (fold intB textS bs)
theorem Tp.num_size (t : Tp) : t.num.1.s.size ≤ t.s.size := by
  unfold Tp.num
  split
  · exact Nat.le_refl _
  · rw [ByteArray.size_extract]; omega
def Vt.rd (t : Tp) : Vt × Tp := (⟨numN t.num.2, Tp.unf t.num.1.num.2⟩, t.num.1.num.1)
def Sn.rd (t : Tp) : Sn × Tp := (⟨numN t.num.2, numN t.num.1.num.2, numN t.num.1.num.1.num.2, (t.num.1.num.1.num.1.text 262144).2⟩, (t.num.1.num.1.num.1.text 262144).1)
def Vt.read (s : ByteArray) : Vt × Int := if (Vt.rd ⟨s, 0⟩).2.ends = 0 ∧ (Vt.rd ⟨s, 0⟩).1.ok then ((Vt.rd ⟨s, 0⟩).1, 0) else (⟨0, 0⟩, 3)
def Sn.read (s : ByteArray) : Sn × Int := if (Sn.rd ⟨s, 0⟩).2.ends = 0 ∧ (Sn.rd ⟨s, 0⟩).1.ok then ((Sn.rd ⟨s, 0⟩).1, 0) else (⟨0, 0, 0, ⟨#[]⟩⟩, 3)
section
variable (s : ByteArray) (e : Int) (g : Nat) (w : World)
set_option maxRecDepth 100000 in
set_option maxHeartbeats 4000000 in
theorem rv1_any (h : TapeAt w g s e) (hs : s.size ≤ 140737488351232) : Calls Tryd.prog 37 #[.pointer (some ⟨g, 0, none⟩)] w fun r w' => r = .returned (Vt.rd ⟨s, e⟩).1.val ∧ TapeAt w' g (Vt.rd ⟨s, e⟩).2.s (Vt.rd ⟨s, e⟩).2.e ∧ Mem.Ch (fun k => k = g) w w' := by
  have hz := Tp.num_size ⟨s, e⟩
  unfold Vt.rd Vt.val
  dsimp only at hz ⊢
  have hn := fun W (h : TapeAt W g s e) => number_any s e g W h hs
  generalize Tp.num ⟨s, e⟩ = x at hn hz ⊢
  obtain ⟨⟨s2, e2⟩, n2⟩ := x
  dsimp only at hn hz ⊢
  have hi := fun W (h : TapeAt W g s2 e2) => tpint_any s2 e2 g W h (by omega)
  generalize Tp.num ⟨s2, e2⟩ = x at hi ⊢
  obtain ⟨⟨s3, e3⟩, n3⟩ := x
  dsimp only at hi ⊢
  generalize numN n2 = a at hn ⊢
  generalize Tp.unf n3 = b at hi ⊢
  have hg := Mem.lt h
  have h1 : TapeAt (w.alloc (.cells #[.int .i64 0, .int .i64 0] 26)) g s e := h.step ((Below.refl _ w).alloc (Nat.le_refl _) _)
  have hres := Mem.new w (.cells #[.int .i64 0, .int .i64 0] 26)
  clear h
  go_enter Tryd.func37, Tryd.ntmps37
  go_wp2_with (first
    | (go_at_call 38; refine (hn _ h1).mono ?_; rintro _ w2 ⟨rfl, hT2, hc2⟩)
    | (go_at_call 39; refine (hi _ hT2).mono ?_; rintro _ w3 ⟨rfl, hT3, hc3⟩; have hres3 := (hc2.trans' hc3).at_ hres (by omega); have hf0 : w3.frozen? ⟨w.heap.size, 0, none⟩ = false := Mem.free hres3; have hf1 : w3.frozen? ⟨w.heap.size, 1, none⟩ = false := Mem.free hres3; have hr0 : w3.cell? ⟨w.heap.size, 0, none⟩ = some (.int .i64 0) := Mem.cell hres3 rfl; have hr1 : w3.cell? ⟨w.heap.size, 1, none⟩ = some (.int .i64 0) := Mem.cell hres3 rfl))
  have hq := Mem.set (j := 1) (u := .int .i64 b) (Mem.set (j := 0) (u := .int .i64 a) hres3)
  have q0 := Mem.cell (j := 0) (v := .int .i64 a) hq rfl
  have q1 := Mem.cell (j := 1) (v := .int .i64 b) hq rfl
  refine bodyPost_ret (v := .agg #[.int .i64 a, .int .i64 b]) (by simp [results, Tryd.results37, go_sem, *]) rfl ⟨rfl, Mem.set_ne (Mem.set_ne hT3 (by omega)) (by omega), ?_⟩
  exact ((((Mem.Ch.of_below' ((Below.refl _ w).alloc (Nat.le_refl _) _)).trans' hc2).trans' hc3).set (.inl (Nat.le_refl _))).set (.inl (Nat.le_refl _))
set_option maxRecDepth 100000 in
set_option maxHeartbeats 4000000 in
theorem rs1_any (h : TapeAt w g s e) (hs : s.size ≤ 140737488351232) : Calls Tryd.prog 42 #[.pointer (some ⟨g, 0, none⟩)] w fun r w' => r = .returned (Sn.rd ⟨s, e⟩).1.val ∧ TapeAt w' g (Sn.rd ⟨s, e⟩).2.s (Sn.rd ⟨s, e⟩).2.e ∧ Mem.Ch (fun k => k = g) w w' := by
  have tok1 : True := trivial
  have tok2 : True := trivial
  have hz := Tp.num_size ⟨s, e⟩
  unfold Sn.rd Sn.val
  dsimp only at hz ⊢
  have hn := fun W (h : TapeAt W g s e) => number_any s e g W h hs
  generalize Tp.num ⟨s, e⟩ = x at hn hz ⊢
  obtain ⟨⟨s2, e2⟩, n2⟩ := x
  dsimp only at hn hz ⊢
  have hi := fun W (h : TapeAt W g s2 e2) => number_any s2 e2 g W h (by omega)
  have hz2 := Tp.num_size ⟨s2, e2⟩
  dsimp only at hz2
  generalize Tp.num ⟨s2, e2⟩ = x at hi hz2 ⊢
  obtain ⟨⟨s3, e3⟩, n3⟩ := x
  dsimp only at hi hz2 ⊢
  have hj := fun W (h : TapeAt W g s3 e3) => number_any s3 e3 g W h (by omega)
  have hz3 := Tp.num_size ⟨s3, e3⟩
  dsimp only at hz3
  generalize Tp.num ⟨s3, e3⟩ = x at hj hz3 ⊢
  obtain ⟨⟨s4, e4⟩, n4⟩ := x
  dsimp only at hj hz3 ⊢
  have ht := fun W (h : TapeAt W g s4 e4) => tptext_any s4 e4 g W 262144 (by decide) h (by omega)
  generalize Tp.text 262144 ⟨s4, e4⟩ = x at ht ⊢
  obtain ⟨⟨s5, e5⟩, tx⟩ := x
  dsimp only at ht ⊢
  generalize numN n2 = a at hn ⊢
  generalize numN n3 = b at hi ⊢
  generalize numN n4 = c at hj ⊢
  have hg := Mem.lt h
  have h1 : TapeAt (w.alloc (.cells #[.int .i64 0, .int .i64 0, .int .i64 0, .string ⟨#[]⟩] 28)) g s e := h.step ((Below.refl _ w).alloc (Nat.le_refl _) _)
  have hres := Mem.new w (.cells #[.int .i64 0, .int .i64 0, .int .i64 0, .string ⟨#[]⟩] 28)
  have ht' : ∀ W, TapeAt W g s4 e4 → Calls Tryd.prog 43 #[.pointer (some ⟨g, 0, none⟩), .int .i64 262144] W fun r w' => r = .returned (.string tx) ∧ TapeAt w' g s5 e5 ∧ Mem.Ch (fun k => k = g) W w' := ht
  clear h hs hz hz2 hz3 ht
  go_enter Tryd.func42, Tryd.ntmps42
  go_wp2_with (first
    | (go_at_call 38; have _t := tok1; refine (hn _ h1).mono ?_; rintro _ w2 ⟨rfl, hT2, hc2⟩; clear tok1)
    | (go_at_call 38; have _t := tok2; refine (hi _ hT2).mono ?_; rintro _ w3 ⟨rfl, hT3, hc3⟩; clear tok2)
    | (go_at_call 38; refine (hj _ hT3).mono ?_; rintro _ w4 ⟨rfl, hT4, hc4⟩)
    | (go_at_call 43; refine (ht' _ hT4).mono ?_; rintro _ w5 ⟨rfl, hT5, hc5⟩; have hch := ((hc2.trans' hc3).trans' hc4).trans' hc5; have hres3 := hch.at_ hres (by omega); have hf0 : w5.frozen? ⟨w.heap.size, 0, none⟩ = false := Mem.free hres3; have hf1 : w5.frozen? ⟨w.heap.size, 1, none⟩ = false := Mem.free hres3; have hf2 : w5.frozen? ⟨w.heap.size, 2, none⟩ = false := Mem.free hres3; have hf3 : w5.frozen? ⟨w.heap.size, 3, none⟩ = false := Mem.free hres3; have hr0 : w5.cell? ⟨w.heap.size, 0, none⟩ = some (.int .i64 0) := Mem.cell hres3 rfl; have hr1 : w5.cell? ⟨w.heap.size, 1, none⟩ = some (.int .i64 0) := Mem.cell hres3 rfl; have hr2 : w5.cell? ⟨w.heap.size, 2, none⟩ = some (.int .i64 0) := Mem.cell hres3 rfl; have hr3 : w5.cell? ⟨w.heap.size, 3, none⟩ = some (.string ⟨#[]⟩) := Mem.cell hres3 rfl))
  have hq := Mem.set (j := 3) (u := .string tx) (Mem.set (j := 2) (u := .int .i64 c) (Mem.set (j := 1) (u := .int .i64 b) (Mem.set (j := 0) (u := .int .i64 a) hres3)))
  have q0 := Mem.cell (j := 0) (v := .int .i64 a) hq rfl
  have q1 := Mem.cell (j := 1) (v := .int .i64 b) hq rfl
  have q2 := Mem.cell (j := 2) (v := .int .i64 c) hq rfl
  have q3 := Mem.cell (j := 3) (v := .string tx) hq rfl
  have HC := Lib.hid hch
  clear hch hc2 hc3 hc4 hc5
  refine bodyPost_ret (v := .agg #[.int .i64 a, .int .i64 b, .int .i64 c, .string tx]) (by simp [results, Tryd.results42, go_sem, *]) rfl ⟨rfl, Mem.set_ne (Mem.set_ne (Mem.set_ne (Mem.set_ne hT5 (by omega)) (by omega)) (by omega)) (by omega), ?_⟩
  exact (((((Mem.Ch.of_below' ((Below.refl _ w).alloc (Nat.le_refl _) _)).trans' HC.out).set (.inl (Nat.le_refl _))).set (.inl (Nat.le_refl _))).set (.inl (Nat.le_refl _))).set (.inl (Nat.le_refl _))
end
end Go.Proofs.YtbpnhaeladcbnaaDoor
