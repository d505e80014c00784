/- The document's readers of votes and snapshots (printed by tools/gen_rread.py). -/
import Derived.Test.YtpdceondgbgpkaaGreatDoorG14
namespace Go.Proofs.YtpdceondgbgpkaaGreatDoor
open Go.RowKit
set_option linter.unusedSimpArgs false
set_option linter.unusedVariables false
set_option maxRecDepth 100000 in
set_option maxHeartbeats 8000000 in
theorem rreadV_any (s : ByteArray) (w : World) (hs : s.size ≤ 140737488351232) : Calls Tryz.prog 27 #[.string s] w fun r w' => r = .returned (.tuple #[(Vt.read s).1.val, .int .i64 (Vt.read s).2]) ∧ Below w.heap.size w w' := by
  have tok0 : True := trivial
  have tok1 : True := trivial
  have tok2 : True := trivial
  have tok3 : True := trivial
  have tok4 : True := trivial
  have tok5 : True := trivial
  have tok6 : True := trivial
  have tok7 : True := trivial
  have tok8 : True := trivial
  have hres := Mem.new w (.cells #[.int .i64 0, .int .i64 0] 36)
  have hb0 : Below w.heap.size w (w.alloc (.cells #[.int .i64 0, .int .i64 0] 36)) := (Below.refl _ w).alloc (Nat.le_refl _) _
  unfold Vt.read Vt.rd Vt.val
  dsimp only
  have h0 := fun W => rtpnum_any s 0 W hs
  have z0 := Tp.num_size ⟨s, 0⟩
  dsimp only at z0
  generalize Tp.num ⟨s, 0⟩ = x at h0 z0 ⊢
  obtain ⟨⟨s0, e0⟩, n0⟩ := x
  unfold Tp.val at h0
  dsimp only at h0 z0 ⊢
  have h1 := fun W => rtpint_any s0 e0 W (by omega)
  generalize Tp.num ⟨s0, e0⟩ = x at h1 ⊢
  obtain ⟨⟨s1, e1⟩, n1⟩ := x
  unfold Tp.val at h1
  dsimp only at h1 ⊢
  generalize Tp.unf n1 = b at h1 ⊢
  have k0 := fun W => rnumber_any n0 W
  generalize numN n0 = a at k0 ⊢
  have hv := fun W => rvoted_any ⟨a, b⟩ W
  have he := fun W => rend_any s1 e1 W
  unfold Vt.val at hv
  unfold Tp.val at he
  dsimp only at hv he
  by_cases h9 : Tp.ends ⟨s1, e1⟩ = 0
  · rw [h9] at he
    by_cases h8 : Vt.ok ⟨a, b⟩
    · rw [if_pos ⟨h9, h8⟩]
      rw [decide_eq_true h8] at hv
      clear h9 h8
      go_enter Tryz.func27, Tryz.ntmps27
      go_wp2_with (first
        | (go_at_call 44; have _t := tok0; refine (h0 _).mono ?_; rintro _ w2 ⟨rfl, hb2⟩; have hres2 := (hb2.block w.heap.size (by simp)).trans hres; have hl2 := Mem.lt hres2; clear tok0)
        | (go_at_call 45; have _t := tok1; refine (h1 _).mono ?_; rintro _ w3 ⟨rfl, hb3⟩; have hres3 := (hb3.block w.heap.size (by simp; omega)).trans (Mem.old hres2 _); have hl3 := Mem.lt hres3; clear tok1)
        | (go_at_call 46; have _t := tok4; refine (k0 _).mono ?_; rintro _ _ ⟨rfl, rfl⟩; clear tok4)
        | (go_at_call 47; refine (he _).mono ?_; rintro _ wE ⟨rfl, hbE⟩; have hnew := Mem.new (w3.alloc (.cells #[.string s1, .int .i64 e1] 94)) (.cells #[.int .i64 a, .int .i64 b] 36); rw [show (w3.alloc (.cells #[.string s1, .int .i64 e1] 94)).heap.size = w3.heap.size + 1 by simp] at hnew; have hvE := (hbE.block (w3.heap.size + 1) (by simp)).trans hnew; have hresE := (hbE.block w.heap.size (by simp; omega)).trans (Mem.old (Mem.old hres3 _) _); have pg0 : wE.frozen? ⟨w.heap.size, 0, none⟩ = false := Mem.free hresE; have pg1 : wE.frozen? ⟨w.heap.size, 1, none⟩ = false := Mem.free hresE; have pr0 : wE.cell? ⟨w.heap.size, 0, none⟩ = some (.int .i64 0) := Mem.cell hresE rfl; have pr1 : wE.cell? ⟨w.heap.size, 1, none⟩ = some (.int .i64 0) := Mem.cell hresE rfl; have qr0 : wE.cell? ⟨w3.heap.size + 1, 0, none⟩ = some (.int .i64 a) := Mem.cell hvE rfl; have qr1 : wE.cell? ⟨w3.heap.size + 1, 1, none⟩ = some (.int .i64 b) := Mem.cell hvE rfl)
        | (go_at_call 48; refine (hv _).mono ?_; rintro _ wV ⟨rfl, hbV⟩; have hvV := (hbV.block (w3.heap.size + 1) (Mem.lt hvE)).trans hvE; have hresV := (hbV.block w.heap.size (Mem.lt hresE)).trans hresE; have yg0 : wV.frozen? ⟨w.heap.size, 0, none⟩ = false := Mem.free hresV; have yg1 : wV.frozen? ⟨w.heap.size, 1, none⟩ = false := Mem.free hresV; have yr0 : wV.cell? ⟨w.heap.size, 0, none⟩ = some (.int .i64 0) := Mem.cell hresV rfl; have yr1 : wV.cell? ⟨w.heap.size, 1, none⟩ = some (.int .i64 0) := Mem.cell hresV rfl; have zr0 : wV.cell? ⟨w3.heap.size + 1, 0, none⟩ = some (.int .i64 a) := Mem.cell hvV rfl; have zr1 : wV.cell? ⟨w3.heap.size + 1, 1, none⟩ = some (.int .i64 b) := Mem.cell hvV rfl))
      have hq := (Mem.set (j := 1) (u := .int .i64 b) (Mem.set (j := 0) (u := .int .i64 a) hresV))
      have q0 := Mem.cell (j := 0) (v := .int .i64 a) hq rfl
      have q1 := Mem.cell (j := 1) (v := .int .i64 b) hq rfl
      refine bodyPost_ret (v := .tuple #[.agg #[.int .i64 a, .int .i64 b], .int .i64 0]) (by simp [results, Tryz.results27, go_sem, *]) rfl ⟨rfl, ?_⟩
      exact Mem.Ch.below (B := w.heap.size) (S := fun k => w.heap.size ≤ k) (((((((((((Mem.Ch.of_below hb0).trans' (Mem.Ch.of_below' hb2)).trans' (Mem.Ch.of_below' ((Below.refl _ w2).alloc (Nat.le_refl _) _))).trans' (Mem.Ch.of_below' hb3)).trans' (Mem.Ch.of_below' ((Below.refl _ w3).alloc (Nat.le_refl _) _))).trans' (Mem.Ch.of_below' ((Below.refl _ _).alloc (Nat.le_refl _) _))).trans' (Mem.Ch.of_below' hbE)).trans' (Mem.Ch.of_below' hbV))).set (.inl (Nat.le_refl _))).set (.inl (Nat.le_refl _))) (fun k hk hS => by have h : w.heap.size ≤ k := hS; omega) (Nat.le_refl _)
    · rw [if_neg (fun h => h8 h.2)]
      rw [decide_eq_false h8] at hv
      clear h9 h8
      go_enter Tryz.func27, Tryz.ntmps27
      go_wp2_with (first
        | (go_at_call 44; have _t := tok0; refine (h0 _).mono ?_; rintro _ w2 ⟨rfl, hb2⟩; have hres2 := (hb2.block w.heap.size (by simp)).trans hres; have hl2 := Mem.lt hres2; clear tok0)
        | (go_at_call 45; have _t := tok1; refine (h1 _).mono ?_; rintro _ w3 ⟨rfl, hb3⟩; have hres3 := (hb3.block w.heap.size (by simp; omega)).trans (Mem.old hres2 _); have hl3 := Mem.lt hres3; clear tok1)
        | (go_at_call 46; have _t := tok4; refine (k0 _).mono ?_; rintro _ _ ⟨rfl, rfl⟩; clear tok4)
        | (go_at_call 47; refine (he _).mono ?_; rintro _ wE ⟨rfl, hbE⟩; have hnew := Mem.new (w3.alloc (.cells #[.string s1, .int .i64 e1] 94)) (.cells #[.int .i64 a, .int .i64 b] 36); rw [show (w3.alloc (.cells #[.string s1, .int .i64 e1] 94)).heap.size = w3.heap.size + 1 by simp] at hnew; have hvE := (hbE.block (w3.heap.size + 1) (by simp)).trans hnew; have hresE := (hbE.block w.heap.size (by simp; omega)).trans (Mem.old (Mem.old hres3 _) _); have pg0 : wE.frozen? ⟨w.heap.size, 0, none⟩ = false := Mem.free hresE; have pg1 : wE.frozen? ⟨w.heap.size, 1, none⟩ = false := Mem.free hresE; have pr0 : wE.cell? ⟨w.heap.size, 0, none⟩ = some (.int .i64 0) := Mem.cell hresE rfl; have pr1 : wE.cell? ⟨w.heap.size, 1, none⟩ = some (.int .i64 0) := Mem.cell hresE rfl; have qr0 : wE.cell? ⟨w3.heap.size + 1, 0, none⟩ = some (.int .i64 a) := Mem.cell hvE rfl; have qr1 : wE.cell? ⟨w3.heap.size + 1, 1, none⟩ = some (.int .i64 b) := Mem.cell hvE rfl)
        | (go_at_call 48; refine (hv _).mono ?_; rintro _ wV ⟨rfl, hbV⟩; have hvV := (hbV.block (w3.heap.size + 1) (Mem.lt hvE)).trans hvE; have hresV := (hbV.block w.heap.size (Mem.lt hresE)).trans hresE; have yg0 : wV.frozen? ⟨w.heap.size, 0, none⟩ = false := Mem.free hresV; have yg1 : wV.frozen? ⟨w.heap.size, 1, none⟩ = false := Mem.free hresV; have yr0 : wV.cell? ⟨w.heap.size, 0, none⟩ = some (.int .i64 0) := Mem.cell hresV rfl; have yr1 : wV.cell? ⟨w.heap.size, 1, none⟩ = some (.int .i64 0) := Mem.cell hresV rfl; have zr0 : wV.cell? ⟨w3.heap.size + 1, 0, none⟩ = some (.int .i64 a) := Mem.cell hvV rfl; have zr1 : wV.cell? ⟨w3.heap.size + 1, 1, none⟩ = some (.int .i64 b) := Mem.cell hvV rfl))
      have hq := (Mem.set (j := 1) (u := .int .i64 0) (Mem.set (j := 0) (u := .int .i64 0) hresV))
      have q0 := Mem.cell (j := 0) (v := .int .i64 0) hq rfl
      have q1 := Mem.cell (j := 1) (v := .int .i64 0) hq rfl
      refine bodyPost_ret (v := .tuple #[.agg #[.int .i64 0, .int .i64 0], .int .i64 3]) (by simp [results, Tryz.results27, go_sem, *]) rfl ⟨rfl, ?_⟩
      exact Mem.Ch.below (B := w.heap.size) (S := fun k => w.heap.size ≤ k) (((((((((((Mem.Ch.of_below hb0).trans' (Mem.Ch.of_below' hb2)).trans' (Mem.Ch.of_below' ((Below.refl _ w2).alloc (Nat.le_refl _) _))).trans' (Mem.Ch.of_below' hb3)).trans' (Mem.Ch.of_below' ((Below.refl _ w3).alloc (Nat.le_refl _) _))).trans' (Mem.Ch.of_below' ((Below.refl _ _).alloc (Nat.le_refl _) _))).trans' (Mem.Ch.of_below' hbE)).trans' (Mem.Ch.of_below' hbV))).set (.inl (Nat.le_refl _))).set (.inl (Nat.le_refl _))) (fun k hk hS => by have h : w.heap.size ≤ k := hS; omega) (Nat.le_refl _)
  · rw [if_neg (fun h => h9 h.1)]
    go_enter Tryz.func27, Tryz.ntmps27
    go_wp2_with (first
      | (go_at_call 44; have _t := tok0; refine (h0 _).mono ?_; rintro _ w2 ⟨rfl, hb2⟩; have hres2 := (hb2.block w.heap.size (by simp)).trans hres; have hl2 := Mem.lt hres2; clear tok0)
      | (go_at_call 45; have _t := tok1; refine (h1 _).mono ?_; rintro _ w3 ⟨rfl, hb3⟩; have hres3 := (hb3.block w.heap.size (by simp; omega)).trans (Mem.old hres2 _); have hl3 := Mem.lt hres3; clear tok1)
      | (go_at_call 46; have _t := tok4; refine (k0 _).mono ?_; rintro _ _ ⟨rfl, rfl⟩; clear tok4)
      | (go_at_call 47; refine (he _).mono ?_; rintro _ wE ⟨rfl, hbE⟩; have hnew := Mem.new (w3.alloc (.cells #[.string s1, .int .i64 e1] 94)) (.cells #[.int .i64 a, .int .i64 b] 36); rw [show (w3.alloc (.cells #[.string s1, .int .i64 e1] 94)).heap.size = w3.heap.size + 1 by simp] at hnew; have hvE := (hbE.block (w3.heap.size + 1) (by simp)).trans hnew; have hresE := (hbE.block w.heap.size (by simp; omega)).trans (Mem.old (Mem.old hres3 _) _); have pg0 : wE.frozen? ⟨w.heap.size, 0, none⟩ = false := Mem.free hresE; have pg1 : wE.frozen? ⟨w.heap.size, 1, none⟩ = false := Mem.free hresE; have pr0 : wE.cell? ⟨w.heap.size, 0, none⟩ = some (.int .i64 0) := Mem.cell hresE rfl; have pr1 : wE.cell? ⟨w.heap.size, 1, none⟩ = some (.int .i64 0) := Mem.cell hresE rfl; have qr0 : wE.cell? ⟨w3.heap.size + 1, 0, none⟩ = some (.int .i64 a) := Mem.cell hvE rfl; have qr1 : wE.cell? ⟨w3.heap.size + 1, 1, none⟩ = some (.int .i64 b) := Mem.cell hvE rfl))
    have hq := (Mem.set (j := 1) (u := .int .i64 0) (Mem.set (j := 0) (u := .int .i64 0) hresE))
    have q0 := Mem.cell (j := 0) (v := .int .i64 0) hq rfl
    have q1 := Mem.cell (j := 1) (v := .int .i64 0) hq rfl
    refine bodyPost_ret (v := .tuple #[.agg #[.int .i64 0, .int .i64 0], .int .i64 3]) (by simp [results, Tryz.results27, go_sem, *]) rfl ⟨rfl, ?_⟩
    exact Mem.Ch.below (B := w.heap.size) (S := fun k => w.heap.size ≤ k) ((((((((((Mem.Ch.of_below hb0).trans' (Mem.Ch.of_below' hb2)).trans' (Mem.Ch.of_below' ((Below.refl _ w2).alloc (Nat.le_refl _) _))).trans' (Mem.Ch.of_below' hb3)).trans' (Mem.Ch.of_below' ((Below.refl _ w3).alloc (Nat.le_refl _) _))).trans' (Mem.Ch.of_below' ((Below.refl _ _).alloc (Nat.le_refl _) _))).trans' (Mem.Ch.of_below' hbE))).set (.inl (Nat.le_refl _))).set (.inl (Nat.le_refl _))) (fun k hk hS => by have h : w.heap.size ≤ k := hS; omega) (Nat.le_refl _)
set_option maxRecDepth 100000 in
set_option maxHeartbeats 8000000 in
theorem rreadS_any (s : ByteArray) (w : World) (hs : s.size ≤ 140737488351232) : Calls Tryz.prog 29 #[.string s] w fun r w' => r = .returned (.tuple #[(Sn.read s).1.val, .int .i64 (Sn.read s).2]) ∧ Below w.heap.size w w' := by
  have tok0 : True := trivial
  have tok1 : True := trivial
  have tok2 : True := trivial
  have tok3 : True := trivial
  have tok4 : True := trivial
  have tok5 : True := trivial
  have tok6 : True := trivial
  have tok7 : True := trivial
  have tok8 : True := trivial
  have hres := Mem.new w (.cells #[.int .i64 0, .int .i64 0, .int .i64 0, .string ⟨#[]⟩] 43)
  have hb0 : Below w.heap.size w (w.alloc (.cells #[.int .i64 0, .int .i64 0, .int .i64 0, .string ⟨#[]⟩] 43)) := (Below.refl _ w).alloc (Nat.le_refl _) _
  unfold Sn.read Sn.rd Sn.val
  dsimp only
  have h0 := fun W => rtpnum_any s 0 W hs
  have z0 := Tp.num_size ⟨s, 0⟩
  dsimp only at z0
  generalize Tp.num ⟨s, 0⟩ = x at h0 z0 ⊢
  obtain ⟨⟨s0, e0⟩, n0⟩ := x
  unfold Tp.val at h0
  dsimp only at h0 z0 ⊢
  have h1 := fun W => rtpnum_any s0 e0 W (by omega)
  have z1 := Tp.num_size ⟨s0, e0⟩
  dsimp only at z1
  generalize Tp.num ⟨s0, e0⟩ = x at h1 z1 ⊢
  obtain ⟨⟨s1, e1⟩, n1⟩ := x
  unfold Tp.val at h1
  dsimp only at h1 z1 ⊢
  have h2 := fun W => rtpnum_any s1 e1 W (by omega)
  have z2 := Tp.num_size ⟨s1, e1⟩
  dsimp only at z2
  generalize Tp.num ⟨s1, e1⟩ = x at h2 z2 ⊢
  obtain ⟨⟨s2, e2⟩, n2⟩ := x
  unfold Tp.val at h2
  dsimp only at h2 z2 ⊢
  have h3 := fun W => rtptext_any s2 e2 W (by omega)
  generalize Tp.text 262144 ⟨s2, e2⟩ = x at h3 ⊢
  obtain ⟨⟨s3, e3⟩, t⟩ := x
  unfold Tp.val at h3
  dsimp only at h3 ⊢
  have k0 := fun W => rnumber_any n0 W
  generalize numN n0 = a at k0 ⊢
  have k1 := fun W => rnumber_any n1 W
  generalize numN n1 = b at k1 ⊢
  have k2 := fun W => rnumber_any n2 W
  generalize numN n2 = c at k2 ⊢
  have hv := fun W => rmay_any ⟨a, b, c, t⟩ W
  have he := fun W => rend_any s3 e3 W
  unfold Sn.val at hv
  unfold Tp.val at he
  dsimp only at hv he
  by_cases h9 : Tp.ends ⟨s3, e3⟩ = 0
  · rw [h9] at he
    by_cases h8 : Sn.ok ⟨a, b, c, t⟩
    · rw [if_pos ⟨h9, h8⟩]
      rw [decide_eq_true h8] at hv
      clear h9 h8
      go_enter Tryz.func29, Tryz.ntmps29
      go_wp2_with (first
        | (go_at_call 44; have _t := tok0; refine (h0 _).mono ?_; rintro _ w2 ⟨rfl, hb2⟩; have hres2 := (hb2.block w.heap.size (by simp)).trans hres; have hl2 := Mem.lt hres2; clear tok0)
        | (go_at_call 44; have _t := tok1; refine (h1 _).mono ?_; rintro _ w3 ⟨rfl, hb3⟩; have hres3 := (hb3.block w.heap.size (by simp; omega)).trans (Mem.old hres2 _); have hl3 := Mem.lt hres3; clear tok1)
        | (go_at_call 44; have _t := tok2; refine (h2 _).mono ?_; rintro _ w4 ⟨rfl, hb4⟩; have hres4 := (hb4.block w.heap.size (by simp; omega)).trans (Mem.old hres3 _); have hl4 := Mem.lt hres4; clear tok2)
        | (go_at_call 53; have _t := tok3; refine (h3 _).mono ?_; rintro _ w5 ⟨rfl, hb5⟩; have hres5 := (hb5.block w.heap.size (by simp; omega)).trans (Mem.old hres4 _); have hl5 := Mem.lt hres5; clear tok3)
        | (go_at_call 46; have _t := tok4; refine (k0 _).mono ?_; rintro _ _ ⟨rfl, rfl⟩; clear tok4)
        | (go_at_call 46; have _t := tok5; refine (k1 _).mono ?_; rintro _ _ ⟨rfl, rfl⟩; clear tok5)
        | (go_at_call 46; have _t := tok6; refine (k2 _).mono ?_; rintro _ _ ⟨rfl, rfl⟩; clear tok6)
        | (go_at_call 47; refine (he _).mono ?_; rintro _ wE ⟨rfl, hbE⟩; have hnew := Mem.new (w5.alloc (.cells #[.string s3, .int .i64 e3] 94)) (.cells #[.int .i64 a, .int .i64 b, .int .i64 c, .string t] 43); rw [show (w5.alloc (.cells #[.string s3, .int .i64 e3] 94)).heap.size = w5.heap.size + 1 by simp] at hnew; have hvE := (hbE.block (w5.heap.size + 1) (by simp)).trans hnew; have hresE := (hbE.block w.heap.size (by simp; omega)).trans (Mem.old (Mem.old hres5 _) _); have pg0 : wE.frozen? ⟨w.heap.size, 0, none⟩ = false := Mem.free hresE; have pg1 : wE.frozen? ⟨w.heap.size, 1, none⟩ = false := Mem.free hresE; have pg2 : wE.frozen? ⟨w.heap.size, 2, none⟩ = false := Mem.free hresE; have pg3 : wE.frozen? ⟨w.heap.size, 3, none⟩ = false := Mem.free hresE; have pr0 : wE.cell? ⟨w.heap.size, 0, none⟩ = some (.int .i64 0) := Mem.cell hresE rfl; have pr1 : wE.cell? ⟨w.heap.size, 1, none⟩ = some (.int .i64 0) := Mem.cell hresE rfl; have pr2 : wE.cell? ⟨w.heap.size, 2, none⟩ = some (.int .i64 0) := Mem.cell hresE rfl; have pr3 : wE.cell? ⟨w.heap.size, 3, none⟩ = some (.string ⟨#[]⟩) := Mem.cell hresE rfl; have qr0 : wE.cell? ⟨w5.heap.size + 1, 0, none⟩ = some (.int .i64 a) := Mem.cell hvE rfl; have qr1 : wE.cell? ⟨w5.heap.size + 1, 1, none⟩ = some (.int .i64 b) := Mem.cell hvE rfl; have qr2 : wE.cell? ⟨w5.heap.size + 1, 2, none⟩ = some (.int .i64 c) := Mem.cell hvE rfl; have qr3 : wE.cell? ⟨w5.heap.size + 1, 3, none⟩ = some (.string t) := Mem.cell hvE rfl)
        | (go_at_call 54; refine (hv _).mono ?_; rintro _ wV ⟨rfl, hbV⟩; have hvV := (hbV.block (w5.heap.size + 1) (Mem.lt hvE)).trans hvE; have hresV := (hbV.block w.heap.size (Mem.lt hresE)).trans hresE; have yg0 : wV.frozen? ⟨w.heap.size, 0, none⟩ = false := Mem.free hresV; have yg1 : wV.frozen? ⟨w.heap.size, 1, none⟩ = false := Mem.free hresV; have yg2 : wV.frozen? ⟨w.heap.size, 2, none⟩ = false := Mem.free hresV; have yg3 : wV.frozen? ⟨w.heap.size, 3, none⟩ = false := Mem.free hresV; have yr0 : wV.cell? ⟨w.heap.size, 0, none⟩ = some (.int .i64 0) := Mem.cell hresV rfl; have yr1 : wV.cell? ⟨w.heap.size, 1, none⟩ = some (.int .i64 0) := Mem.cell hresV rfl; have yr2 : wV.cell? ⟨w.heap.size, 2, none⟩ = some (.int .i64 0) := Mem.cell hresV rfl; have yr3 : wV.cell? ⟨w.heap.size, 3, none⟩ = some (.string ⟨#[]⟩) := Mem.cell hresV rfl; have zr0 : wV.cell? ⟨w5.heap.size + 1, 0, none⟩ = some (.int .i64 a) := Mem.cell hvV rfl; have zr1 : wV.cell? ⟨w5.heap.size + 1, 1, none⟩ = some (.int .i64 b) := Mem.cell hvV rfl; have zr2 : wV.cell? ⟨w5.heap.size + 1, 2, none⟩ = some (.int .i64 c) := Mem.cell hvV rfl; have zr3 : wV.cell? ⟨w5.heap.size + 1, 3, none⟩ = some (.string t) := Mem.cell hvV rfl))
      have hq := (Mem.set (j := 3) (u := .string t) (Mem.set (j := 2) (u := .int .i64 c) (Mem.set (j := 1) (u := .int .i64 b) (Mem.set (j := 0) (u := .int .i64 a) hresV))))
      have q0 := Mem.cell (j := 0) (v := .int .i64 a) hq rfl
      have q1 := Mem.cell (j := 1) (v := .int .i64 b) hq rfl
      have q2 := Mem.cell (j := 2) (v := .int .i64 c) hq rfl
      have q3 := Mem.cell (j := 3) (v := .string t) hq rfl
      refine bodyPost_ret (v := .tuple #[.agg #[.int .i64 a, .int .i64 b, .int .i64 c, .string t], .int .i64 0]) (by simp [results, Tryz.results29, go_sem, *]) rfl ⟨rfl, ?_⟩
      exact Mem.Ch.below (B := w.heap.size) (S := fun k => w.heap.size ≤ k) (((((((((((((((((Mem.Ch.of_below hb0).trans' (Mem.Ch.of_below' hb2)).trans' (Mem.Ch.of_below' ((Below.refl _ w2).alloc (Nat.le_refl _) _))).trans' (Mem.Ch.of_below' hb3)).trans' (Mem.Ch.of_below' ((Below.refl _ w3).alloc (Nat.le_refl _) _))).trans' (Mem.Ch.of_below' hb4)).trans' (Mem.Ch.of_below' ((Below.refl _ w4).alloc (Nat.le_refl _) _))).trans' (Mem.Ch.of_below' hb5)).trans' (Mem.Ch.of_below' ((Below.refl _ w5).alloc (Nat.le_refl _) _))).trans' (Mem.Ch.of_below' ((Below.refl _ _).alloc (Nat.le_refl _) _))).trans' (Mem.Ch.of_below' hbE)).trans' (Mem.Ch.of_below' hbV))).set (.inl (Nat.le_refl _))).set (.inl (Nat.le_refl _))).set (.inl (Nat.le_refl _))).set (.inl (Nat.le_refl _))) (fun k hk hS => by have h : w.heap.size ≤ k := hS; omega) (Nat.le_refl _)
    · rw [if_neg (fun h => h8 h.2)]
      rw [decide_eq_false h8] at hv
      clear h9 h8
      go_enter Tryz.func29, Tryz.ntmps29
      go_wp2_with (first
        | (go_at_call 44; have _t := tok0; refine (h0 _).mono ?_; rintro _ w2 ⟨rfl, hb2⟩; have hres2 := (hb2.block w.heap.size (by simp)).trans hres; have hl2 := Mem.lt hres2; clear tok0)
        | (go_at_call 44; have _t := tok1; refine (h1 _).mono ?_; rintro _ w3 ⟨rfl, hb3⟩; have hres3 := (hb3.block w.heap.size (by simp; omega)).trans (Mem.old hres2 _); have hl3 := Mem.lt hres3; clear tok1)
        | (go_at_call 44; have _t := tok2; refine (h2 _).mono ?_; rintro _ w4 ⟨rfl, hb4⟩; have hres4 := (hb4.block w.heap.size (by simp; omega)).trans (Mem.old hres3 _); have hl4 := Mem.lt hres4; clear tok2)
        | (go_at_call 53; have _t := tok3; refine (h3 _).mono ?_; rintro _ w5 ⟨rfl, hb5⟩; have hres5 := (hb5.block w.heap.size (by simp; omega)).trans (Mem.old hres4 _); have hl5 := Mem.lt hres5; clear tok3)
        | (go_at_call 46; have _t := tok4; refine (k0 _).mono ?_; rintro _ _ ⟨rfl, rfl⟩; clear tok4)
        | (go_at_call 46; have _t := tok5; refine (k1 _).mono ?_; rintro _ _ ⟨rfl, rfl⟩; clear tok5)
        | (go_at_call 46; have _t := tok6; refine (k2 _).mono ?_; rintro _ _ ⟨rfl, rfl⟩; clear tok6)
        | (go_at_call 47; refine (he _).mono ?_; rintro _ wE ⟨rfl, hbE⟩; have hnew := Mem.new (w5.alloc (.cells #[.string s3, .int .i64 e3] 94)) (.cells #[.int .i64 a, .int .i64 b, .int .i64 c, .string t] 43); rw [show (w5.alloc (.cells #[.string s3, .int .i64 e3] 94)).heap.size = w5.heap.size + 1 by simp] at hnew; have hvE := (hbE.block (w5.heap.size + 1) (by simp)).trans hnew; have hresE := (hbE.block w.heap.size (by simp; omega)).trans (Mem.old (Mem.old hres5 _) _); have pg0 : wE.frozen? ⟨w.heap.size, 0, none⟩ = false := Mem.free hresE; have pg1 : wE.frozen? ⟨w.heap.size, 1, none⟩ = false := Mem.free hresE; have pg2 : wE.frozen? ⟨w.heap.size, 2, none⟩ = false := Mem.free hresE; have pg3 : wE.frozen? ⟨w.heap.size, 3, none⟩ = false := Mem.free hresE; have pr0 : wE.cell? ⟨w.heap.size, 0, none⟩ = some (.int .i64 0) := Mem.cell hresE rfl; have pr1 : wE.cell? ⟨w.heap.size, 1, none⟩ = some (.int .i64 0) := Mem.cell hresE rfl; have pr2 : wE.cell? ⟨w.heap.size, 2, none⟩ = some (.int .i64 0) := Mem.cell hresE rfl; have pr3 : wE.cell? ⟨w.heap.size, 3, none⟩ = some (.string ⟨#[]⟩) := Mem.cell hresE rfl; have qr0 : wE.cell? ⟨w5.heap.size + 1, 0, none⟩ = some (.int .i64 a) := Mem.cell hvE rfl; have qr1 : wE.cell? ⟨w5.heap.size + 1, 1, none⟩ = some (.int .i64 b) := Mem.cell hvE rfl; have qr2 : wE.cell? ⟨w5.heap.size + 1, 2, none⟩ = some (.int .i64 c) := Mem.cell hvE rfl; have qr3 : wE.cell? ⟨w5.heap.size + 1, 3, none⟩ = some (.string t) := Mem.cell hvE rfl)
        | (go_at_call 54; refine (hv _).mono ?_; rintro _ wV ⟨rfl, hbV⟩; have hvV := (hbV.block (w5.heap.size + 1) (Mem.lt hvE)).trans hvE; have hresV := (hbV.block w.heap.size (Mem.lt hresE)).trans hresE; have yg0 : wV.frozen? ⟨w.heap.size, 0, none⟩ = false := Mem.free hresV; have yg1 : wV.frozen? ⟨w.heap.size, 1, none⟩ = false := Mem.free hresV; have yg2 : wV.frozen? ⟨w.heap.size, 2, none⟩ = false := Mem.free hresV; have yg3 : wV.frozen? ⟨w.heap.size, 3, none⟩ = false := Mem.free hresV; have yr0 : wV.cell? ⟨w.heap.size, 0, none⟩ = some (.int .i64 0) := Mem.cell hresV rfl; have yr1 : wV.cell? ⟨w.heap.size, 1, none⟩ = some (.int .i64 0) := Mem.cell hresV rfl; have yr2 : wV.cell? ⟨w.heap.size, 2, none⟩ = some (.int .i64 0) := Mem.cell hresV rfl; have yr3 : wV.cell? ⟨w.heap.size, 3, none⟩ = some (.string ⟨#[]⟩) := Mem.cell hresV rfl; have zr0 : wV.cell? ⟨w5.heap.size + 1, 0, none⟩ = some (.int .i64 a) := Mem.cell hvV rfl; have zr1 : wV.cell? ⟨w5.heap.size + 1, 1, none⟩ = some (.int .i64 b) := Mem.cell hvV rfl; have zr2 : wV.cell? ⟨w5.heap.size + 1, 2, none⟩ = some (.int .i64 c) := Mem.cell hvV rfl; have zr3 : wV.cell? ⟨w5.heap.size + 1, 3, none⟩ = some (.string t) := Mem.cell hvV rfl))
      have hq := (Mem.set (j := 3) (u := .string ⟨#[]⟩) (Mem.set (j := 2) (u := .int .i64 0) (Mem.set (j := 1) (u := .int .i64 0) (Mem.set (j := 0) (u := .int .i64 0) hresV))))
      have q0 := Mem.cell (j := 0) (v := .int .i64 0) hq rfl
      have q1 := Mem.cell (j := 1) (v := .int .i64 0) hq rfl
      have q2 := Mem.cell (j := 2) (v := .int .i64 0) hq rfl
      have q3 := Mem.cell (j := 3) (v := .string ⟨#[]⟩) hq rfl
      refine bodyPost_ret (v := .tuple #[.agg #[.int .i64 0, .int .i64 0, .int .i64 0, .string ⟨#[]⟩], .int .i64 3]) (by simp [results, Tryz.results29, go_sem, *]) rfl ⟨rfl, ?_⟩
      exact Mem.Ch.below (B := w.heap.size) (S := fun k => w.heap.size ≤ k) (((((((((((((((((Mem.Ch.of_below hb0).trans' (Mem.Ch.of_below' hb2)).trans' (Mem.Ch.of_below' ((Below.refl _ w2).alloc (Nat.le_refl _) _))).trans' (Mem.Ch.of_below' hb3)).trans' (Mem.Ch.of_below' ((Below.refl _ w3).alloc (Nat.le_refl _) _))).trans' (Mem.Ch.of_below' hb4)).trans' (Mem.Ch.of_below' ((Below.refl _ w4).alloc (Nat.le_refl _) _))).trans' (Mem.Ch.of_below' hb5)).trans' (Mem.Ch.of_below' ((Below.refl _ w5).alloc (Nat.le_refl _) _))).trans' (Mem.Ch.of_below' ((Below.refl _ _).alloc (Nat.le_refl _) _))).trans' (Mem.Ch.of_below' hbE)).trans' (Mem.Ch.of_below' hbV))).set (.inl (Nat.le_refl _))).set (.inl (Nat.le_refl _))).set (.inl (Nat.le_refl _))).set (.inl (Nat.le_refl _))) (fun k hk hS => by have h : w.heap.size ≤ k := hS; omega) (Nat.le_refl _)
  · rw [if_neg (fun h => h9 h.1)]
    go_enter Tryz.func29, Tryz.ntmps29
    go_wp2_with (first
      | (go_at_call 44; have _t := tok0; refine (h0 _).mono ?_; rintro _ w2 ⟨rfl, hb2⟩; have hres2 := (hb2.block w.heap.size (by simp)).trans hres; have hl2 := Mem.lt hres2; clear tok0)
      | (go_at_call 44; have _t := tok1; refine (h1 _).mono ?_; rintro _ w3 ⟨rfl, hb3⟩; have hres3 := (hb3.block w.heap.size (by simp; omega)).trans (Mem.old hres2 _); have hl3 := Mem.lt hres3; clear tok1)
      | (go_at_call 44; have _t := tok2; refine (h2 _).mono ?_; rintro _ w4 ⟨rfl, hb4⟩; have hres4 := (hb4.block w.heap.size (by simp; omega)).trans (Mem.old hres3 _); have hl4 := Mem.lt hres4; clear tok2)
      | (go_at_call 53; have _t := tok3; refine (h3 _).mono ?_; rintro _ w5 ⟨rfl, hb5⟩; have hres5 := (hb5.block w.heap.size (by simp; omega)).trans (Mem.old hres4 _); have hl5 := Mem.lt hres5; clear tok3)
      | (go_at_call 46; have _t := tok4; refine (k0 _).mono ?_; rintro _ _ ⟨rfl, rfl⟩; clear tok4)
      | (go_at_call 46; have _t := tok5; refine (k1 _).mono ?_; rintro _ _ ⟨rfl, rfl⟩; clear tok5)
      | (go_at_call 46; have _t := tok6; refine (k2 _).mono ?_; rintro _ _ ⟨rfl, rfl⟩; clear tok6)
      | (go_at_call 47; refine (he _).mono ?_; rintro _ wE ⟨rfl, hbE⟩; have hnew := Mem.new (w5.alloc (.cells #[.string s3, .int .i64 e3] 94)) (.cells #[.int .i64 a, .int .i64 b, .int .i64 c, .string t] 43); rw [show (w5.alloc (.cells #[.string s3, .int .i64 e3] 94)).heap.size = w5.heap.size + 1 by simp] at hnew; have hvE := (hbE.block (w5.heap.size + 1) (by simp)).trans hnew; have hresE := (hbE.block w.heap.size (by simp; omega)).trans (Mem.old (Mem.old hres5 _) _); have pg0 : wE.frozen? ⟨w.heap.size, 0, none⟩ = false := Mem.free hresE; have pg1 : wE.frozen? ⟨w.heap.size, 1, none⟩ = false := Mem.free hresE; have pg2 : wE.frozen? ⟨w.heap.size, 2, none⟩ = false := Mem.free hresE; have pg3 : wE.frozen? ⟨w.heap.size, 3, none⟩ = false := Mem.free hresE; have pr0 : wE.cell? ⟨w.heap.size, 0, none⟩ = some (.int .i64 0) := Mem.cell hresE rfl; have pr1 : wE.cell? ⟨w.heap.size, 1, none⟩ = some (.int .i64 0) := Mem.cell hresE rfl; have pr2 : wE.cell? ⟨w.heap.size, 2, none⟩ = some (.int .i64 0) := Mem.cell hresE rfl; have pr3 : wE.cell? ⟨w.heap.size, 3, none⟩ = some (.string ⟨#[]⟩) := Mem.cell hresE rfl; have qr0 : wE.cell? ⟨w5.heap.size + 1, 0, none⟩ = some (.int .i64 a) := Mem.cell hvE rfl; have qr1 : wE.cell? ⟨w5.heap.size + 1, 1, none⟩ = some (.int .i64 b) := Mem.cell hvE rfl; have qr2 : wE.cell? ⟨w5.heap.size + 1, 2, none⟩ = some (.int .i64 c) := Mem.cell hvE rfl; have qr3 : wE.cell? ⟨w5.heap.size + 1, 3, none⟩ = some (.string t) := Mem.cell hvE rfl))
    have hq := (Mem.set (j := 3) (u := .string ⟨#[]⟩) (Mem.set (j := 2) (u := .int .i64 0) (Mem.set (j := 1) (u := .int .i64 0) (Mem.set (j := 0) (u := .int .i64 0) hresE))))
    have q0 := Mem.cell (j := 0) (v := .int .i64 0) hq rfl
    have q1 := Mem.cell (j := 1) (v := .int .i64 0) hq rfl
    have q2 := Mem.cell (j := 2) (v := .int .i64 0) hq rfl
    have q3 := Mem.cell (j := 3) (v := .string ⟨#[]⟩) hq rfl
    refine bodyPost_ret (v := .tuple #[.agg #[.int .i64 0, .int .i64 0, .int .i64 0, .string ⟨#[]⟩], .int .i64 3]) (by simp [results, Tryz.results29, go_sem, *]) rfl ⟨rfl, ?_⟩
    exact Mem.Ch.below (B := w.heap.size) (S := fun k => w.heap.size ≤ k) ((((((((((((((((Mem.Ch.of_below hb0).trans' (Mem.Ch.of_below' hb2)).trans' (Mem.Ch.of_below' ((Below.refl _ w2).alloc (Nat.le_refl _) _))).trans' (Mem.Ch.of_below' hb3)).trans' (Mem.Ch.of_below' ((Below.refl _ w3).alloc (Nat.le_refl _) _))).trans' (Mem.Ch.of_below' hb4)).trans' (Mem.Ch.of_below' ((Below.refl _ w4).alloc (Nat.le_refl _) _))).trans' (Mem.Ch.of_below' hb5)).trans' (Mem.Ch.of_below' ((Below.refl _ w5).alloc (Nat.le_refl _) _))).trans' (Mem.Ch.of_below' ((Below.refl _ _).alloc (Nat.le_refl _) _))).trans' (Mem.Ch.of_below' hbE))).set (.inl (Nat.le_refl _))).set (.inl (Nat.le_refl _))).set (.inl (Nat.le_refl _))).set (.inl (Nat.le_refl _))) (fun k hk hS => by have h : w.heap.size ≤ k := hS; omega) (Nat.le_refl _)
end Go.Proofs.YtpdceondgbgpkaaGreatDoor
