/- shelf: the law's example: awake: the walk. -/
import Derived.Test.YtbpnhaeladcbnaaDoorShl7
namespace Go.Proofs.YtbpnhaeladcbnaaDoor
open Go.RowKit
set_option linter.unusedSimpArgs false
set_option linter.unusedVariables false
open Dsk (DiskAt Dk Gr)
open Shf
theorem save3 {w W : World} {S : Nat → Prop} {p : Nat} (hS : ∀ k, W.heap.size ≤ k → S k) (h : DiskAt W S p 0 Dk.new) : Calls Tryd.prog 21 #[.pointer (some ⟨p, 0, none⟩), .agg #[.int .i64 3, .int .i64 1]] W fun r w' => r = .returned (.int .i64 0) ∧ Mem.Ch S W w' ∧ DiskAt w' S p 3 d3 := by
  refine (saveV_by p v3 t3 0 (fun W' w' => Mem.Ch S W' w' ∧ DiskAt w' S p 3 d3) (by unfold IsI64 v3; decide) text3 W (fun W' hW => ?_)).mono ?_
  · exact save_new S p _ rfl W' (fun k hk => hS k (Nat.le_trans hW.size hk)) (h.below hW)
  · rintro _ w' ⟨rfl, W', hb, h1, h2⟩
    exact ⟨rfl, (Mem.Ch.of_below' hb).trans' h1, h2⟩
abbrev vz : Obj := .cells #[.int .i64 0, .int .i64 (-1)] 26
abbrev sz : Obj := .cells #[.int .i64 0, .int .i64 0, .int .i64 0, .string ⟨#[]⟩] 28
abbrev v31 : Obj := .cells #[.int .i64 3, .int .i64 1] 26
set_option maxRecDepth 100000 in
set_option maxHeartbeats 4000000 in
theorem awake7_any (w : World) : Calls Tryd.prog 6 #[] w fun r w' => r = .returned (.bool true) ∧ Below w.heap.size w w' := by
  have tok1 : True := trivial
  go_enter Tryd.func6, Tryd.ntmps6
  go_wp2_with (first
    | (go_at_call 5; refine (Dsk.New_any _).mono ?_; rintro _ w1 ⟨p, rfl, hb1, hD1⟩)
    | (go_at_call 19; have _t := tok1; refine (loadV_new hD1).mono ?_; rintro _ w2 ⟨rfl, hb2⟩; have x2 := Mem.new w2 vz; have hb2a : Below w2.heap.size w2 (w2.alloc vz) := (Below.refl _ _).alloc (Nat.le_refl _) _; have hD2 := (hD1.below hb2).below hb2a; clear tok1)
    | (go_at_call 20; refine (loadS_new hD2).mono ?_; rintro _ w3 ⟨rfl, hb3⟩; have x3 := Mem.old ((hb3.block w2.heap.size (by simp)).trans x2) sz; have hb3a : Below w3.heap.size w3 (w3.alloc sz) := (Below.refl _ _).alloc (Nat.le_refl _) _; have hD3 := (hD2.below hb3).below hb3a; have h12 := hb2.size; have h01 := hb1.size; have h23 := hb3.size; have hD3' : DiskAt (w3.alloc sz) (Dsk.Off w.heap.size w2.heap.size (w3.heap.size + 1)) p 0 Dk.new := hD3.mono (fun k hk => ⟨hk.1, .inl (by omega)⟩))
    | (go_at_call 21; refine (save3 (w := w) (fun k hk => ⟨by simp at hk h23; omega, .inr (by simpa using hk)⟩) hD3').mono ?_; rintro _ w4 ⟨rfl, hc4, hD4⟩; have x4 := hc4.at_ x3 (fun h => by rcases h.2 with h | h; exact absurd h (Nat.lt_irrefl _); exact absurd (Mem.lt x3) (by simp; omega)))
    | (go_at_call 19; refine (loadV_3 hD4).mono ?_; rintro _ w5 ⟨rfl, hb5⟩; have x5 := (hb5.block w2.heap.size (Mem.lt x4)).trans x4; have hl5 := Mem.lt x5; have y0 : w5.cell? ⟨w2.heap.size, 0, none⟩ = some (.int .i64 0) := Mem.cell x5 rfl; have y1 : w5.cell? ⟨w2.heap.size, 1, none⟩ = some (.int .i64 (-1)) := Mem.cell x5 rfl))
  go_ret
  have a1 := hb1.trans (hb2.mono h01)
  have a2 := a1.trans (hb2a.mono a1.size)
  have a3 := a2.trans (hb3.mono a2.size)
  have a4 := a3.trans (hb3a.mono a3.size)
  have a5 := a4.trans (Mem.Ch.below (B := w.heap.size) hc4 (fun k hk hS => by have := hS.1; omega) a4.size)
  have a6 := a5.trans (hb5.mono a5.size)
  exact ⟨rfl, a6.alloc a6.size _⟩
end Go.Proofs.YtbpnhaeladcbnaaDoor
