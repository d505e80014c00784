/- The document's teller: Told, an event is refused. -/
import Derived.Test.YtbiicflcjipeeaaRTold3
namespace Go.Proofs.Ytbiicflcjipeeaa
open Go.RowKit
set_option linter.unusedSimpArgs false
set_option linter.unusedVariables false
open Sp (fold intB textS bs)
attribute [local go_sem] Mem.run_store_float Mem.After.cell
set_option maxRecDepth 100000 in
set_option maxHeartbeats 4000000 in
theorem rTold_stamp (nodes to id seq num lead : Int) (A B : Option Addr) (n m c d : Nat) (e : Evt) (vf : Value) (l lr : List (Evt × Value)) (ok : Nat → Prop) (w : World) (h : REvs w ok (.slice A n c) ((e, vf) :: l)) (hb : REvs w ok (.slice B m d) lr) (hm : lr.length ≤ 1000) (hi : id ≠ 0) :
    Calls Try.prog 12 #[rtl nodes to id seq (.slice A n c) (.slice B m d), .int .i64 130, .int .i64 num, .int .i64 lead] w
      fun r w' => ∃ v' v2, r = .returned (rtl nodes to id seq v' v2) ∧ REvs w' ok v' l ∧ w'.ownsRow w.heap.size 42 5 v2 (lr.length + 1) (evs (lr ++ [(e, vf)])) ∧ Below w.heap.size w w' := by
  have hev : EvR w ok e vf := h.2 (e, vf) List.mem_cons_self
  obtain ⟨g, o, rfl, hg, hlg, hrow⟩ := h.1.row (k := 0) (r := evC e vf) rfl
  obtain ⟨Af, cf, rfl⟩ := hev.slice
  have x0 : w.cell? ⟨g, o, none⟩ = some (.int .i64 e.session) := by simpa using hrow 0 _ rfl
  have x1 : w.cell? ⟨g, o + 1, none⟩ = some (.int .i64 e.seq) := by simpa using hrow 1 _ rfl
  have x2 : w.cell? ⟨g, o + 2, none⟩ = some (.int .i64 e.stamp) := by simpa using hrow 2 _ rfl
  have x3 : w.cell? ⟨g, o + 3, none⟩ = some (.string e.kind) := by simpa using hrow 3 _ rfl
  have x4 : w.cell? ⟨g, o + 4, none⟩ = some (.slice Af e.fields.length cf) := by simpa using hrow 4 _ rfl
  have hn : 0 < n ∧ n ≤ c := by
    obtain ⟨A', c', ea, h1, _⟩ := h.1
    cases ea
    exact ⟨by simp [evRows], h1⟩
  obtain ⟨hn, hnc⟩ := hn
  have HH := Lib.hid h
  have HB := Lib.hid hb
  have HE := Lib.hid hev
  clear hrow h hb hev
  have hn' : (0 : Int) < (n : Int) := by omega
  have hi' : (id == 0) = false := by simpa using hi
  go_enter Try.func12, Try.ntmps12
  go_wp2_with fail
  go_region_law (
    (refine step_goes rfl rfl Try.func40 (by kernel_rfl) rfl #[.slice B m d, .agg #[.int .i64 e.session, .int .i64 e.seq, .int .i64 e.stamp, .string e.kind, .slice Af e.fields.length cf]] (by simp [Act.eval]) ?_
     refine (put_any (fun _ => True) _ _ lr e _ ((HB.out.mono (fun _ _ => trivial)).below (by with_reducible repeat (first | exact Below.refl _ _ | refine Below.alloc ?_ (by simp) _ | refine Below.drew ?_))) (Mem.Rd.below (w := w) (Mem.Rd.mono HE.out (fun _ _ => trivial)) (by with_reducible repeat (first | exact Below.refl _ _ | refine Below.alloc ?_ (by simp) _ | refine Below.drew ?_))) hm).mono ?_
     rintro _ w2 ⟨v2, rfl, hown, hb2⟩
     obtain ⟨A2, c2', rfl, _⟩ := Qu.q_slice (Qu.q_of_own hown)
     obtain ⟨hbl, hX, hZ⟩ := two_kept (w := w) (A := .cells #[.int .i64 nodes, .int .i64 to, .int .i64 id, .int .i64 seq, .slice (some ⟨g, o, none⟩) n c, .slice B m d] 28) (B := .cells #[.int .i64 0, .int .i64 0, .int .i64 0, .int .i64 0, .slice none 0 0, .slice none 0 0] 28) ⟨hb2.os, hb2.tape, hb2.output, hb2.size, hb2.block⟩
     have s0 := Mem.cell hX (j := 0) rfl
     have s1 := Mem.cell hX (j := 1) rfl
     have s2 := Mem.cell hX (j := 2) rfl
     have s3 := Mem.cell hX (j := 3) rfl
     have s4 := Mem.cell hX (j := 4) rfl
     have s5 := Mem.cell hX (j := 5) rfl
     have i4 := Mem.free (j := 4) hX
     have i5 := Mem.free (j := 5) hX
     have z0 := Mem.cell hZ (j := 0) rfl
     have z1 := Mem.cell hZ (j := 1) rfl
     have z2 := Mem.cell hZ (j := 2) rfl
     have z3 := Mem.cell hZ (j := 3) rfl
     have z4 := Mem.cell hZ (j := 4) rfl
     have z5 := Mem.cell hZ (j := 5) rfl
     have y0 := Mem.free (j := 0) hZ
     have y1 := Mem.free (j := 1) hZ
     have y2 := Mem.free (j := 2) hZ
     have y3 := Mem.free (j := 3) hZ
     have y4 := Mem.free (j := 4) hZ
     have y5 := Mem.free (j := 5) hZ
     have hlZ := Mem.lt hZ
     have HF := Lib.hid (And.intro hown hbl)
     clear hown hbl hb2 hX hZ
     refine ⟨_, rfl, ?_⟩))
  all_goals go_wp2_with fail
  all_goals first
    | (refine bodyPost_ret (v := rtl nodes to id seq (.slice (some ⟨g, o, none⟩) (n - 1) 0) (.slice A2 (lr.length + 1) c2')) (by simp [results, Try.results12, go_sem, *]) rfl ⟨_, _, rfl, ?_, ?_, ?_⟩
       · have hc : c = 1 := by omega
         have hh := HH.out
         rw [hc] at hh
         exact REvs.below (w := w) (REvs.tail hh rfl) (by have h := HF.out.2; with_reducible repeat (first | exact h | refine Below.setCell ?_ (by simp; try omega) _))
       · obtain ⟨hown, hbl2⟩ := HF.out
         refine own_lower (own_move hown (fun k hk => ?_)) (by simp; omega)
         have hk2 := (hown.lt k hk).1
         have hk3 : w.heap.size + 1 < k := by simp at hk2; omega
         exact Mem.Ch.block (S := fun k => k = w.heap.size ∨ k = w.heap.size + 1) (w := w2) (by with_reducible repeat (first | exact Mem.Ch.refl _ _ | refine Mem.Ch.set ?_ (.inr (.inl rfl)) | refine Mem.Ch.set ?_ (.inr (.inr rfl)))) k (hown.lt k hk).2 (by omega)
       · have h := HF.out.2
         with_reducible repeat (first | exact h | refine Below.setCell ?_ (by simp; try omega) _))
    | (refine bodyPost_ret (v := rtl nodes to id seq (.slice (some ⟨g, o + 5, none⟩) (n - 1) (c - 1)) (.slice A2 (lr.length + 1) c2')) (by simp [results, Try.results12, go_sem, *]) rfl ⟨_, _, rfl, ?_, ?_, ?_⟩
       · exact REvs.below (w := w) (REvs.tail HH.out (if_neg (by omega)).symm) (by have h := HF.out.2; with_reducible repeat (first | exact h | refine Below.setCell ?_ (by simp; try omega) _))
       · obtain ⟨hown, hbl2⟩ := HF.out
         refine own_lower (own_move hown (fun k hk => ?_)) (by simp; omega)
         have hk2 := (hown.lt k hk).1
         have hk3 : w.heap.size + 1 < k := by simp at hk2; omega
         exact Mem.Ch.block (S := fun k => k = w.heap.size ∨ k = w.heap.size + 1) (w := w2) (by with_reducible repeat (first | exact Mem.Ch.refl _ _ | refine Mem.Ch.set ?_ (.inr (.inl rfl)) | refine Mem.Ch.set ?_ (.inr (.inr rfl)))) k (hown.lt k hk).2 (by omega)
       · have h := HF.out.2
         with_reducible repeat (first | exact h | refine Below.setCell ?_ (by simp; try omega) _))
end Go.Proofs.Ytbiicflcjipeeaa
