/- The document's text of an event. -/
import Derived.Test.YtbiicflcjipeeaaEnc2
namespace Go.Proofs.Ytbiicflcjipeeaa
open Go.RowKit
set_option linter.unusedSimpArgs false
set_option linter.unusedVariables false
open Sp (fold intB textS bs)
attribute [local go_sem] Mem.run_store_float Mem.After.cell
set_option maxRecDepth 100000 in
set_option maxHeartbeats 2000000 in
theorem rEncode_no (e : Evt) (vf : Value) (ok : Nat → Prop) (w : World) (hs : e.small) (hr : EvR w ok e vf) (h : ¬ e.ok) :
    Calls Try.prog 77 #[.agg #[.int .i64 e.session, .int .i64 e.seq, .int .i64 e.stamp, .string e.kind, vf]] w fun r w' => r = .returned (.tuple #[.string (bs []), .int .i64 1]) ∧ Below w.heap.size w w' := by
  have HC := Lib.hid (chk_no h)
  have hc := rCheck_any e vf ok _ hs (hr.below ((Below.refl _ _).alloc (Nat.le_refl _) (Obj.cells #[.int .i64 e.session, .int .i64 e.seq, .int .i64 e.stamp, .string e.kind, vf] 42)))
  rw [HC.out] at hc
  have HCC := Lib.hid hc
  clear hc hs hr h
  go_enter Try.func77, Try.ntmps77
  go_wp2_with fail
  refine HCC.out.mono ?_
  rintro _ w1 ⟨rfl, hb1⟩
  go_wp2_with fail
  go_ret2
  exact ⟨rfl, ((Below.refl _ _).alloc (Nat.le_refl _) _).trans (hb1.mono (by simp))⟩
set_option maxRecDepth 100000 in
set_option maxHeartbeats 2000000 in
theorem rEncode_yes (e : Evt) (vf : Value) (ok : Nat → Prop) (w : World) (hr : EvR w ok e vf) (h : e.ok) (hw : e.wf) :
    Calls Try.prog 77 #[.agg #[.int .i64 e.session, .int .i64 e.seq, .int .i64 e.stamp, .string e.kind, vf]] w fun r w' => r = .returned (.tuple #[.string (encS e), .int .i64 0]) ∧ Below w.heap.size w w' := by
  obtain ⟨A, cap, rfl⟩ := hr.slice
  have HC := Lib.hid (chk_ok h)
  have hc := rCheck_any e _ ok _ (Evt.ok_small h) (hr.below ((Below.refl _ _).alloc (Nat.le_refl _) (Obj.cells #[.int .i64 e.session, .int .i64 e.seq, .int .i64 e.stamp, .string e.kind, .slice A e.fields.length cap] 42)))
  rw [HC.out] at hc
  have HCC := Lib.hid hc
  clear hc
  have HH := Lib.hid h
  have HR := Lib.hid hr
  have HW := Lib.hid hw
  obtain ⟨⟨q1, q1'⟩, ⟨q2, q2'⟩, ⟨q3, q3'⟩, q4, q5, _⟩ := h
  have a1 := numS_size e.session (by omega)
  have a2 := numS_size e.seq (by omega)
  have a3 := numS_size e.stamp (by omega)
  have q4' := q4.2
  have a4 := text_size e.kind (by omega)
  have a5 := numS_size e.fields.length (by omega)
  clear hr hw q4
  go_enter Try.func77, Try.ntmps77
  go_wp2_with fail
  refine HCC.out.mono ?_
  rintro _ w1 ⟨rfl, hb1⟩
  have hB := (hb1.block w.heap.size (by simp)).trans (Mem.new _ _)
  have b1 : w1.cell? ⟨w.heap.size, 0, none⟩ = some (.int .i64 e.session) := Mem.cell hB rfl
  have b2 : w1.cell? ⟨w.heap.size, 1, none⟩ = some (.int .i64 e.seq) := Mem.cell hB rfl
  have b3 : w1.cell? ⟨w.heap.size, 2, none⟩ = some (.int .i64 e.stamp) := Mem.cell hB rfl
  have b4 : w1.cell? ⟨w.heap.size, 3, none⟩ = some (.string e.kind) := Mem.cell hB rfl
  have b5 : w1.cell? ⟨w.heap.size, 4, none⟩ = some (.slice A e.fields.length cap) := Mem.cell hB rfl
  have hbel : Below w.heap.size w w1 := ((Below.refl _ _).alloc (Nat.le_refl _) _).trans (hb1.mono (by simp))
  have hl := Mem.lt hB
  have HB := Lib.hid hB
  clear hB hb1
  go_wp2_with fail
  refine Mem.wp_region_after (by kernel_rfl) (by kernel_rfl) ?_
  repeat (go_big_quiet_step ((first | (go_at_call 88; exact Mem.After.call _ (rNumS_any _ _ (by exact ⟨by omega, by omega⟩))) | (go_at_call 78; exact Mem.After.call _ (rText_any _ _ (by omega))))))
  refine wpQuiet_nil ?_
  intro w2 hb2
  have b5' : w2.cell? ⟨w.heap.size, 4, none⟩ = some (.slice A e.fields.length cap) := (hb2.cell (p := ⟨w.heap.size, 4, none⟩) hl).trans b5
  have hbel2 := hbel.trans (hb2.mono hbel.size)
  have HB2 := Lib.hid ((hb2.block _ hl).trans HB.out)
  clear b1 b2 b3 b4 b5 a1 a2 a3 a4 a5 q1 q1' q2 q2' q3 q3' q4' HB hl
  go_wp2_with fail
  go_loopw [4, 5] (fun s i wr => ∃ k : Nat, k ≤ e.fields.length ∧ i = .int .i64 k ∧ s = .string ((e.fields.take k).foldl fldS (hdS e)) ∧ Below w.heap.size w wr ∧
      wr.heap[w.heap.size]? = some (.cells #[.int .i64 e.session, .int .i64 e.seq, .int .i64 e.stamp, .string e.kind, .slice A e.fields.length cap] 42 (0, 0))) (fun _ i _ => e.fields.length - (intOf i).toNat)
  case atStart => exact ⟨0, Nat.zero_le _, rfl, rfl, hbel2, HB2.out⟩
  case round =>
    obtain ⟨k, hk, rfl, rfl, hbel3, hB⟩ := hrel
    have b5 : wr.cell? ⟨w.heap.size, 4, none⟩ = some (.slice A e.fields.length cap) := Mem.cell hB rfl
    have hl := Mem.lt hB
    have HB := Lib.hid hB
    clear hbel hb2 b5' hbel2 hB HB2
    by_cases hlt : k < e.fields.length
    · obtain ⟨f, hf⟩ : ∃ f, e.fields[k]? = some f := ⟨_, List.getElem?_eq_getElem hlt⟩
      obtain ⟨g, o, rfl, hg, hgl, hrow⟩ := (Mem.Rd.below HR.out hbel3).row (k := k) (r := f.cells) (by rw [List.getElem?_map, hf]; rfl)
      have c0 : wr.cell? ⟨g, o + k * 5, none⟩ = some (.string f.name) := hrow 0 _ rfl
      have c1 := hrow 1 _ rfl
      have c2 := hrow 2 _ rfl
      have c3 := hrow 3 _ rfl
      have c4 := hrow 4 _ rfl
      have HS := Lib.hid (foldl_snoc e.fields k f (hdS e) hf)
      obtain ⟨m1, m2, m3⟩ := fields_ok e HH.out HW.out f (List.mem_of_getElem? hf)
      have z0 := foldl_size (e.fields.take k) (hdS e) (fun f hf => fields_ok e HH.out HW.out f (List.mem_of_mem_take hf))
      have z1 := hd_size e HH.out
      have z2 : (e.fields.take k).length ≤ 8 := by rw [List.length_take]; omega
      have z3 : ((e.fields.take k).foldl fldS (hdS e)).size ≤ 2000 := by omega
      have z4 := text_size f.name (by have := m1.2; omega)
      have z6 := m1.2.2
      unfold Val.may at m2
      have y1 := numS_size f.v.kind (by omega)
      have y2 := int_size f.v.n m3
      have y3 : (bs (realB f.v.f)).size ≤ 8 := by rw [real_size]; omega
      have y4 := text_size f.v.s (by omega)
      have hk3 : f.v.kind = 1 ∨ f.v.kind = 2 ∨ f.v.kind = 3 := by omega
      have y5 : f.v.s.size ≤ 64 := by omega
      have k1 : 0 ≤ f.v.kind ∧ f.v.kind ≤ 3 := by omega
      have hv : Hid (valS f.v = numS f.v.kind ++ (if f.v.kind = 1 then bs (intB f.v.n) else if f.v.kind = 2 then bs (realB f.v.f) else textS f.v.s)) := Lib.hid rfl
      have hl1 : g < wr.heap.size + 1 := by omega
      have hl2 : w.heap.size < wr.heap.size + 1 := by omega
      clear hf hrow z0 z1 z2 m1 m2 HR
      obtain ⟨s, hs⟩ : ∃ s, s = (e.fields.take k).foldl fldS (hdS e) := ⟨_, rfl⟩
      rw [← hs] at z3 ⊢
      have HSS := Lib.hid hs
      clear hs
      obtain ⟨name, kind, n, f8, str⟩ := f
      dsimp only at *
      rcases hk3 with rfl | rfl | rfl
      all_goals
        go_wp2_with fail
        refine Mem.wp_region_after (by kernel_rfl) (by kernel_rfl) ?_
        repeat (go_big_quiet_step ((first | (go_at_call 78; exact Mem.After.call _ (rText_any _ _ (by omega))) | (go_at_call 88; exact Mem.After.call _ (rNumS_any _ _ (by exact ⟨by omega, by omega⟩))))))
        refine wpQuiet_nil ?_
        intro w3 hb3
        have hB3 := (hb3.block wr.heap.size (by simp)).trans (Mem.new _ _)
        have d0 := Mem.cell hB3 (j := 0) rfl
        have d1 := Mem.cell hB3 (j := 1) rfl
        have d2 := Mem.cell hB3 (j := 2) rfl
        have d3 := Mem.cell hB3 (j := 3) rfl
        have HB3 := Lib.hid ((hb3.block w.heap.size (by simp; omega)).trans (Mem.old HB.out _))
        have hbel4 : Below w.heap.size w w3 := (hbel3.alloc hbel3.size _).trans (hb3.mono (by have := hbel3.size; simp; omega))
        have hl4 := Mem.lt HB3.out
        clear hB3 hb3
        go_wp2_with (first | (go_at_call 89; refine (rInt_any n _ m3).mono ?_; rintro _ w4 ⟨rfl, hb4⟩) | (go_at_call 90; refine (rReal_any f8 _).mono ?_; rintro _ w4 ⟨rfl, hb4⟩) | (go_at_call 78; refine (rText_any str _ (by omega)).mono ?_; rintro _ w4 ⟨rfl, hb4⟩))
        go_roundw
        case rel => exact ⟨k + 1, by omega, by go_num, by rw [HS.out, ← HSS.out]; unfold fldS; rw [hv.out]; simp [ByteArray.append_assoc], hbel4.trans (hb4.mono hbel4.size), (hb4.block _ hl4).trans HB3.out⟩
        case measure => simp [intOf]; try omega
    · obtain rfl : k = e.fields.length := by omega
      have HE : Hid (encS e = (e.fields.take e.fields.length).foldl fldS (hdS e)) := Lib.hid (by rw [List.take_length]; rfl)
      go_wp2_with fail
      go_ret2
      exact ⟨by rw [HE.out, List.take_length]; rfl, hbel3⟩
end Go.Proofs.Ytbiicflcjipeeaa
