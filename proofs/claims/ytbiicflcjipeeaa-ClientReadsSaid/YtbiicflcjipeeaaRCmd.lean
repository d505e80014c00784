/- The texts of the commands that a teller asks: the document's. -/
import Derived.Test.YtbiicflcjipeeaaSame
namespace Go.Proofs.Ytbiicflcjipeeaa
open Go.RowKit
set_option linter.unusedSimpArgs false
set_option linter.unusedVariables false
open Sp (fold intB textS bs)
attribute [local go_sem] Mem.run_store_float Mem.After.cell
set_option maxRecDepth 100000 in
set_option maxHeartbeats 400000 in
theorem rnum_any (n : Int) (w : World) (h : 0 ≤ n ∧ n ≤ 9223372036854775807) : Calls Try.prog 76 #[.int .i64 n] w fun e w' => e = .returned (.string (numS n)) ∧ Below w.heap.size w w' := by
  obtain ⟨h0, h1⟩ := h
  go_enter Try.func76, Try.ntmps76
  go_wp2_with fail
  refine (rNumS_any _ _ ⟨by omega, by omega⟩).mono ?_
  rintro _ w1 ⟨rfl, hb⟩
  go_wp2_with fail
  go_ret
  exact ⟨rfl, hb⟩
set_option maxRecDepth 100000 in
set_option maxHeartbeats 2000000 in
theorem rcheck_open (w : World) :
    Calls Try.prog 75 #[.agg #[.int .i64 1, .int .i64 0, .int .i64 0, .int .i64 0, .string ⟨#[]⟩, .slice none 0 0, .int .i64 0, .string ⟨#[]⟩, .string ⟨#[]⟩, .int .i64 0]] w fun r w' => r = .returned (.bool true) ∧ Below w.heap.size w w' := by
  have he : ∀ w, Calls Try.prog 47 #[.agg #[.int .i64 0, .int .i64 0, .int .i64 0, .string ⟨#[]⟩, .slice none 0 0], .agg #[.int .i64 0, .int .i64 0, .int .i64 0, .string ⟨#[]⟩, .slice none 0 0]] w fun r w' => r = .returned (.bool true) ∧ Below w.heap.size w w' := fun w =>
    (Same_zero ⟨0, 0, 0, ⟨#[]⟩, []⟩ none 0 w).mono fun _ _ ⟨b, h, ht, hb⟩ => ⟨by rw [h, ht emptyB_zero], hb⟩
  have HE := Lib.hid he
  clear he
  go_enter Try.func75, Try.ntmps75
  go_wp2_with fail
  refine (HE.out _).mono ?_
  rintro _ w1 ⟨rfl, hb1⟩
  have hB := (hb1.block w.heap.size (by simp)).trans (Mem.new _ _)
  have b0 := Mem.cell hB (j := 0) rfl
  have b6 := Mem.cell hB (j := 6) rfl
  have b7 := Mem.cell hB (j := 7) rfl
  have b8 := Mem.cell hB (j := 8) rfl
  have b9 := Mem.cell hB (j := 9) rfl
  have hbel : Below w.heap.size w w1 := ((Below.refl _ _).alloc (Nat.le_refl _) _).trans (hb1.mono (by simp))
  clear hB hb1
  go_wp2_with fail
  go_ret
  exact ⟨rfl, hbel⟩
set_option maxRecDepth 100000 in
set_option maxHeartbeats 2000000 in
theorem rcheck_event (e : Evt) (vf : Value) (ok : Nat → Prop) (w : World) (hs : e.small) (hr : EvR w ok e vf) :
    Calls Try.prog 75 #[.agg #[.int .i64 2, .int .i64 e.session, .int .i64 e.seq, .int .i64 e.stamp, .string e.kind, vf, .int .i64 0, .string ⟨#[]⟩, .string ⟨#[]⟩, .int .i64 0]] w
      fun r w' => r = .returned (.bool (cmdB e)) ∧ Below w.heap.size w w' := by
  obtain ⟨A, cap, rfl⟩ := hr.slice
  have HR := Lib.hid hr
  have HS := Lib.hid hs
  clear hr hs
  go_enter Try.func75, Try.ntmps75
  go_wp2_with fail
  refine (Same_zero e A cap _).mono ?_
  rintro _ w1 ⟨b, rfl, _, hb1⟩
  have hB := (hb1.block w.heap.size (by simp)).trans (Mem.new _ _)
  have b0 := Mem.cell hB (j := 0) rfl
  have b1 := Mem.cell hB (j := 1) rfl
  have b2 := Mem.cell hB (j := 2) rfl
  have b3 := Mem.cell hB (j := 3) rfl
  have b4 := Mem.cell hB (j := 4) rfl
  have b5 := Mem.cell hB (j := 5) rfl
  have hbel : Below w.heap.size w w1 := ((Below.refl _ _).alloc (Nat.le_refl _) _).trans (hb1.mono (by simp))
  have hl := Mem.lt hB
  have HB := Lib.hid hB
  clear hB hb1
  go_wp2_with fail
  refine (rCheck_any e _ ok _ HS.out (HR.out.below hbel)).mono ?_
  rintro _ w2 ⟨rfl, hb2⟩
  have hB := (hb2.block w.heap.size hl).trans HB.out
  have d0 := Mem.cell hB (j := 0) rfl
  have d1 := Mem.cell hB (j := 1) rfl
  have d2 := Mem.cell hB (j := 2) rfl
  have d6 := Mem.cell hB (j := 6) rfl
  have d7 := Mem.cell hB (j := 7) rfl
  have d8 := Mem.cell hB (j := 8) rfl
  have d9 := Mem.cell hB (j := 9) rfl
  clear b0 b1 b2 b3 b4 b5 hB
  have hbel2 := hbel.trans (hb2.mono hbel.size)
  by_cases hok : e.ok
  · have hc := chk_ok hok
    have HO := Lib.hid hok
    by_cases h1 : 0 < e.session
    all_goals by_cases h2 : 0 < e.seq
    all_goals
      go_wp2_with fail
      go_ret
      refine ⟨?_, hbel2⟩
      first
      | (rw [cmdB_iff.2 ⟨HO.out, h1, h2⟩]; rfl)
      | (rw [cmdB_no.2 (fun h => by have := h.2.1; omega)]; rfl)
      | (rw [cmdB_no.2 (fun h => by have := h.2.2; omega)]; rfl)
  · have hc := chk_no hok
    have HO := Lib.hid hok
    clear hok
    go_wp2_with fail
    go_ret
    refine ⟨?_, hbel2⟩
    rw [cmdB_no.2 (fun h => HO.out h.1)]
    rfl
set_option maxRecDepth 100000 in
set_option maxHeartbeats 2000000 in
theorem rWrite_open (w : World) :
    Calls Try.prog 67 #[.agg #[.int .i64 1, .int .i64 0, .int .i64 0, .int .i64 0, .string ⟨#[]⟩, .slice none 0 0, .int .i64 0, .string ⟨#[]⟩, .string ⟨#[]⟩, .int .i64 0]] w fun r w' => r = .returned (.tuple #[.string (numS 1), .int .i64 0]) ∧ Below w.heap.size w w' := by
  go_enter Try.func67, Try.ntmps67
  go_wp2_with fail
  refine (rcheck_open _).mono ?_
  rintro _ w1 ⟨rfl, hb1⟩
  have hB := (hb1.block w.heap.size (by simp)).trans (Mem.new _ _)
  have b0 := Mem.cell hB (j := 0) rfl
  have hbel : Below w.heap.size w w1 := ((Below.refl _ _).alloc (Nat.le_refl _) _).trans (hb1.mono (by simp))
  have hl := Mem.lt hB
  have HB := Lib.hid hB
  clear hB hb1
  go_wp2_with fail
  refine (rnum_any _ _ ⟨by decide, by decide⟩).mono ?_
  rintro _ w2 ⟨rfl, hb2⟩
  have d0 := Mem.cell ((hb2.block w.heap.size hl).trans HB.out) (j := 0) rfl
  clear b0
  go_wp2_with fail
  go_ret2
  exact ⟨rfl, hbel.trans (hb2.mono hbel.size)⟩
set_option maxRecDepth 100000 in
set_option maxHeartbeats 2000000 in
theorem rWrite_event (e : Evt) (vf : Value) (ok : Nat → Prop) (w : World) (hs : e.small) (hr : EvR w ok e vf) (hw : e.wf) :
    Calls Try.prog 67 #[.agg #[.int .i64 2, .int .i64 e.session, .int .i64 e.seq, .int .i64 e.stamp, .string e.kind, vf, .int .i64 0, .string ⟨#[]⟩, .string ⟨#[]⟩, .int .i64 0]] w
      fun r w' => r = .returned (.tuple #[.string (cmdS e), .int .i64 (cmdE e)]) ∧ Below w.heap.size w w' := by
  obtain ⟨A, cap, rfl⟩ := hr.slice
  have HR := Lib.hid hr
  have HS := Lib.hid hs
  have HW := Lib.hid hw
  clear hr hs hw
  go_enter Try.func67, Try.ntmps67
  go_wp2_with fail
  refine (rcheck_event e _ ok _ HS.out (HR.out.below ((Below.refl _ _).alloc (Nat.le_refl _) _))).mono ?_
  rintro _ w1 ⟨rfl, hb1⟩
  have hB := (hb1.block w.heap.size (by simp)).trans (Mem.new _ _)
  have b0 := Mem.cell hB (j := 0) rfl
  have hbel : Below w.heap.size w w1 := ((Below.refl _ _).alloc (Nat.le_refl _) _).trans (hb1.mono (by simp))
  have hl := Mem.lt hB
  have HB := Lib.hid hB
  clear hB hb1
  cases hc : cmdB e
  · have HC : Hid (cmdS e = bs [] ∧ cmdE e = 1) := Lib.hid (by unfold cmdS cmdE; rw [hc]; exact ⟨rfl, rfl⟩)
    go_wp2_with fail
    go_ret2
    exact ⟨by rw [HC.out.1, HC.out.2]; rfl, hbel⟩
  · have HC : Hid (cmdS e = numS 2 ++ encS e ∧ cmdE e = 0) := Lib.hid (by unfold cmdS cmdE; rw [hc]; exact ⟨rfl, rfl⟩)
    have hok := (cmdB_iff.1 hc).1
    have hz2 : (encS e).size ≤ 1700 := enc_size e hok HW.out
    have hz := numS_size 2 (by decide)
    have HO := Lib.hid hok
    clear hok
    go_wp2_with fail
    refine (rnum_any _ _ ⟨by decide, by decide⟩).mono ?_
    rintro _ w2 ⟨rfl, hb2⟩
    have hB := (hb2.block w.heap.size hl).trans HB.out
    have d0 := Mem.cell hB (j := 0) rfl
    have d1 := Mem.cell hB (j := 1) rfl
    have d2 := Mem.cell hB (j := 2) rfl
    have d3 := Mem.cell hB (j := 3) rfl
    have d4 := Mem.cell hB (j := 4) rfl
    have d5 := Mem.cell hB (j := 5) rfl
    have hbel2 := hbel.trans (hb2.mono hbel.size)
    have hl2 := Mem.lt hB
    have HB2 := Lib.hid hB
    clear hB b0
    go_wp2_with fail
    refine (rEncode_yes e _ ok _ (HR.out.below hbel2) HO.out HW.out).mono ?_
    rintro _ w3 ⟨rfl, hb3⟩
    have e0 := Mem.cell ((hb3.block w.heap.size hl2).trans HB2.out) (j := 0) rfl
    clear d0 d1 d2 d3 d4 d5
    go_wp2_with fail
    go_ret2
    exact ⟨by rw [HC.out.1, HC.out.2]; rfl, hbel2.trans (hb3.mono hbel2.size)⟩
end Go.Proofs.Ytbiicflcjipeeaa
