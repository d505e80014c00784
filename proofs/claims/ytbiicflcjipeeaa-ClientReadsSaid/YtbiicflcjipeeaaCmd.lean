/- The texts of the commands that a teller asks: sm's. -/
import Derived.Test.YtbiicflcjipeeaaREnc
namespace Go.Proofs.Ytbiicflcjipeeaa
open Go.RowKit
set_option linter.unusedSimpArgs false
set_option linter.unusedVariables false
open Sp (fold intB textS bs)
attribute [local go_sem] Mem.run_store_float Mem.After.cell
def emptyB (e : Evt) : Bool := (e.session == 0) && (e.seq == 0) && (e.stamp == 0) && e.kind.toList.isEmpty && ((e.fields.length : Int) == 0)
theorem emptyB_zero : emptyB ⟨0, 0, 0, ⟨#[]⟩, []⟩ = true := by unfold emptyB; simp only [empty_eq]; decide
set_option maxRecDepth 100000 in
set_option maxHeartbeats 2000000 in
theorem empty_any (e : Evt) (A : Option Addr) (cap : Nat) (w : World) :
    Calls Try.prog 80 #[.agg #[.int .i64 e.session, .int .i64 e.seq, .int .i64 e.stamp, .string e.kind, .slice A e.fields.length cap]] w fun r w' => r = .returned (.bool (emptyB e)) ∧ Below w.heap.size w w' := by
  obtain ⟨session, seq, stamp, kind, fields⟩ := e
  dsimp only
  go_enter Try.func80, Try.ntmps80
  go_wp2_with fail
  all_goals
    go_ret
    refine ⟨Mem.ret_bool ?_, (Below.refl _ _).alloc (Nat.le_refl _) _⟩
    unfold emptyB
    simp [*]
set_option maxRecDepth 100000 in
set_option maxHeartbeats 2000000 in
theorem body_open (w : World) :
    Calls Try.prog 69 #[.agg #[.int .i64 1, .int .i64 0, .int .i64 0, .int .i64 0, .string ⟨#[]⟩, .slice none 0 0, .int .i64 0, .string ⟨#[]⟩, .string ⟨#[]⟩, .int .i64 0]] w fun r w' => r = .returned (.tuple #[.string ⟨#[]⟩, .bool true]) ∧ Below w.heap.size w w' := by
  have he : ∀ w, Calls Try.prog 80 #[.agg #[.int .i64 0, .int .i64 0, .int .i64 0, .string ⟨#[]⟩, .slice none 0 0]] w fun r w' => r = .returned (.bool true) ∧ Below w.heap.size w w' := fun w =>
    (empty_any ⟨0, 0, 0, ⟨#[]⟩, []⟩ none 0 w).mono fun _ _ ⟨h, hb⟩ => ⟨by rw [h, emptyB_zero], hb⟩
  have hwd : wordB ⟨#[]⟩ = false := wordB_false (fun h => absurd h.2.1 (by decide))
  have HE := Lib.hid he
  clear he
  go_enter Try.func69, Try.ntmps69
  go_wp2_with fail
  refine Mem.wp_region_after (by kernel_rfl) (by kernel_rfl) ?_
  repeat (go_big_quiet_step ((go_at_call 80; exact Mem.After.call _ (HE.out _))))
  refine wpQuiet_nil ?_
  intro w1 hb1
  have hB := (hb1.block w.heap.size (by simp)).trans (Mem.new _ _)
  have b0 := Mem.cell hB (j := 0) rfl
  have b7 := Mem.cell hB (j := 7) rfl
  have hbel : Below w.heap.size w w1 := ((Below.refl _ _).alloc (Nat.le_refl _) _).trans (hb1.mono (by simp))
  clear hB hb1
  go_wp2_with (go_at_call 48; refine (Word_any _ _ (by decide)).mono ?_; rintro _ w' ⟨rfl, rfl⟩)
  go_ret2
  exact ⟨rfl, hbel⟩
set_option maxRecDepth 100000 in
set_option maxHeartbeats 2000000 in
theorem Write_open (w : World) :
    Calls Try.prog 50 #[.agg #[.int .i64 1, .int .i64 0, .int .i64 0, .int .i64 0, .string ⟨#[]⟩, .slice none 0 0, .int .i64 0, .string ⟨#[]⟩, .string ⟨#[]⟩, .int .i64 0]] w fun r w' => r = .returned (.tuple #[.string (numS 1), .int .i64 0]) ∧ Below w.heap.size w w' := by
  go_enter Try.func50, Try.ntmps50
  go_wp2_with fail
  refine (body_open _).mono ?_
  rintro _ w1 ⟨rfl, hb1⟩
  have hB := (hb1.block w.heap.size (by simp)).trans (Mem.new _ _)
  have b0 := Mem.cell hB (j := 0) rfl
  have hbel : Below w.heap.size w w1 := ((Below.refl _ _).alloc (Nat.le_refl _) _).trans (hb1.mono (by simp))
  have hz := numS_size 1 (by decide)
  clear hB hb1
  go_wp2_with (go_at_call 53; refine (NumS_any _ _ ⟨by decide, by decide⟩).mono ?_; rintro _ w2 ⟨rfl, hb2⟩)
  go_ret2
  refine ⟨?_, hbel.trans (hb2.mono hbel.size)⟩
  have e : numS 1 ++ ⟨#[]⟩ = numS 1 := by apply ByteArray.ext; simp
  simp [e]
/-- What an event's command says: its bytes, if it may be. -/
def cmdOk (e : Evt) : Prop := e.ok ∧ 0 < e.session ∧ 0 < e.seq
noncomputable def cmdB (e : Evt) : Bool := @decide (cmdOk e) (Classical.propDecidable _)
theorem cmdB_iff {e : Evt} : cmdB e = true ↔ cmdOk e := by unfold cmdB; simp
theorem cmdB_no {e : Evt} : cmdB e = false ↔ ¬ cmdOk e := by unfold cmdB; simp
set_option maxRecDepth 100000 in
set_option maxHeartbeats 2000000 in
theorem body_event (e : Evt) (vf : Value) (ok : Nat → Prop) (w : World) (hs : e.small) (hr : EvR w ok e vf) (hw : e.wf) :
    Calls Try.prog 69 #[.agg #[.int .i64 2, .int .i64 e.session, .int .i64 e.seq, .int .i64 e.stamp, .string e.kind, vf, .int .i64 0, .string ⟨#[]⟩, .string ⟨#[]⟩, .int .i64 0]] w
      fun r w' => ∃ s, r = .returned (.tuple #[.string s, .bool (cmdB e)]) ∧ (cmdOk e → s = encS e) ∧ Below w.heap.size w w' := by
  obtain ⟨A, cap, rfl⟩ := hr.slice
  have HE := Lib.hid (fun w => empty_any e A cap w)
  have hwd : wordB ⟨#[]⟩ = false := wordB_false (fun h => absurd h.2.1 (by decide))
  have HR := Lib.hid hr
  have HS := Lib.hid hs
  have HW := Lib.hid hw
  clear hr hs hw
  go_enter Try.func69, Try.ntmps69
  go_wp2_with fail
  refine Mem.wp_region_after (by kernel_rfl) (by kernel_rfl) ?_
  repeat (go_big_quiet_step ((go_at_call 80; exact Mem.After.call _ (HE.out _))))
  refine wpQuiet_nil ?_
  intro w1 hb1
  have hB := (hb1.block w.heap.size (by simp)).trans (Mem.new _ _)
  have b0 := Mem.cell hB (j := 0) rfl
  have b1 := Mem.cell hB (j := 1) rfl
  have b2 := Mem.cell hB (j := 2) rfl
  have b3 := Mem.cell hB (j := 3) rfl
  have b4 := Mem.cell hB (j := 4) rfl
  have b5 := Mem.cell hB (j := 5) rfl
  have b7 := Mem.cell hB (j := 7) rfl
  have hbel : Below w.heap.size w w1 := ((Below.refl _ _).alloc (Nat.le_refl _) _).trans (hb1.mono (by simp))
  have hl := Mem.lt hB
  clear hB hb1
  go_wp2_with (go_at_call 48; refine (Word_any _ _ (by decide)).mono ?_; rintro _ w' ⟨rfl, rfl⟩)
  by_cases hok : e.ok
  · refine (Encode_yes e _ ok _ (HR.out.below hbel) hok HW.out).mono ?_
    rintro _ w2 ⟨rfl, hb2⟩
    have d1 : w2.cell? ⟨w.heap.size, 1, none⟩ = some (.int .i64 e.session) := (hb2.cell (p := ⟨w.heap.size, 1, none⟩) hl).trans b1
    have d2 : w2.cell? ⟨w.heap.size, 2, none⟩ = some (.int .i64 e.seq) := (hb2.cell (p := ⟨w.heap.size, 2, none⟩) hl).trans b2
    have HO := Lib.hid hok
    clear b0 b1 b2 b3 b4 b5 b7 hok
    by_cases h1 : 0 < e.session
    all_goals by_cases h2 : 0 < e.seq
    all_goals
      go_wp2_with fail
      go_ret2
      refine ⟨encS e, ?_, fun _ => rfl, hbel.trans (hb2.mono hbel.size)⟩
      first
      | (rw [cmdB_iff.2 ⟨HO.out, h1, h2⟩]; rfl)
      | (rw [cmdB_no.2 (fun h => by have := h.2.1; omega)]; rfl)
      | (rw [cmdB_no.2 (fun h => by have := h.2.2; omega)]; rfl)
  · refine (Encode_no e _ ok _ HS.out (HR.out.below hbel) hok).mono ?_
    rintro _ w2 ⟨rfl, hb2⟩
    have hc : cmdB e = false := cmdB_no.2 (fun h => hok h.1)
    have HO := Lib.hid hok
    have HC := Lib.hid hc
    clear b0 b1 b2 b3 b4 b5 b7 hok hc
    go_wp2_with fail
    go_ret2
    exact ⟨bs [], by rw [HC.out]; rfl, fun h => absurd h.1 HO.out, hbel.trans (hb2.mono hbel.size)⟩
/-- An event's command, as a text; none: it may not be. -/
noncomputable def cmdS (e : Evt) : ByteArray := if cmdB e then numS 2 ++ encS e else bs []
noncomputable def cmdE (e : Evt) : Int := if cmdB e then 0 else 1
set_option maxRecDepth 100000 in
set_option maxHeartbeats 2000000 in
theorem Write_event (e : Evt) (vf : Value) (ok : Nat → Prop) (w : World) (hs : e.small) (hr : EvR w ok e vf) (hw : e.wf) :
    Calls Try.prog 50 #[.agg #[.int .i64 2, .int .i64 e.session, .int .i64 e.seq, .int .i64 e.stamp, .string e.kind, vf, .int .i64 0, .string ⟨#[]⟩, .string ⟨#[]⟩, .int .i64 0]] w
      fun r w' => r = .returned (.tuple #[.string (cmdS e), .int .i64 (cmdE e)]) ∧ Below w.heap.size w w' := by
  obtain ⟨A, cap, rfl⟩ := hr.slice
  have HR := Lib.hid hr
  have HW := Lib.hid hw
  have HS := Lib.hid hs
  clear hr hw hs
  go_enter Try.func50, Try.ntmps50
  go_wp2_with fail
  refine (body_event e _ ok _ HS.out (HR.out.below ((Below.refl _ _).alloc (Nat.le_refl _) _)) HW.out).mono ?_
  rintro _ w1 ⟨s, rfl, hs, hb1⟩
  have hB := (hb1.block w.heap.size (by simp)).trans (Mem.new _ _)
  have b0 := Mem.cell hB (j := 0) rfl
  have hbel : Below w.heap.size w w1 := ((Below.refl _ _).alloc (Nat.le_refl _) _).trans (hb1.mono (by simp))
  have hz := numS_size 2 (by decide)
  clear hB hb1
  cases hc : cmdB e
  · have HC : Hid (cmdS e = bs [] ∧ cmdE e = 1) := Lib.hid (by unfold cmdS cmdE; rw [hc]; exact ⟨rfl, rfl⟩)
    clear hs
    go_wp2_with fail
    go_ret2
    exact ⟨by rw [HC.out.1, HC.out.2]; rfl, hbel⟩
  · have HC : Hid (cmdS e = numS 2 ++ s ∧ cmdE e = 0) := Lib.hid (by unfold cmdS cmdE; rw [hc, hs (cmdB_iff.1 hc)]; exact ⟨rfl, rfl⟩)
    have hz2 : s.size ≤ 1700 := by rw [hs (cmdB_iff.1 hc)]; exact enc_size e (cmdB_iff.1 hc).1 HW.out
    clear hs
    go_wp2_with (go_at_call 53; refine (NumS_any _ _ ⟨by decide, by decide⟩).mono ?_; rintro _ w2 ⟨rfl, hb2⟩)
    go_ret2
    exact ⟨by rw [HC.out.1, HC.out.2]; rfl, hbel.trans (hb2.mono hbel.size)⟩
end Go.Proofs.Ytbiicflcjipeeaa
