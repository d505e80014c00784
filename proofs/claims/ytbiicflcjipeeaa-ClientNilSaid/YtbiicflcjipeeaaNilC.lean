/- A nil teller, and a nil reader: each call by itself; the statement's walk. -/
import Derived.Test.YtbiicflcjipeeaaAwk
namespace Go.Proofs.Ytbiicflcjipeeaa
open Go.RowKit
set_option linter.unusedSimpArgs false
set_option linter.unusedVariables false
attribute [local go_sem] Mem.run_store_float Mem.After.cell
set_option maxRecDepth 100000
theorem Told_nil (e n l : Int) (w : World) : Calls Try.prog 13 #[.pointer none, .agg #[.int .i64 e, .int .i64 n], .int .i64 l] w fun r w' => r = .returned (.tuple #[]) ∧ Below w.heap.size w w' := by
  go_enter Try.func13, Try.ntmps13
  go_wp2_with fail
  go_end0
  exact ⟨rfl, (Below.refl _ _).alloc (Nat.le_refl _) _⟩
theorem Late_nil (w : World) : Calls Try.prog 15 #[.pointer none] w fun r w' => r = .returned (.tuple #[]) ∧ Below w.heap.size w w' := by
  go_enter Try.func15, Try.ntmps15
  go_wp2_with fail
  go_end0
  exact ⟨rfl, Below.refl _ _⟩
theorem RLate_nil (w : World) : Calls Try.prog 22 #[.pointer none] w fun r w' => r = .returned (.tuple #[]) ∧ Below w.heap.size w w' := by
  go_enter Try.func22, Try.ntmps22
  go_wp2_with fail
  go_end0
  exact ⟨rfl, Below.refl _ _⟩
theorem RTold_nil (n e : Int) (w : World) : Calls Try.prog 21 #[.pointer none, .slice none 0 0, .int .i64 n, .int .i64 e] w fun r w' => r = .returned (.tuple #[]) ∧ Below w.heap.size w w' := by
  go_enter Try.func21, Try.ntmps21
  go_wp2_with fail
  go_end0
  exact ⟨rfl, Below.refl _ _⟩
theorem Ask_nil (w : World) : Calls Try.prog 28 #[.pointer none] w fun r w' => r = .returned (.tuple #[.agg #[.int .i64 0, .string ⟨#[]⟩, .string ⟨#[]⟩, .int .i64 0, .int .i64 0], .bool false]) ∧ Below w.heap.size w w' := by
  go_enter Try.func28, Try.ntmps28
  go_wp2_with fail
  exact bodyPost_ret (v := .tuple #[.agg #[.int .i64 0, .string ⟨#[]⟩, .string ⟨#[]⟩, .int .i64 0, .int .i64 0], .bool false]) (by simp [results, Try.results28, go_sem, *]) rfl ⟨rfl, (Below.refl _ _).alloc (Nat.le_refl _) _⟩
theorem RAsk_nil (w : World) : Calls Try.prog 23 #[.pointer none] w fun r w' => r = .returned (.tuple #[.agg #[.int .i64 0, .string ⟨#[]⟩, .string ⟨#[]⟩, .int .i64 0, .int .i64 0], .bool false]) ∧ Below w.heap.size w w' := by
  go_enter Try.func23, Try.ntmps23
  go_wp2_with fail
  exact bodyPost_ret (v := .tuple #[.agg #[.int .i64 0, .string ⟨#[]⟩, .string ⟨#[]⟩, .int .i64 0, .int .i64 0], .bool false]) (by simp [results, Try.results23, go_sem, *]) rfl ⟨rfl, (Below.refl _ _).alloc (Nat.le_refl _) _⟩
theorem Session_nil (w : World) : Calls Try.prog 29 #[.pointer none] w fun r w' => r = .returned (.tuple #[.int .i64 0, .int .i64 0]) ∧ Below w.heap.size w w' := by
  go_enter Try.func29, Try.ntmps29
  go_wp2_with fail
  go_ret2
  exact ⟨rfl, Below.refl _ _⟩
theorem Left_nil (w : World) : Calls Try.prog 30 #[.pointer none] w fun r w' => r = .returned (.int .i64 0) ∧ Below w.heap.size w w' := by
  go_enter Try.func30, Try.ntmps30
  go_wp2_with fail
  go_ret
  exact ⟨rfl, Below.refl _ _⟩
theorem At_nil (w : World) : Calls Try.prog 24 #[.pointer none] w fun r w' => r = .returned (.int .i64 0) ∧ Below w.heap.size w w' := by
  go_enter Try.func24, Try.ntmps24
  go_wp2_with fail
  go_ret
  exact ⟨rfl, Below.refl _ _⟩
theorem Gone_nil (w : World) : Calls Try.prog 25 #[.pointer none] w fun r w' => r = .returned (.int .i64 0) ∧ Below w.heap.size w w' := by
  go_enter Try.func25, Try.ntmps25
  go_wp2_with fail
  go_ret
  exact ⟨rfl, Below.refl _ _⟩
theorem Refused_nil (w : World) : Calls Try.prog 31 #[.pointer none] w fun r w' => r = .returned (.slice none 0 0) ∧ Below w.heap.size w w' := by
  go_enter Try.func31, Try.ntmps31
  go_wp2_with fail
  go_ret
  exact ⟨rfl, Below.refl _ _⟩
theorem Got_nil (w : World) : Calls Try.prog 26 #[.pointer none] w fun r w' => r = .returned (.slice none 0 0) ∧ Below w.heap.size w w' := by
  go_enter Try.func26, Try.ntmps26
  go_wp2_with fail
  go_ret
  exact ⟨rfl, Below.refl _ _⟩
theorem Add_nil (a b c : Int) (k : ByteArray) (A : Option Addr) (n cap : Nat) (w : World) : Calls Try.prog 11 #[.pointer none, .agg #[.int .i64 a, .int .i64 b, .int .i64 c, .string k, .slice A n cap]] w fun r w' => r = .returned (.int .i64 1) ∧ Below w.heap.size w w' := by
  go_enter Try.func11, Try.ntmps11
  go_wp2_with fail
  go_ret
  exact ⟨rfl, by with_reducible repeat (first | exact Below.refl _ _ | refine Below.alloc ?_ (by simp) _ | refine Below.setCell ?_ (by simp) _)⟩
/-- Two blocks of one's own are kept. -/
def Kp (w : World) (E R : Obj) (W : World) : Prop := Below w.heap.size w W ∧ W.heap[w.heap.size]? = some E ∧ W.heap[w.heap.size + 1]? = some R
theorem Kp.step {w W W1 : World} {E R : Obj} (h : Kp w E R W) (hb : Below W.heap.size W W1) : Kp w E R W1 := ⟨h.1.trans (hb.mono h.1.size), (hb.block _ (Mem.lt h.2.1)).trans h.2.1, (hb.block _ (Mem.lt h.2.2)).trans h.2.2⟩
theorem Kp.begin (w : World) (E R : Obj) : Kp w E R ((w.alloc E).alloc R) := by
  have h := two_kept (Below.refl _ ((w.alloc E).alloc R))
  exact ⟨h.1, h.2.1, h.2.2⟩
theorem Kp.alloc {w W : World} {E R : Obj} (h : Kp w E R W) (o : Obj) : Kp w E R (W.alloc o) := h.step ((Below.refl _ _).alloc (Nat.le_refl _) o)
set_option maxHeartbeats 4000000 in
theorem Nil_any (a b c e n l : Int) (k : ByteArray) (A : Option Addr) (m cap : Nat) (w : World) :
    Calls Try.prog 5 #[.agg #[.int .i64 a, .int .i64 b, .int .i64 c, .string k, .slice A m cap], .agg #[.int .i64 e, .int .i64 n], .int .i64 l] w fun r w' => r = .returned (.bool true) ∧ Below w.heap.size w w' := by
  have HK := Lib.hid (Kp.begin w (.cells #[.int .i64 a, .int .i64 b, .int .i64 c, .string k, .slice A m cap] 31) (.cells #[.int .i64 e, .int .i64 n] 34))
  go_enter Try.func5, Try.ntmps5
  go_wp2_with (first
    | (go_at_call 13; refine (Told_nil _ _ _ _).mono ?_; rintro _ w1 ⟨rfl, hb⟩; have HK := Lib.hid (HK.out.step hb); clear hb)
    | (go_at_call 15; refine (Late_nil _).mono ?_; rintro _ w2 ⟨rfl, hb⟩; have HK := Lib.hid (HK.out.step hb); clear hb; have r0 := Mem.cell HK.out.2.2 (j := 0) rfl))
  go_wp2_with (first
    | (go_at_call 21; refine (RTold_nil _ _ _).mono ?_; rintro _ w3 ⟨rfl, hb⟩; have HK := Lib.hid (HK.out.step hb); clear hb)
    | (go_at_call 22; refine (RLate_nil _).mono ?_; rintro _ w4 ⟨rfl, hb⟩; have HK := Lib.hid (HK.out.step hb); clear hb)
    | (go_at_call 28; refine (Ask_nil _).mono ?_; rintro _ w5 ⟨rfl, hb⟩; have HK := Lib.hid ((HK.out.step hb).alloc (.cells #[.int .i64 0, .string ⟨#[]⟩, .string ⟨#[]⟩, .int .i64 0, .int .i64 0] 63)); clear hb)
    | (go_at_call 23; refine (RAsk_nil _).mono ?_; rintro _ w6 ⟨rfl, hb⟩; have HK := Lib.hid ((HK.out.step hb).alloc (.cells #[.int .i64 0, .string ⟨#[]⟩, .string ⟨#[]⟩, .int .i64 0, .int .i64 0] 63)); clear hb)
    | (go_at_call 29; refine (Session_nil _).mono ?_; rintro _ w7 ⟨rfl, hb⟩; have HK := Lib.hid (HK.out.step hb); clear hb)
    | (go_at_call 8; refine (awake_any _).mono ?_; rintro _ w8 ⟨rfl, hb⟩; have HK := Lib.hid (HK.out.step hb); clear hb; have e0 := Mem.cell HK.out.2.1 (j := 0) rfl; have e1 := Mem.cell HK.out.2.1 (j := 1) rfl; have e2 := Mem.cell HK.out.2.1 (j := 2) rfl; have e3 := Mem.cell HK.out.2.1 (j := 3) rfl; have e4 := Mem.cell HK.out.2.1 (j := 4) rfl))
  go_wp2_with (first
    | (go_at_call 11; refine (Add_nil _ _ _ _ _ _ _ _).mono ?_; rintro _ w9 ⟨rfl, hb⟩; have HK := Lib.hid (HK.out.step hb); clear hb)
    | (go_at_call 30; refine (Left_nil _).mono ?_; rintro _ w10 ⟨rfl, hb⟩; have HK := Lib.hid (HK.out.step hb); clear hb)
    | (go_at_call 24; refine (At_nil _).mono ?_; rintro _ w11 ⟨rfl, hb⟩; have HK := Lib.hid (HK.out.step hb); clear hb)
    | (go_at_call 25; refine (Gone_nil _).mono ?_; rintro _ w12 ⟨rfl, hb⟩; have HK := Lib.hid (HK.out.step hb); clear hb)
    | (go_at_call 31; refine (Refused_nil _).mono ?_; rintro _ w13 ⟨rfl, hb⟩; have HK := Lib.hid (HK.out.step hb); clear hb)
    | (go_at_call 26; refine (Got_nil _).mono ?_; rintro _ w14 ⟨rfl, hb⟩; have HK := Lib.hid (HK.out.step hb); clear hb))
  go_ret
  exact ⟨rfl, HK.out.1⟩
end Go.Proofs.Ytbiicflcjipeeaa
