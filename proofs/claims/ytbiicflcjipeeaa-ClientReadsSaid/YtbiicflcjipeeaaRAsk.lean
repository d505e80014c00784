/- The document's teller: Ask. -/
import Derived.Test.YtbiicflcjipeeaaRTel2
namespace Go.Proofs.Ytbiicflcjipeeaa
open Go.RowKit
set_option linter.unusedSimpArgs false
set_option linter.unusedVariables false
open Sp (fold intB textS bs)
attribute [local go_sem] Mem.run_store_float Mem.After.cell
set_option maxRecDepth 100000 in
set_option maxHeartbeats 2000000 in
theorem rAsk_none (nodes to id seq : Int) (A B : Option Addr) (m c d : Nat) (w : World) :
    Calls Try.prog 46 #[rtl nodes to id seq (.slice A 0 c) (.slice B m d)] w fun r w' => r = .returned (.tuple #[.string ⟨#[]⟩, .bool false]) ∧ Below w.heap.size w w' := by
  go_enter Try.func46, Try.ntmps46
  go_wp2_with fail
  exact bodyPost_ret (v := .tuple #[.string ⟨#[]⟩, .bool false]) (by simp [results, Try.results46, go_sem, *]) rfl ⟨rfl, (Below.refl _ _).alloc (Nat.le_refl _) _⟩
set_option maxRecDepth 100000 in
set_option maxHeartbeats 2000000 in
theorem rAsk_open (nodes to seq : Int) (A B : Option Addr) (n m c d : Nat) (w : World) (hn : 0 < n) :
    Calls Try.prog 46 #[rtl nodes to 0 seq (.slice A n c) (.slice B m d)] w fun r w' => r = .returned (.tuple #[.string (numS 1), .bool true]) ∧ Below w.heap.size w w' := by
  have hn' : (0 : Int) < (n : Int) := by omega
  go_enter Try.func46, Try.ntmps46
  go_wp2_with (go_at_call 67; refine (rWrite_open _).mono ?_; rintro _ w1 ⟨rfl, hb1⟩)
  exact bodyPost_ret (v := .tuple #[.string (numS 1), .bool true]) (by simp [results, Try.results46, go_sem, *]) rfl ⟨rfl, ((Below.refl _ _).alloc (Nat.le_refl _) _).trans (hb1.mono (by simp))⟩
set_option maxRecDepth 100000 in
set_option maxHeartbeats 4000000 in
theorem rAsk_event (nodes to id seq : Int) (A B : Option Addr) (n m c d : Nat) (e : Evt) (vf : Value) (l : List (Evt × Value)) (ok : Nat → Prop) (w : World) (hl : REvs w ok (.slice A n c) ((e, vf) :: l)) (hi : id ≠ 0) (hq0 : 0 ≤ seq) (hq1 : seq < 9223372036854775807)
    (hs : (e.num id (seq + 1)).small) (hwf : (e.num id (seq + 1)).wf) :
    Calls Try.prog 46 #[rtl nodes to id seq (.slice A n c) (.slice B m d)] w fun r w' => r = .returned (.tuple #[.string (cmdS (e.num id (seq + 1))), .bool (cmdE (e.num id (seq + 1)) == 0)]) ∧ Below w.heap.size w w' := by
  obtain ⟨hr, hf⟩ := hl
  have hev : EvR w ok e vf := hf (e, vf) List.mem_cons_self
  have hn : 0 < n := by
    obtain ⟨A', c', ea, _⟩ := hr
    cases ea
    simp [evRows]
  obtain ⟨g, o, rfl, hg, hlg, hrow⟩ := hr.row (k := 0) (r := evC e vf) rfl
  obtain ⟨Af, cf, rfl⟩ := hev.slice
  have x0 : w.cell? ⟨g, o, none⟩ = some (.int .i64 e.session) := by simpa using hrow 0 _ rfl
  have x1 : w.cell? ⟨g, o + 1, none⟩ = some (.int .i64 e.seq) := by simpa using hrow 1 _ rfl
  have x2 : w.cell? ⟨g, o + 2, none⟩ = some (.int .i64 e.stamp) := by simpa using hrow 2 _ rfl
  have x3 : w.cell? ⟨g, o + 3, none⟩ = some (.string e.kind) := by simpa using hrow 3 _ rfl
  have x4 : w.cell? ⟨g, o + 4, none⟩ = some (.slice Af e.fields.length cf) := by simpa using hrow 4 _ rfl
  have HEV := Lib.hid hev
  have HS := Lib.hid hs
  have HW := Lib.hid hwf
  have e1 : IntKind.i64.wrap (seq + 1) = seq + 1 := IntWalk.i64_in _ (by omega)
  clear hr hf hev hrow hs hwf
  have hn' : (0 : Int) < (n : Int) := by omega
  have hi' : (id == 0) = false := by simpa using hi
  go_enter Try.func46, Try.ntmps46
  go_wp2_with (go_at_call 67; refine (rWrite_event (e.num id (seq + 1)) _ ok _ HS.out (HEV.out.below (by with_reducible repeat (first | exact Below.refl _ _ | refine Below.setCell ?_ (by simp) _ | refine Below.alloc ?_ (by simp) _))) HW.out).mono ?_; rintro _ w1 ⟨rfl, hb1⟩)
  refine bodyPost_ret (v := .tuple #[.string (cmdS (e.num id (seq + 1))), .bool (cmdE (e.num id (seq + 1)) == 0)]) (by simp [results, Try.results46, go_sem, *]) rfl ⟨rfl, ?_⟩
  exact Below.trans (b := _) (by with_reducible repeat (first | exact Below.refl _ _ | refine Below.setCell ?_ (by simp) _ | refine Below.alloc ?_ (by simp) _)) (hb1.mono (by simp; try omega))
end Go.Proofs.Ytbiicflcjipeeaa
