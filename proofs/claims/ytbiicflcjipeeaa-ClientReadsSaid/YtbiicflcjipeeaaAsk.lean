/- Teller.Session, Left, Ask. -/
import Derived.Test.YtbiicflcjipeeaaAdd
import Derived.IntWalk
namespace Go.Proofs.Ytbiicflcjipeeaa
open Go.RowKit
set_option linter.unusedSimpArgs false
set_option linter.unusedVariables false
open Sp (fold intB textS bs)
attribute [local go_sem] Mem.run_store_float Mem.After.cell
theorem two_kept {w w1 : World} {A B : Obj} (h : Below ((w.alloc A).alloc B).heap.size ((w.alloc A).alloc B) w1) : Below w.heap.size w w1 ∧ w1.heap[w.heap.size]? = some A ∧ w1.heap[w.heap.size + 1]? = some B := by
  refine ⟨(((Below.refl _ _).alloc (Nat.le_refl _) A).alloc (by simp) B).trans (h.mono (by simp; omega)), (h.block _ (by simp; omega)).trans (Mem.old (Mem.new w A) B), (h.block _ (by simp)).trans ?_⟩
  have := Mem.new (w.alloc A) B
  simpa using this
theorem then_kept {w W w1 : World} {A : Obj} (h1 : Below w.heap.size w W) (hA : W.heap[w.heap.size]? = some A) (h : Below W.heap.size W w1) : Below w.heap.size w w1 ∧ w1.heap[w.heap.size]? = some A :=
  ⟨h1.trans (h.mono h1.size), (h.block _ (Mem.lt hA)).trans hA⟩
theorem heap_drewN {w : World} {g : Nat} {o : Obj} (h : w.heap[g]? = some o) (n : Nat) : (w.drewN n).heap[g]? = some o := h
set_option maxRecDepth 100000 in
set_option maxHeartbeats 2000000 in
theorem Session_any (S : Nat → Prop) (b : Nat) (t : Tl) (w : World) (h : TellerAt w S b t) :
    Calls Try.prog 29 #[.pointer (some ⟨b, 0, none⟩)] w fun r w' => r = .returned (.tuple #[.int .i64 t.id, .int .i64 t.seq]) ∧ Below w.heap.size w w' := by
  obtain ⟨q, vw, vr, hb, hq, sb, sq, hne, hw, hr, dw, dr, hff⟩ := h
  have b1 := Mem.cell hb (j := 1) rfl
  have b2 := Mem.cell hb (j := 2) rfl
  clear hb hq hw hr dw dr hff
  go_enter Try.func29, Try.ntmps29
  go_wp2_with fail
  repeat (go_quiet (fail); try go_wp2_with fail)
  refine bodyPost_ret (v := .tuple #[.int .i64 t.id, .int .i64 t.seq]) (by simp [results, Try.results29, go_sem, *]) rfl ⟨rfl, ?_⟩
  first | exact Below.refl _ _ | exact (Below.refl _ _).drew | exact Mem.bdrewN (Below.refl _ _) _
set_option maxRecDepth 100000 in
set_option maxHeartbeats 2000000 in
theorem Left_any (S : Nat → Prop) (b : Nat) (t : Tl) (w : World) (h : TellerAt w S b t) :
    Calls Try.prog 30 #[.pointer (some ⟨b, 0, none⟩)] w fun r w' => r = .returned (.int .i64 t.wait.length) ∧ Below w.heap.size w w' := by
  obtain ⟨q, vw, vr, hb, hq, sb, sq, hne, hw, hr, dw, dr, hff⟩ := h
  obtain ⟨Aw, cw, rfl, hcw⟩ := Qu.q_slice hw
  have b3 := Mem.cell hb (j := 3) rfl
  clear hb hq hw hr dw dr hff
  go_enter Try.func30, Try.ntmps30
  go_wp2_with fail
  go_ret
  exact ⟨rfl, Below.refl _ _⟩
set_option maxRecDepth 100000 in
set_option maxHeartbeats 2000000 in
theorem Ask_none (S : Nat → Prop) (b : Nat) (t : Tl) (w : World) (h : TellerAt w S b t) (he : t.wait = []) :
    Calls Try.prog 28 #[.pointer (some ⟨b, 0, none⟩)] w fun r w' => r = .returned (.tuple #[.agg #[.int .i64 0, .string ⟨#[]⟩, .string ⟨#[]⟩, .int .i64 0, .int .i64 0], .bool false]) ∧ Below w.heap.size w w' := by
  obtain ⟨q, vw, vr, hb, hq, sb, sq, hne, hw, hr, dw, dr, hff⟩ := h
  rw [he] at hw
  obtain ⟨Aw, cw, rfl, hcw⟩ := Qu.q_slice hw
  have b3 := Mem.cell hb (j := 3) rfl
  have hlb := Mem.lt hb
  clear hb hq hw hr dw dr hff
  simp only [List.length_nil] at b3
  go_enter Try.func28, Try.ntmps28
  go_wp2_with fail
  exact bodyPost_ret (v := .tuple #[.agg #[.int .i64 0, .string ⟨#[]⟩, .string ⟨#[]⟩, .int .i64 0, .int .i64 0], .bool false]) (by simp [results, Try.results28, go_sem, *]) rfl ⟨rfl, (Below.refl _ _).alloc (Nat.le_refl _) _⟩
set_option maxRecDepth 100000 in
set_option maxHeartbeats 2000000 in
theorem Ask_open (S : Nat → Prop) (b : Nat) (t : Tl) (w : World) (h : TellerAt w S b t) (he : t.wait ≠ []) (hi : t.id = 0) :
    Calls Try.prog 28 #[.pointer (some ⟨b, 0, none⟩)] w fun r w' => r = .returned (.tuple #[.agg #[.int .i64 t.to, .string (numS 1), .string ⟨#[]⟩, .int .i64 0, .int .i64 0], .bool true]) ∧ Below w.heap.size w w' := by
  obtain ⟨q, vw, vr, hb, hq, sb, sq, hne, hw, hr, dw, dr, hff⟩ := h
  obtain ⟨Aw, cw, rfl, hcw⟩ := Qu.q_slice hw
  rw [hi] at hb
  have b1 := Mem.cell hb (j := 1) rfl
  have b3 := Mem.cell hb (j := 3) rfl
  have hlb := Mem.lt hb
  have HB := Lib.hid hb
  have HQ := Lib.hid hq
  clear hb hq hw hr dw dr hff
  have hn : (0 : Int) < (t.wait.length : Int) := by have := List.length_pos_iff.2 he; omega
  go_enter Try.func28, Try.ntmps28
  go_wp2_with (
    go_at_call 50
    refine (Write_open _).mono ?_
    rintro _ w1 ⟨rfl, hb1⟩
    obtain ⟨hbl, hA, hB⟩ := two_kept hb1
    have b01 := Mem.cell ((hbl.block b hlb).trans HB.out) (j := 0) rfl
    have q11 := Mem.cell ((hbl.block q (Mem.lt HQ.out)).trans HQ.out) (j := 1) rfl
    have r0 := Mem.cell hA (j := 0) rfl
    have r1 := Mem.cell hA (j := 1) rfl
    have r2 := Mem.cell hA (j := 2) rfl
    have r3 := Mem.cell hA (j := 3) rfl
    have r4 := Mem.cell hA (j := 4) rfl
    have g0 := Mem.free (j := 0) hA
    have g1 := Mem.free (j := 1) hA
    have g2 := Mem.free (j := 2) hA
    have g3 := Mem.free (j := 3) hA
    have g4 := Mem.free (j := 4) hA
    have hsz := hbl.size
    have hlA := Mem.lt hA
    have HL := Lib.hid hbl
    clear hbl hA hB hb1)
  refine bodyPost_ret (v := .tuple #[.agg #[.int .i64 t.to, .string (numS 1), .string ⟨#[]⟩, .int .i64 0, .int .i64 0], .bool true]) (by simp [results, Try.results28, go_sem, *]) rfl ⟨rfl, ?_⟩
  have h := HL.out
  with_reducible repeat (first | exact h | refine Below.setCell ?_ (by simp) _)
theorem q_head {w : World} {base e n c : Nat} {A : Option Addr} {xs : List Value} {size : Nat} (h : Qu.QRow w base e size (.slice A n c) n xs) (hn : 0 < n) :
    ∃ g o, A = some ⟨g, o, none⟩ ∧ g < w.heap.size ∧ (Value.slice A n c).ownBlock = some g ∧ ∀ j u, xs[j]? = some u → w.cell? ⟨g, o + j, none⟩ = some u := by
  have hx := h
  rcases h.2 with ⟨h0, _⟩ | ⟨g, off, cap, cur, he, hg, hh, hnc, hm, hcs, ht⟩
  · omega
  · injection he with ha _ hc
    subst ha
    obtain ⟨ad, ea, hc⟩ := Qu.q_cells hx hn
    cases ea
    exact ⟨g, off * size, rfl, Mem.lt hh, rfl, fun j u hu => by have := hc j u hu; rwa [Qu.add_at] at this⟩
set_option maxRecDepth 100000 in
set_option maxHeartbeats 4000000 in
theorem Ask_event (S : Nat → Prop) (b : Nat) (t : Tl) (p : Evt × Value) (r : List (Evt × Value)) (w : World) (h : TellerAt w S b t) (he : t.wait = p :: r) (hi : t.id ≠ 0) (hq0 : 0 ≤ t.seq) (hq1 : t.seq < 9223372036854775807)
    (hs : (p.1.num t.id (t.seq + 1)).small) (hwf : (p.1.num t.id (t.seq + 1)).wf) :
    Calls Try.prog 28 #[.pointer (some ⟨b, 0, none⟩)] w fun r w' => r = .returned (.tuple #[.agg #[.int .i64 t.to, .string (cmdS (p.1.num t.id (t.seq + 1))), .string ⟨#[]⟩, .int .i64 0, .int .i64 0], .bool (cmdE (p.1.num t.id (t.seq + 1)) == 0)]) ∧ Below w.heap.size w w' := by
  obtain ⟨q, vw, vr, hb, hq, sb, sq, hne, hw, hr, dw, dr, hff⟩ := h
  obtain ⟨e, vf⟩ := p
  dsimp only at hs hwf ⊢
  have hev : EvR w _ e vf := (hff (e, vf) (.inl (by rw [he]; exact List.mem_cons_self)))
  rw [he] at hw
  obtain ⟨Aw, cw, rfl, hcw⟩ := Qu.q_slice hw
  obtain ⟨g, o, rfl, hlg, hog, hcells⟩ := q_head hw (by simp)
  have x0 := hcells 0 (.int .i64 e.session) rfl
  have x1 := hcells 1 (.int .i64 e.seq) rfl
  have x2 := hcells 2 (.int .i64 e.stamp) rfl
  have x3 := hcells 3 (.string e.kind) rfl
  have x4 := hcells 4 vf rfl
  rw [Nat.add_zero] at x0
  obtain ⟨Af, cf, rfl⟩ := hev.slice
  have b1 := Mem.cell hb (j := 1) rfl
  have b2 := Mem.cell hb (j := 2) rfl
  have b3 := Mem.cell hb (j := 3) rfl
  have hlb := Mem.lt hb
  have HB := Lib.hid hb
  have HQ := Lib.hid hq
  have HEV := Lib.hid hev
  have HS := Lib.hid hs
  have HW := Lib.hid hwf
  have e1 : IntKind.i64.wrap (t.seq + 1) = t.seq + 1 := IntWalk.i64_in _ (by omega)
  clear hb hq hw hr dw dr hff hev hcells hs hwf
  have hn : (0 : Int) < ((((e, Value.slice Af e.fields.length cf) :: r : List (Evt × Value)).length : Nat) : Int) := by simp
  have hi' : (t.id == 0) = false := by simpa using hi
  generalize (((e, Value.slice Af e.fields.length cf) :: r : List (Evt × Value)).length) = N at *
  go_enter Try.func28, Try.ntmps28
  go_wp2_with (go_at_call 50; fail)
  go_region
  all_goals
    go_wp2_with (
      go_at_call 50
      refine (Write_event (e.num t.id (t.seq + 1)) _ _ _ HS.out (HEV.out.below (by with_reducible repeat (first | exact Below.refl _ _ | refine Below.setCell ?_ (by simp) _ | refine Below.alloc ?_ (by simp) _ | refine Below.drew ?_ | refine Mem.bdrewN ?_ _))) HW.out).mono ?_
      rintro _ w1 ⟨rfl, hb1⟩
      obtain ⟨hbl, hA⟩ := then_kept (w := w) (A := .cells #[.int .i64 0, .string ⟨#[]⟩, .string ⟨#[]⟩, .int .i64 0, .int .i64 0] 63) (by with_reducible repeat (first | exact Below.refl _ _ | refine Below.setCell ?_ (by simp) _ | refine Below.alloc ?_ (by simp) _ | refine Below.drew ?_ | refine Mem.bdrewN ?_ _))
        (by with_reducible repeat (first | exact Mem.new _ _ | refine Mem.old ?_ _ | refine Mem.set_ne ?_ (by simp) | refine Mem.drew ?_ | refine heap_drewN ?_ _)) hb1
      have b01 := Mem.cell ((hbl.block b hlb).trans HB.out) (j := 0) rfl
      have q11 := Mem.cell ((hbl.block q (Mem.lt HQ.out)).trans HQ.out) (j := 1) rfl
      have r0 := Mem.cell hA (j := 0) rfl
      have r1 := Mem.cell hA (j := 1) rfl
      have r2 := Mem.cell hA (j := 2) rfl
      have r3 := Mem.cell hA (j := 3) rfl
      have r4 := Mem.cell hA (j := 4) rfl
      have g0 := Mem.free (j := 0) hA
      have g1 := Mem.free (j := 1) hA
      have g2 := Mem.free (j := 2) hA
      have g3 := Mem.free (j := 3) hA
      have g4 := Mem.free (j := 4) hA
      have hsz := hbl.size
      have hlA := Mem.lt hA
      have HL := Lib.hid hbl
      clear hbl hA hb1)
  all_goals
    refine bodyPost_ret (v := .tuple #[.agg #[.int .i64 t.to, .string (cmdS (e.num t.id (t.seq + 1))), .string ⟨#[]⟩, .int .i64 0, .int .i64 0], .bool (cmdE (e.num t.id (t.seq + 1)) == 0)]) (by simp [results, Try.results28, go_sem, *]) rfl ⟨rfl, ?_⟩
    have h := HL.out
    with_reducible repeat (first | exact h | refine Below.setCell ?_ (by simp) _)
end Go.Proofs.Ytbiicflcjipeeaa
