/- The document's teller: next, Late, Add. -/
import Derived.Test.YtbiicflcjipeeaaRTel
namespace Go.Proofs.Ytbiicflcjipeeaa
open Go.RowKit
set_option linter.unusedSimpArgs false
set_option linter.unusedVariables false
open Sp (fold intB textS bs)
attribute [local go_sem] Mem.run_store_float Mem.After.cell
theorem own_lower {w : World} {base base' e size n : Nat} {v : Value} {xs : List Value} (h : w.ownsRow base e size v n xs) (hb : base' ≤ base) : w.ownsRow base' e size v n xs := by
  obtain ⟨h1, h2⟩ := h
  refine ⟨h1, ?_⟩
  rcases h2 with h | ⟨g, cap, cur, rfl, hg, r⟩
  · exact .inl h
  · exact .inr ⟨g, cap, cur, rfl, Nat.le_trans hb hg, r⟩
/-- The document's teller as a value. -/
abbrev rtl (nodes to id seq : Int) (vw vr : Value) : Value := .agg #[.int .i64 nodes, .int .i64 to, .int .i64 id, .int .i64 seq, vw, vr]
theorem three_kept {w w1 : World} {A B C : Obj} (h : Below (((w.alloc A).alloc B).alloc C).heap.size (((w.alloc A).alloc B).alloc C) w1) : Below w.heap.size w w1 ∧ w1.heap[w.heap.size]? = some A ∧ w1.heap[w.heap.size + 1]? = some B ∧ w1.heap[w.heap.size + 2]? = some C := by
  refine ⟨((((Below.refl _ _).alloc (Nat.le_refl _) A).alloc (by simp) B).alloc (by simp; omega) C).trans (h.mono (by simp; omega)), (h.block _ (by simp; omega)).trans (Mem.old (Mem.old (Mem.new w A) B) C), (h.block _ (by simp)).trans (Mem.old (Mem.new_at B (by simp)) C), (h.block _ (by simp)).trans (Mem.new_at C (by simp))⟩
set_option maxRecDepth 100000 in
set_option maxHeartbeats 2000000 in
theorem rnext_any (to nodes : Int) (w : World) (h1 : 1 ≤ nodes) (h2 : nodes ≤ 7) (h3 : 0 ≤ to) (h4 : to < nodes) : Calls Try.prog 44 #[.int .i64 to, .int .i64 nodes] w fun r w' => r = .returned (.int .i64 (nextTo to nodes)) ∧ w' = w := by
  have e1 : IntKind.i64.wrap (to + 1) = to + 1 := IntWalk.i64_in _ (by omega)
  by_cases h : to + 1 < nodes
  · have HE : Hid (nextTo to nodes = to + 1) := Lib.hid (Int.emod_eq_of_lt (by omega) h)
    go_enter Try.func44, Try.ntmps44
    go_wp2_with fail
    go_ret
    exact ⟨by rw [HE.out]; rfl, rfl⟩
  · have HE : Hid (nextTo to nodes = 0) := Lib.hid (by have : to + 1 = nodes := by omega
                                                       unfold nextTo; rw [this]; exact Int.emod_self)
    go_enter Try.func44, Try.ntmps44
    go_wp2_with fail
    go_ret
    exact ⟨by rw [HE.out]; rfl, rfl⟩
set_option maxRecDepth 100000 in
set_option maxHeartbeats 2000000 in
theorem rLate_any (nodes to id seq : Int) (A B : Option Addr) (n m c d : Nat) (w : World) (h1 : 1 ≤ nodes) (h2 : nodes ≤ 7) (h3 : 0 ≤ to) (h4 : to < nodes) :
    Calls Try.prog 14 #[rtl nodes to id seq (.slice A n c) (.slice B m d)] w fun r w' => r = .returned (rtl nodes (nextTo to nodes) id seq (.slice A n c) (.slice B m d)) ∧ Below w.heap.size w w' := by
  go_enter Try.func14, Try.ntmps14
  go_wp2_with (go_at_call 44; refine (rnext_any to nodes _ h1 h2 h3 h4).mono ?_; rintro _ w1 ⟨rfl, rfl⟩)
  refine bodyPost_ret (v := rtl nodes (nextTo to nodes) id seq (.slice A n c) (.slice B m d)) (by simp [results, Try.results14, go_sem, *]) rfl ⟨rfl, ?_⟩
  with_reducible repeat (first | exact Below.refl _ _ | refine Below.setCell ?_ (by simp) _ | refine Below.alloc ?_ (by simp) _ | refine Below.drew ?_ | refine Mem.bdrewN ?_ _)
theorem rCheck_box (r0 : Int) (e : Evt) (A : Option Addr) (n cap : Nat) (ok : Nat → Prop) (w : World) (X C : Obj) (hr : EvR w ok e (.slice A n cap)) (hs : (e.num 1 1).small) (hc : (e.num 1 1).chk = r0) :
    Calls Try.prog 39 #[.agg #[.int .i64 1, .int .i64 1, .int .i64 e.stamp, .string e.kind, .slice A n cap]] (((w.alloc X).alloc (Obj.cells #[Value.int IntKind.i64 1, Value.int IntKind.i64 1, Value.int IntKind.i64 e.stamp, Value.string e.kind, .slice A n cap] 42)).alloc C)
      fun r w' => r = .returned (.int .i64 r0) ∧ Below w.heap.size w w' ∧ w'.heap[w.heap.size]? = some X ∧ w'.heap[w.heap.size + 1]? = some (Obj.cells #[Value.int IntKind.i64 1, Value.int IntKind.i64 1, Value.int IntKind.i64 e.stamp, Value.string e.kind, .slice A n cap] 42) ∧ w'.heap[w.heap.size + 2]? = some C := by
  refine (rCheck_any (e.num 1 1) _ ok _ hs (hr.below ((((Below.refl _ _).alloc (Nat.le_refl _) _).alloc (by simp) _).alloc (by simp; omega) _))).mono ?_
  rintro _ w' ⟨rfl, hb⟩
  exact ⟨by rw [hc], three_kept hb⟩
set_option maxRecDepth 100000 in
set_option maxHeartbeats 4000000 in
theorem rAdd_no (r0 : Int) (nodes to id seq : Int) (A B : Option Addr) (n m c d : Nat) (e : Evt) (vf : Value) (ok : Nat → Prop) (w : World) (he : EvR w ok e vf) (hs : (e.num 1 1).small) (h : ((e.num 1 1).chk = 1 ∧ r0 = 1) ∨ ((e.num 1 1).chk = 0 ∧ 256 ≤ n ∧ r0 = 7)) :
    Calls Try.prog 9 #[rtl nodes to id seq (.slice A n c) (.slice B m d), .agg #[.int .i64 e.session, .int .i64 e.seq, .int .i64 e.stamp, .string e.kind, vf]] w fun r w' => r = .returned (.tuple #[rtl nodes to id seq (.slice A n c) (.slice B m d), .int .i64 r0]) ∧ Below w.heap.size w w' := by
  obtain ⟨Af, cf, rfl⟩ := he.slice
  have HR := Lib.hid he
  have HS := Lib.hid hs
  clear he hs
  rcases h with ⟨hc, rfl⟩ | ⟨hc, hn, rfl⟩
  all_goals
    try have hn' : (256 : Int) ≤ (n : Int) := by omega
    have HC := Lib.hid hc
    clear hc
    go_enter Try.func9, Try.ntmps9
    go_wp2_with (
      go_at_call 39
      refine (rCheck_box _ e Af _ cf ok w _ _ HR.out HS.out HC.out).mono ?_
      rintro _ w1 ⟨rfl, hbl, hX, hY, hZ⟩
      have t0 := Mem.cell hX (j := 0) rfl
      have t1 := Mem.cell hX (j := 1) rfl
      have t2 := Mem.cell hX (j := 2) rfl
      have t3 := Mem.cell hX (j := 3) rfl
      have t4 := Mem.cell hX (j := 4) rfl
      have t5 := Mem.cell hX (j := 5) rfl
      have z0 := Mem.cell hZ (j := 0) rfl
      have z1 := Mem.cell hZ (j := 1) rfl
      have z2 := Mem.cell hZ (j := 2) rfl
      have z3 := Mem.cell hZ (j := 3) rfl
      have z4 := Mem.cell hZ (j := 4) rfl
      have z5 := Mem.cell hZ (j := 5) rfl
      have y0 := Mem.free (j := 0) hZ
      have y1 := Mem.free (j := 1) hZ
      have y2 := Mem.free (j := 2) hZ
      have y3 := Mem.free (j := 3) hZ
      have y4 := Mem.free (j := 4) hZ
      have y5 := Mem.free (j := 5) hZ
      have hlZ := Mem.lt hZ
      have HL := Lib.hid hbl
      clear hbl hX hY hZ)
    refine bodyPost_ret (v := .tuple #[rtl nodes to id seq (.slice A n c) (.slice B m d), .int .i64 _]) (by simp [results, Try.results9, go_sem, *]; try rfl) rfl ⟨rfl, ?_⟩
    have h := HL.out
    with_reducible repeat (first | exact h | refine Below.setCell ?_ (by simp; try omega) _)
set_option maxRecDepth 100000 in
set_option maxHeartbeats 4000000 in
theorem rAdd_yes (nodes to id seq : Int) (A B : Option Addr) (m c d : Nat) (l : List (Evt × Value)) (e : Evt) (vf : Value) (ok ok' : Nat → Prop) (w : World) (hl : REvs w ok' (.slice A l.length c) l) (he : EvR w ok e vf) (hs : (e.num 1 1).small) (hc : (e.num 1 1).chk = 0) (hn : l.length < 256) :
    Calls Try.prog 9 #[rtl nodes to id seq (.slice A l.length c) (.slice B m d), .agg #[.int .i64 e.session, .int .i64 e.seq, .int .i64 e.stamp, .string e.kind, vf]] w
      fun r w' => ∃ v', r = .returned (.tuple #[rtl nodes to id seq v' (.slice B m d), .int .i64 0]) ∧ w'.ownsRow w.heap.size 42 5 v' (l.length + 1) (evs (l ++ [(e.num 0 0, vf)])) ∧ Below w.heap.size w w' := by
  obtain ⟨Af, cf, rfl⟩ := he.slice
  have HR := Lib.hid he
  have HS := Lib.hid hs
  have HC := Lib.hid hc
  have HL0 := Lib.hid hl
  clear he hs hc hl
  have hn' : (l.length : Int) < (256 : Int) := by omega
  go_enter Try.func9, Try.ntmps9
  go_wp2_with (first
    | (go_at_call 39
       refine (rCheck_box 0 e Af _ cf ok w _ _ HR.out HS.out HC.out).mono ?_
       rintro _ w1 ⟨rfl, hbl, hX, hY, hZ⟩
       have t0 := Mem.cell hX (j := 0) rfl
       have t1 := Mem.cell hX (j := 1) rfl
       have t2 := Mem.cell hX (j := 2) rfl
       have t3 := Mem.cell hX (j := 3) rfl
       have t4 := Mem.cell hX (j := 4) rfl
       have t5 := Mem.cell hX (j := 5) rfl
       have e0 := Mem.cell hY (j := 0) rfl
       have e1 := Mem.cell hY (j := 1) rfl
       have e2 := Mem.cell hY (j := 2) rfl
       have e3 := Mem.cell hY (j := 3) rfl
       have e4 := Mem.cell hY (j := 4) rfl
       have g0 := Mem.free (j := 0) hY
       have g1 := Mem.free (j := 1) hY
       have HX := Lib.hid (And.intro hbl (And.intro hX (And.intro hY hZ)))
       have hlZ := Mem.lt hZ
       clear hbl hX hY hZ)
    | (go_at_call 40
       have hsz0 := HX.out.1.size
       refine (put_any (fun _ => True) _ _ l (e.num 0 0) _ ((HL0.out.mono (fun _ _ => trivial)).below (by with_reducible repeat (first | exact HX.out.1 | refine Below.setCell ?_ (by simp) _))) (Mem.Rd.below (w := w) (Mem.Rd.mono HR.out (fun _ _ => trivial)) (by with_reducible repeat (first | exact HX.out.1 | refine Below.setCell ?_ (by simp) _))) (by omega)).mono ?_
       rintro _ w2 ⟨v', rfl, hown, hb2⟩
       obtain ⟨A2, c2', rfl, _⟩ := Qu.q_slice (Qu.q_of_own hown)
       have hX2 : w2.heap[w.heap.size]? = _ := (hb2.block _ (by simp; omega)).trans (Mem.set_ne (Mem.set_ne HX.out.2.1 (by simp)) (by simp))
       have hZ2 : w2.heap[w.heap.size + 2]? = _ := (hb2.block _ (by simp; omega)).trans (Mem.set_ne (Mem.set_ne HX.out.2.2.2 (by simp)) (by simp))
       have hbl2 : Below w.heap.size w w2 := Below.trans (b := (w1.setCell ⟨w.heap.size + 1, 0, none⟩ (Value.int IntKind.i64 0)).setCell ⟨w.heap.size + 1, 1, none⟩ (Value.int IntKind.i64 0)) (by with_reducible repeat (first | exact HX.out.1 | refine Below.setCell ?_ (by simp) _)) (hb2.mono (by simp; omega))
       have s0 := Mem.cell hX2 (j := 0) rfl
       have s1 := Mem.cell hX2 (j := 1) rfl
       have s2 := Mem.cell hX2 (j := 2) rfl
       have s3 := Mem.cell hX2 (j := 3) rfl
       have s4 := Mem.cell hX2 (j := 4) rfl
       have s5 := Mem.cell hX2 (j := 5) rfl
       have i4 := Mem.free (j := 4) hX2
       have z0 := Mem.cell hZ2 (j := 0) rfl
       have z1 := Mem.cell hZ2 (j := 1) rfl
       have z2 := Mem.cell hZ2 (j := 2) rfl
       have z3 := Mem.cell hZ2 (j := 3) rfl
       have z4 := Mem.cell hZ2 (j := 4) rfl
       have z5 := Mem.cell hZ2 (j := 5) rfl
       have y0 := Mem.free (j := 0) hZ2
       have y1 := Mem.free (j := 1) hZ2
       have y2 := Mem.free (j := 2) hZ2
       have y3 := Mem.free (j := 3) hZ2
       have y4 := Mem.free (j := 4) hZ2
       have y5 := Mem.free (j := 5) hZ2
       have hlZ2 := Mem.lt hZ2
       have HF := Lib.hid (And.intro hown hbl2)
       clear hown hbl2 hb2 hX2 hZ2 t0 t1 t2 t3 t4 t5 e0 e1 e2 e3 e4 g0 g1))
  refine bodyPost_ret (v := .tuple #[rtl nodes to id seq (.slice A2 (l.length + 1) c2') (.slice B m d), .int .i64 0]) (by simp [results, Try.results9, go_sem, *]) rfl ⟨_, rfl, ?_, ?_⟩
  · obtain ⟨hown, hbl2⟩ := HF.out
    refine own_lower (own_move hown (fun k hk => ?_)) (by simp; omega)
    have hk2 := (hown.lt k hk).1
    have hk3 : w.heap.size + 2 < k := by simp at hk2; omega
    exact Mem.Ch.block (S := fun k => k = w.heap.size ∨ k = w.heap.size + 1 + 1) (w := w2) (by with_reducible repeat (first | exact Mem.Ch.refl _ _ | refine Mem.Ch.set ?_ (.inr (.inl rfl)) | refine Mem.Ch.set ?_ (.inr (.inr rfl)))) k (hown.lt k hk).2 (by omega)
  · have h := HF.out.2
    with_reducible repeat (first | exact h | refine Below.setCell ?_ (by simp; try omega) _)
end Go.Proofs.Ytbiicflcjipeeaa
