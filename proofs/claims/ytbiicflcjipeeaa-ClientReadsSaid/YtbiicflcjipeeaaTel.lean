/- A teller in memory. -/
import Derived.Test.YtbiicflcjipeeaaRCmd
import Derived.Test.YtbiicflcjipeeaaQueue
namespace Go.Proofs.Ytbiicflcjipeeaa
open Go.RowKit
set_option linter.unusedSimpArgs false
set_option linter.unusedVariables false
open Sp (fold intB textS bs)
attribute [local go_sem] Mem.run_store_float Mem.After.cell
/-- An event's cells, its fields' slice being vf. -/
def evC (e : Evt) (vf : Value) : List Value := [.int .i64 e.session, .int .i64 e.seq, .int .i64 e.stamp, .string e.kind, vf]
/-- The cells of events in line. -/
def evs (l : List (Evt × Value)) : List Value := l.flatMap fun p => evC p.1 p.2
structure Tl where
  nodes : Int
  to : Int
  id : Int
  seq : Int
  wait : List (Evt × Value)
  refused : List (Evt × Value)
/-- Block b is a teller; all its memory lies in S. -/
def TellerAt (w : World) (S : Nat → Prop) (b : Nat) (t : Tl) : Prop :=
  ∃ q vw vr, w.heap[b]? = some (.cells #[.pointer (some ⟨q, 0, none⟩), .int .i64 t.id, .int .i64 t.seq, vw, vr] 97 (0, 0)) ∧
    w.heap[q]? = some (.cells #[.int .i64 t.nodes, .int .i64 t.to] 95 (0, 0)) ∧ S b ∧ S q ∧ q ≠ b ∧
    Qu.QRow w 0 31 5 vw t.wait.length (evs t.wait) ∧ Qu.QRow w 0 31 5 vr t.refused.length (evs t.refused) ∧
    (∀ k, vw.ownBlock = some k → S k ∧ k ≠ b ∧ k ≠ q ∧ vr.ownBlock ≠ some k) ∧ (∀ k, vr.ownBlock = some k → S k ∧ k ≠ b ∧ k ≠ q) ∧
    ∀ p, p ∈ t.wait ∨ p ∈ t.refused → EvR w (fun k => S k ∧ k ≠ b ∧ k ≠ q ∧ some k ≠ vw.ownBlock ∧ some k ≠ vr.ownBlock) p.1 p.2
theorem EvR.step {w w1 : World} {ok : Nat → Prop} {e : Evt} {vf : Value} (h : EvR w ok e vf) (hs : w.heap.size ≤ w1.heap.size) (hm : ∀ k, ok k → k < w.heap.size → w1.heap[k]? = w.heap[k]?) : EvR w1 ok e vf := Mem.Rd.step h hs hm
theorem EvR.mono {w : World} {ok ok' : Nat → Prop} {e : Evt} {vf : Value} (h : EvR w ok e vf) (hm : ∀ k, ok k → ok' k) : EvR w ok' e vf := Mem.Rd.mono h hm
/-- Nothing of the teller's has changed. -/
theorem TellerAt.step {w w1 : World} {S S' : Nat → Prop} {b : Nat} {t : Tl} (h : TellerAt w S b t) (hs : w.heap.size ≤ w1.heap.size) (hm : ∀ k, S k → k < w.heap.size → w1.heap[k]? = w.heap[k]?) (hS : ∀ k, S k → S' k) : TellerAt w1 S' b t := by
  obtain ⟨q, vw, vr, hb, hq, sb, sq, hne, hw, hr, dw, dr, hf⟩ := h
  refine ⟨q, vw, vr, (hm b sb (Mem.lt hb)).trans hb, (hm q sq (Mem.lt hq)).trans hq, hS b sb, hS q sq, hne, Qu.q_move hw (fun k hk => hm k (dw k hk).1 (Qu.q_lt hw k hk)), Qu.q_move hr (fun k hk => hm k (dr k hk).1 (Qu.q_lt hr k hk)),
    fun k hk => ⟨hS k (dw k hk).1, (dw k hk).2⟩, fun k hk => ⟨hS k (dr k hk).1, (dr k hk).2⟩, fun p hp => ?_⟩
  exact ((hf p hp).step hs (fun k hk hl => hm k hk.1 hl)).mono (fun k hk => ⟨hS k hk.1, hk.2⟩)
theorem TellerAt.below {w w1 : World} {S : Nat → Prop} {b : Nat} {t : Tl} (h : TellerAt w S b t) (hb : Below w.heap.size w w1) : TellerAt w1 S b t := h.step hb.size (fun k _ hk => hb.block k hk) (fun _ h => h)
theorem TellerAt.ch {w w1 : World} {S C : Nat → Prop} {b : Nat} {t : Tl} (h : TellerAt w S b t) (hb : Mem.Ch C w w1) (hd : ∀ k, S k → ¬ C k) : TellerAt w1 S b t := h.step hb.size (fun k hS hk => hb.block k hk (hd k hS)) (fun _ h => h)
def nextTo (to nodes : Int) : Int := (to + 1) % nodes
set_option maxRecDepth 100000 in
set_option maxHeartbeats 2000000 in
theorem askerLate_any (q : Nat) (nodes to : Int) (w : World) (hq : w.heap[q]? = some (.cells #[.int .i64 nodes, .int .i64 to] 95 (0, 0))) (h1 : 1 ≤ nodes) (h2 : nodes ≤ 7) (h3 : 0 ≤ to) (h4 : to < nodes) :
    Calls Try.prog 45 #[.pointer (some ⟨q, 0, none⟩)] w fun r w' => r = .returned (.tuple #[]) ∧ Mem.Ch (fun k => k = q) w w' ∧ w'.heap.size = w.heap.size ∧ w'.heap[q]? = some (.cells #[.int .i64 nodes, .int .i64 (nextTo to nodes)] 95 (0, 0)) := by
  have c0 : w.cell? ⟨q, 0, none⟩ = some (.int .i64 nodes) := Mem.cell hq rfl
  have c1 : w.cell? ⟨q, 1, none⟩ = some (.int .i64 to) := Mem.cell hq rfl
  have f1 : w.frozen? ⟨q, 1, none⟩ = false := Mem.free hq
  have HQ := Lib.hid hq
  clear hq
  go_enter Try.func45, Try.ntmps45
  go_wp2_with fail
  go_region
  all_goals
    go_end0
    exact ⟨rfl, ((Mem.Ch.refl (fun k => k = q) _).set (.inr rfl)).drew, by simp [World.setCell], Mem.set HQ.out⟩
/-- The head of a teller was written, nothing else. -/
theorem TellerAt.hdr {w w1 : World} {S : Nat → Prop} {b q : Nat} {vw vr : Value} {t t1 : Tl}
    (sb : S b) (sq : S q) (hne : q ≠ b) (hw : Qu.QRow w 0 31 5 vw t.wait.length (evs t.wait)) (hr : Qu.QRow w 0 31 5 vr t.refused.length (evs t.refused))
    (dw : ∀ k, vw.ownBlock = some k → S k ∧ k ≠ b ∧ k ≠ q ∧ vr.ownBlock ≠ some k) (dr : ∀ k, vr.ownBlock = some k → S k ∧ k ≠ b ∧ k ≠ q)
    (hf : ∀ p, p ∈ t.wait ∨ p ∈ t.refused → EvR w (fun k => S k ∧ k ≠ b ∧ k ≠ q ∧ some k ≠ vw.ownBlock ∧ some k ≠ vr.ownBlock) p.1 p.2)
    (hch : Mem.Ch (fun k => k = q ∨ k = b) w w1)
    (hb1 : w1.heap[b]? = some (.cells #[.pointer (some ⟨q, 0, none⟩), .int .i64 t1.id, .int .i64 t1.seq, vw, vr] 97 (0, 0)))
    (hq1 : w1.heap[q]? = some (.cells #[.int .i64 t1.nodes, .int .i64 t1.to] 95 (0, 0))) (ew : t1.wait = t.wait) (er : t1.refused = t.refused) : TellerAt w1 S b t1 := by
  refine ⟨q, vw, vr, hb1, hq1, sb, sq, hne, ?_, ?_, dw, dr, ?_⟩
  · rw [ew]; exact Qu.q_move hw (fun k hk => hch.block k (Qu.q_lt hw k hk) (fun h => by have := dw k hk; omega))
  · rw [er]; exact Qu.q_move hr (fun k hk => hch.block k (Qu.q_lt hr k hk) (fun h => by have := dr k hk; omega))
  · intro p hp
    rw [ew, er] at hp
    exact (hf p hp).step hch.size (fun k hk hl => hch.block k hl (fun h => by have := hk.2; omega))
/-- What a teller's numbers are. -/
def Tl.fit (t : Tl) : Prop := 1 ≤ t.nodes ∧ t.nodes ≤ 7 ∧ 0 ≤ t.to ∧ t.to < t.nodes
def leadTo (to nodes i : Int) : Int := if 0 ≤ i ∧ i < nodes then i else nextTo to nodes
set_option maxRecDepth 100000 in
set_option maxHeartbeats 2000000 in
theorem lead_any (q : Nat) (nodes to i : Int) (w : World) (hq : w.heap[q]? = some (.cells #[.int .i64 nodes, .int .i64 to] 95 (0, 0))) (h1 : 1 ≤ nodes) (h2 : nodes ≤ 7) (h3 : 0 ≤ to) (h4 : to < nodes) :
    Calls Try.prog 43 #[.pointer (some ⟨q, 0, none⟩), .int .i64 i] w fun r w' => r = .returned (.tuple #[]) ∧ Mem.Ch (fun k => k = q) w w' ∧ w'.heap.size = w.heap.size ∧
      w'.heap[q]? = some (.cells #[.int .i64 nodes, .int .i64 (leadTo to nodes i)] 95 (0, 0)) := by
  have c0 : w.cell? ⟨q, 0, none⟩ = some (.int .i64 nodes) := Mem.cell hq rfl
  have c1 : w.cell? ⟨q, 1, none⟩ = some (.int .i64 to) := Mem.cell hq rfl
  have f1 : w.frozen? ⟨q, 1, none⟩ = false := Mem.free hq
  have HQ := Lib.hid hq
  clear hq
  by_cases hin : 0 ≤ i ∧ i < nodes
  · obtain ⟨i0, i1⟩ := hin
    have HE : Hid (leadTo to nodes i = i) := Lib.hid (if_pos ⟨i0, i1⟩)
    go_enter Try.func43, Try.ntmps43
    go_wp2_with fail
    go_end0
    exact ⟨rfl, (Mem.Ch.refl (fun k => k = q) _).set (.inr rfl), by simp [World.setCell], by rw [HE.out]; exact Mem.set HQ.out⟩
  · have HE : Hid (leadTo to nodes i = nextTo to nodes) := Lib.hid (if_neg hin)
    have hc : i < 0 ∨ nodes ≤ i := by omega
    rcases hc with hc | hc
    all_goals
      go_enter Try.func43, Try.ntmps43
      go_wp2_with (go_at_call 45; refine (askerLate_any q nodes to _ HQ.out h1 h2 h3 h4).mono ?_; rintro _ w1 ⟨rfl, hc1, hz1, hq1⟩)
      refine bodyPost_ret (results_none rfl _ _ _) rfl ?_
      exact ⟨rfl, hc1, hz1, by rw [HE.out]; exact hq1⟩
set_option maxRecDepth 100000 in
set_option maxHeartbeats 2000000 in
theorem Late_any (S : Nat → Prop) (b : Nat) (t : Tl) (w : World) (h : TellerAt w S b t) (hf : t.fit) :
    Calls Try.prog 15 #[.pointer (some ⟨b, 0, none⟩)] w fun r w' => r = .returned (.tuple #[]) ∧ Mem.Ch S w w' ∧ TellerAt w' S b { t with to := nextTo t.to t.nodes } := by
  obtain ⟨q, vw, vr, hb, hq, sb, sq, hne, hw, hr, dw, dr, hff⟩ := h
  obtain ⟨f1, f2, f3, f4⟩ := hf
  have b0 : w.cell? ⟨b, 0, none⟩ = some (.pointer (some ⟨q, 0, none⟩)) := Mem.cell hb rfl
  have HH := Lib.hid (And.intro hb (And.intro hw (And.intro hr (And.intro dw (And.intro dr hff)))))
  have HQ := Lib.hid hq
  clear hb hw hr dw dr hff hq
  go_enter Try.func15, Try.ntmps15
  go_wp2_with (go_at_call 45; refine (askerLate_any q t.nodes t.to _ HQ.out f1 f2 f3 f4).mono ?_; rintro _ w1 ⟨rfl, hc1, hz1, hq1⟩)
  go_end0
  obtain ⟨hb, hw, hr, dw, dr, hff⟩ := HH.out
  exact ⟨rfl, hc1.mono (fun k _ hk => by rw [hk]; exact sq), TellerAt.hdr (t1 := { t with to := nextTo t.to t.nodes }) sb sq hne hw hr dw dr hff (hc1.mono (fun k _ hk => .inl hk)) (hc1.at_ hb (fun h => hne h.symm)) hq1 rfl rfl⟩
set_option maxRecDepth 100000 in
set_option maxHeartbeats 2000000 in
theorem some_yes (n : Int) (w : World) (h1 : 1 ≤ n) (h7 : n ≤ 7) : Calls Try.prog 38 #[.int .i64 n] w fun r w' => r = .returned (.bool true) ∧ w = w' := by
  go_enter Try.func38, Try.ntmps38
  go_wp2_with fail
  go_ret
  exact ⟨Mem.ret_bool (by first | rfl | (simp; omega)), rfl⟩
set_option maxRecDepth 100000 in
set_option maxHeartbeats 2000000 in
theorem some_no (n : Int) (w : World) (h : n < 1 ∨ 7 < n) : Calls Try.prog 38 #[.int .i64 n] w fun r w' => r = .returned (.bool false) ∧ w = w' := by
  rcases h with h | h
  all_goals
    go_enter Try.func38, Try.ntmps38
    go_wp2_with fail
    all_goals
      go_ret
      exact ⟨Mem.ret_bool (by first | rfl | (simp; omega)), rfl⟩
set_option maxRecDepth 100000 in
set_option maxHeartbeats 2000000 in
theorem NewTeller_no (n : Int) (w : World) (h : n < 1 ∨ 7 < n) : Calls Try.prog 7 #[.int .i64 n] w fun r w' => r = .returned (.pointer none) ∧ w = w' := by
  have HH := Lib.hid h
  clear h
  go_enter Try.func7, Try.ntmps7
  go_wp2_with (go_at_call 38; refine (some_no n _ HH.out).mono ?_; rintro _ w1 ⟨rfl, rfl⟩)
  go_ret
  exact ⟨rfl, rfl⟩
set_option maxRecDepth 100000 in
set_option maxHeartbeats 2000000 in
theorem NewTeller_yes (n : Int) (w : World) (h1 : 1 ≤ n) (h7 : n ≤ 7) : Calls Try.prog 7 #[.int .i64 n] w fun r w' => ∃ b, r = .returned (.pointer (some ⟨b, 0, none⟩)) ∧ Below w.heap.size w w' ∧ w.heap.size ≤ b ∧ TellerAt w' (fun k => w.heap.size ≤ k ∧ k < w'.heap.size) b ⟨n, 0, 0, 0, [], []⟩ := by
  go_enter Try.func7, Try.ntmps7
  go_wp2_with (go_at_call 38; refine (some_yes n _ h1 h7).mono ?_; rintro _ w1 ⟨rfl, rfl⟩)
  go_ret
  refine ⟨w.heap.size + 1, rfl, ((Below.refl _ _).alloc (Nat.le_refl _) _).alloc (by simp) _, by omega, w.heap.size, .slice none 0 0, .slice none 0 0, ?_, Mem.old (Mem.new _ _) _, ⟨by omega, by simp⟩, ⟨by omega, by simp; omega⟩, by omega, ?_, ?_, ?_, ?_, ?_⟩
  · have := Mem.new (w.alloc (Obj.cells #[Value.int IntKind.i64 n, Value.int IntKind.i64 0] 95)) (Obj.cells #[Value.pointer (some ⟨w.heap.size, 0, none⟩), Value.int IntKind.i64 0, Value.int IntKind.i64 0, Value.slice none 0 0, Value.slice none 0 0] 97)
    simpa using this
  · exact Qu.q_of_own (World.ownsRow_nil _ _ _ _)
  · exact Qu.q_of_own (World.ownsRow_nil _ _ _ _)
  · intro k hk; simp [Value.ownBlock] at hk
  · intro k hk; simp [Value.ownBlock] at hk
  · intro p hp; simp at hp
end Go.Proofs.Ytbiicflcjipeeaa
