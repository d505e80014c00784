/- A reader in memory; what it asks, where it stands, what it got. -/
import Derived.Test.YtbiicflcjipeeaaRd2
import Derived.Deep.RegionHeld3
namespace Go.Proofs.Ytbiicflcjipeeaa
open Go.RowKit
set_option linter.unusedSimpArgs false
set_option linter.unusedVariables false
attribute [local go_sem] Mem.run_store_float Mem.After.cell
structure Rr where
  nodes : Int
  to : Int
  name : ByteArray
  most : Int
  at_ : Int
  gone : Int
  got : List (Int × Value × List Int)
def gotC (p : Int × Value × List Int) : List Value := [.int .i64 p.1, p.2.1]
def gots (l : List (Int × Value × List Int)) : List Value := (l.map gotC).flatten
theorem gots_snoc (l : List (Int × Value × List Int)) (p : Int × Value × List Int) : gots (l ++ [p]) = gots l ++ gotC p := by simp [gots]
theorem gotC_rows (l : List (Int × Value × List Int)) : ∀ r ∈ l.map gotC, r.length = 2 := by
  intro r hr
  obtain ⟨n, _, rfl⟩ := List.mem_map.1 hr
  rfl
theorem info_got : (Try.prog.info? 72).map (fun i => (i.zero, i.size, i.bytes)) = some (some (.agg #[.int .i64 0, .slice none 0 0]), 2, 32) := by kernel_rfl
/-- Block b is a reader; all its memory lies in S. -/
def ReaderAt (w : World) (S : Nat → Prop) (b : Nat) (r : Rr) : Prop :=
  ∃ q vg, w.heap[b]? = some (.cells #[.pointer (some ⟨q, 0, none⟩), .string r.name, .int .i64 r.most, .int .i64 r.at_, .int .i64 r.gone, vg] 115 (0, 0)) ∧
    w.heap[q]? = some (.cells #[.int .i64 r.nodes, .int .i64 r.to] 95 (0, 0)) ∧ S b ∧ S q ∧ q ≠ b ∧
    Qu.QRow w 0 72 2 vg r.got.length (gots r.got) ∧ (∀ k, vg.ownBlock = some k → S k ∧ k ≠ b ∧ k ≠ q) ∧
    ∀ p, p ∈ r.got → IntsR w (fun k => S k ∧ k ≠ b ∧ k ≠ q ∧ some k ≠ vg.ownBlock) p.2.1 p.2.2
theorem ReaderAt.step {w w1 : World} {S S' : Nat → Prop} {b : Nat} {r : Rr} (h : ReaderAt w S b r) (hs : w.heap.size ≤ w1.heap.size) (hm : ∀ k, S k → k < w.heap.size → w1.heap[k]? = w.heap[k]?) (hS : ∀ k, S k → S' k) : ReaderAt w1 S' b r := by
  obtain ⟨q, vg, hb, hq, sb, sq, hne, hw, dw, hf⟩ := h
  refine ⟨q, vg, (hm b sb (Mem.lt hb)).trans hb, (hm q sq (Mem.lt hq)).trans hq, hS b sb, hS q sq, hne, Qu.q_move hw (fun k hk => hm k (dw k hk).1 (Qu.q_lt hw k hk)), fun k hk => ⟨hS k (dw k hk).1, (dw k hk).2⟩, fun p hp => ?_⟩
  exact ((hf p hp).step hs (fun k hk hl => hm k hk.1 hl)).mono (fun k hk => ⟨hS k hk.1, hk.2⟩)
theorem ReaderAt.below {w w1 : World} {S : Nat → Prop} {b : Nat} {r : Rr} (h : ReaderAt w S b r) (hb : Below w.heap.size w w1) : ReaderAt w1 S b r := h.step hb.size (fun k _ hk => hb.block k hk) (fun _ h => h)
theorem ReaderAt.mono {w : World} {S S' : Nat → Prop} {b : Nat} {r : Rr} (h : ReaderAt w S b r) (hS : ∀ k, S k → S' k) : ReaderAt w S' b r := h.step (Nat.le_refl _) (fun _ _ _ => rfl) hS
/-- The head of a reader was written, nothing else. -/
theorem ReaderAt.hdr {w w1 : World} {S : Nat → Prop} {b q : Nat} {vg : Value} {r r1 : Rr} (sb : S b) (sq : S q) (hne : q ≠ b) (hw : Qu.QRow w 0 72 2 vg r.got.length (gots r.got)) (dw : ∀ k, vg.ownBlock = some k → S k ∧ k ≠ b ∧ k ≠ q)
    (hf : ∀ p, p ∈ r.got → IntsR w (fun k => S k ∧ k ≠ b ∧ k ≠ q ∧ some k ≠ vg.ownBlock) p.2.1 p.2.2) (hch : Mem.Ch (fun k => k = q ∨ k = b) w w1)
    (hb1 : w1.heap[b]? = some (.cells #[.pointer (some ⟨q, 0, none⟩), .string r1.name, .int .i64 r1.most, .int .i64 r1.at_, .int .i64 r1.gone, vg] 115 (0, 0)))
    (hq1 : w1.heap[q]? = some (.cells #[.int .i64 r1.nodes, .int .i64 r1.to] 95 (0, 0))) (eg : r1.got = r.got) : ReaderAt w1 S b r1 := by
  refine ⟨q, vg, hb1, hq1, sb, sq, hne, ?_, dw, fun p hp => ?_⟩
  · rw [eg]; exact Qu.q_move hw (fun k hk => hch.block k (Qu.q_lt hw k hk) (fun h => by have := dw k hk; omega))
  · rw [eg] at hp
    exact (hf p hp).step hch.size (fun k hk hl => hch.block k hl (fun h => by have := hk.2; omega))
set_option maxRecDepth 100000 in
set_option maxHeartbeats 2000000 in
theorem RdLate_any (S : Nat → Prop) (b : Nat) (r : Rr) (w : World) (h : ReaderAt w S b r) (f1 : 1 ≤ r.nodes) (f2 : r.nodes ≤ 7) (f3 : 0 ≤ r.to) (f4 : r.to < r.nodes) :
    Calls Try.prog 22 #[.pointer (some ⟨b, 0, none⟩)] w fun e w' => e = .returned (.tuple #[]) ∧ Mem.Ch S w w' ∧ ReaderAt w' S b { r with to := nextTo r.to r.nodes } := by
  obtain ⟨q, vg, hb, hq, sb, sq, hne, hw, dw, hff⟩ := h
  have b0 : w.cell? ⟨b, 0, none⟩ = some (.pointer (some ⟨q, 0, none⟩)) := Mem.cell hb rfl
  have HH := Lib.hid (And.intro hb (And.intro hw (And.intro dw hff)))
  have HQ := Lib.hid hq
  clear hb hw dw hff hq
  go_enter Try.func22, Try.ntmps22
  go_wp2_with (go_at_call 45; refine (askerLate_any q r.nodes r.to _ HQ.out f1 f2 f3 f4).mono ?_; rintro _ w1 ⟨rfl, hc1, hz1, hq1⟩)
  go_end0
  obtain ⟨hb, hw, dw, hff⟩ := HH.out
  exact ⟨rfl, hc1.mono (fun k _ hk => by rw [hk]; exact sq), ReaderAt.hdr (r1 := { r with to := nextTo r.to r.nodes }) sb sq hne hw dw hff (hc1.mono (fun k _ hk => .inl hk)) (hc1.at_ hb (fun h => hne h.symm)) hq1 rfl⟩
set_option maxRecDepth 100000 in
set_option maxHeartbeats 2000000 in
theorem RdAt_any (S : Nat → Prop) (b : Nat) (r : Rr) (w : World) (h : ReaderAt w S b r) :
    Calls Try.prog 24 #[.pointer (some ⟨b, 0, none⟩)] w fun e w' => e = .returned (.int .i64 r.at_) ∧ Below w.heap.size w w' := by
  obtain ⟨q, vg, hb, hq, sb, sq, hne, hw, dw, hff⟩ := h
  have b3 := Mem.cell hb (j := 3) rfl
  clear hb hw dw hff hq
  go_enter Try.func24, Try.ntmps24
  go_wp2_with fail
  go_ret
  exact ⟨rfl, Below.refl _ _⟩
set_option maxRecDepth 100000 in
set_option maxHeartbeats 2000000 in
theorem RdGone_any (S : Nat → Prop) (b : Nat) (r : Rr) (w : World) (h : ReaderAt w S b r) :
    Calls Try.prog 25 #[.pointer (some ⟨b, 0, none⟩)] w fun e w' => e = .returned (.int .i64 r.gone) ∧ Below w.heap.size w w' := by
  obtain ⟨q, vg, hb, hq, sb, sq, hne, hw, dw, hff⟩ := h
  have b4 := Mem.cell hb (j := 4) rfl
  clear hb hw dw hff hq
  go_enter Try.func25, Try.ntmps25
  go_wp2_with fail
  go_ret
  exact ⟨rfl, Below.refl _ _⟩
set_option maxRecDepth 100000 in
set_option maxHeartbeats 4000000 in
theorem RdAsk_any (S : Nat → Prop) (b : Nat) (r : Rr) (w : World) (h : ReaderAt w S b r) :
    Calls Try.prog 23 #[.pointer (some ⟨b, 0, none⟩)] w fun e w' => e = .returned (.tuple #[.agg #[.int .i64 r.to, .string ⟨#[]⟩, .string r.name, .int .i64 r.at_, .int .i64 r.most], .bool true]) ∧ Below w.heap.size w w' := by
  obtain ⟨q, vg, hb, hq, sb, sq, hne, hw, dw, hff⟩ := h
  have hlb := Mem.lt hb
  have hlq := Mem.lt hq
  have HSS := Lib.hid (show ∀ W : World, W.heap[b]? = w.heap[b]? → W.heap[q]? = w.heap[q]? → W.cell? ⟨b, 0, none⟩ = some (.pointer (some ⟨q, 0, none⟩)) ∧ W.cell? ⟨q, 1, none⟩ = some (.int .i64 r.to) ∧ W.cell? ⟨b, 1, none⟩ = some (.string r.name) ∧ W.cell? ⟨b, 3, none⟩ = some (.int .i64 r.at_) ∧ W.cell? ⟨b, 2, none⟩ = some (.int .i64 r.most) from
    fun W h1 h2 => ⟨Mem.cell (h1.trans hb) rfl, Mem.cell (h2.trans hq) rfl, Mem.cell (h1.trans hb) rfl, Mem.cell (h1.trans hb) rfl, Mem.cell (h1.trans hb) rfl⟩)
  have HN := Lib.hid (show ∀ (o : Obj) (d0 d1 d2 d3 d4 : Value) (k : Nat), k < w.heap.size → (((((((w.alloc o).drew).setCell ⟨w.heap.size, 0, none⟩ d0).setCell ⟨w.heap.size, 1, none⟩ d1).setCell ⟨w.heap.size, 2, none⟩ d2).setCell ⟨w.heap.size, 3, none⟩ d3).setCell ⟨w.heap.size, 4, none⟩ d4).heap[k]? = w.heap[k]? from
    fun o d0 d1 d2 d3 d4 k hk => (Qu.setCells_far (g := w.heap.size) [d0, d1, d2, d3, d4] 0 (w := (w.alloc o).drew) k (by omega)).trans (Below.heap_alloc w o k hk))
  have HM := Lib.hid (show ∀ (o : Obj) (k : Nat), k < w.heap.size → ((w.alloc o).drew).heap[k]? = w.heap[k]? from fun o k hk => Below.heap_alloc w o k hk)
  clear hb hw dw hff hq
  go_enter Try.func23, Try.ntmps23
  go_wp2_with fail
  go_region_held3 (fun W => W.cell? ⟨b, 0, none⟩ = some (.pointer (some ⟨q, 0, none⟩)) ∧ W.cell? ⟨q, 1, none⟩ = some (.int .i64 r.to) ∧ W.cell? ⟨b, 1, none⟩ = some (.string r.name) ∧ W.cell? ⟨b, 3, none⟩ = some (.int .i64 r.at_) ∧ W.cell? ⟨b, 2, none⟩ = some (.int .i64 r.most))
    (first | with_reducible exact HSS.out _ (HM.out _ _ hlb) (HM.out _ _ hlq) | with_reducible exact HSS.out _ (HN.out _ _ _ _ _ _ _ hlb) (HN.out _ _ _ _ _ _ _ hlq))
    (fail)
  all_goals
    go_wp2_with fail
    exact bodyPost_ret (v := .tuple #[.agg #[.int .i64 r.to, .string ⟨#[]⟩, .string r.name, .int .i64 r.at_, .int .i64 r.most], .bool true]) (by simp [results, Try.results23, go_sem, *]) rfl ⟨rfl, ((Below.refl _ _).alloc (Nat.le_refl _) _).drew⟩
end Go.Proofs.Ytbiicflcjipeeaa
