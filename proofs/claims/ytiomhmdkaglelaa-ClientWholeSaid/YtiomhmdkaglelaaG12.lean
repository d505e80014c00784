/- The walk of the law ClientTells. · Rows of whole numbers that are read; their copy; their order; matches as rows. · The document's reader hears an answer. · A reader in memory; what it asks, where it stands, what it got. -/
import Derived.Test.YtiomhmdkaglelaaG11
import Derived.Deep.RegionHeld3
namespace Go.Proofs.Ytiomhmdkaglelaa
open Go.RowKit
set_option linter.unusedSimpArgs false
set_option linter.unusedVariables false
attribute [local go_sem] Mem.run_store_float Mem.After.cell
/-- An act's values. -/
structure ActV where
  kind : Int
  e : Evt
  vf : Value
  err : Int
  num : Int
  lead : Int
  n : Int
  Al : Option Addr
  nl : Nat
  cl : Nat
def ActV.cells (a : ActV) : List Value := [.int .i64 a.kind, .int .i64 a.e.session, .int .i64 a.e.seq, .int .i64 a.e.stamp, .string a.e.kind, a.vf, .int .i64 a.err, .int .i64 a.num, .int .i64 a.lead, .int .i64 a.n, .slice a.Al a.nl a.cl]
/-- Acts that are read. -/
def Acts (w : World) (v : Value) (l : List ActV) : Prop := Mem.Rd w (fun k => k < w.heap.size) 11 v (l.map ActV.cells) ∧ ∀ a ∈ l, EvR w (fun k => k < w.heap.size) a.e a.vf ∧ a.e.small ∧ a.e.wf ∧ IsI64 a.num
/-- Six cells written anew. -/
theorem set6 {w : World} {rb t : Nat} {c0 c1 c2 c3 c4 c5 : Value} (d0 d1 d2 d3 d4 d5 : Value) (h : w.heap[rb]? = some (.cells #[c0, c1, c2, c3, c4, c5] t (0, 0))) :
    Mem.Ch (fun k => k = rb) w ((((((w.setCell ⟨rb, 0, none⟩ d0).setCell ⟨rb, 1, none⟩ d1).setCell ⟨rb, 2, none⟩ d2).setCell ⟨rb, 3, none⟩ d3).setCell ⟨rb, 4, none⟩ d4).setCell ⟨rb, 5, none⟩ d5) ∧
    ((((((w.setCell ⟨rb, 0, none⟩ d0).setCell ⟨rb, 1, none⟩ d1).setCell ⟨rb, 2, none⟩ d2).setCell ⟨rb, 3, none⟩ d3).setCell ⟨rb, 4, none⟩ d4).setCell ⟨rb, 5, none⟩ d5).heap[rb]? = some (.cells #[d0, d1, d2, d3, d4, d5] t (0, 0)) ∧
    ((((((w.setCell ⟨rb, 0, none⟩ d0).setCell ⟨rb, 1, none⟩ d1).setCell ⟨rb, 2, none⟩ d2).setCell ⟨rb, 3, none⟩ d3).setCell ⟨rb, 4, none⟩ d4).setCell ⟨rb, 5, none⟩ d5).heap.size = w.heap.size := by
  refine ⟨((((((Mem.Ch.refl (fun k => k = rb) w).set (.inr rfl)).set (.inr rfl)).set (.inr rfl)).set (.inr rfl)).set (.inr rfl)).set (.inr rfl), ?_, by simp [World.setCell]⟩
  have := Mem.set (j := 5) (u := d5) (Mem.set (j := 4) (u := d4) (Mem.set (j := 3) (u := d3) (Mem.set (j := 2) (u := d2) (Mem.set (j := 1) (u := d1) (Mem.set (j := 0) (u := d0) h)))))
  simpa using this
end Go.Proofs.Ytiomhmdkaglelaa
namespace Go.Proofs.Ytiomhmdkaglelaa
open Go.RowKit
set_option linter.unusedSimpArgs false
set_option linter.unusedVariables false
attribute [local go_sem] Mem.run_store_float Mem.After.cell
def intc (n : Int) : List Value := [.int .i64 n]
/-- Whole numbers that are read, not more than memory holds. -/
def IntsR (w : World) (ok : Nat → Prop) (v : Value) (l : List Int) : Prop := Mem.Rd w ok 1 v (l.map intc) ∧ l.length * 8 ≤ 140737488351232
theorem IntsR.slice {w : World} {ok : Nat → Prop} {v : Value} {l : List Int} (h : IntsR w ok v l) : ∃ A c, v = .slice A l.length c := by
  obtain ⟨A, c, e⟩ := h.1.slice
  exact ⟨A, c, by rw [e]; simp⟩
theorem IntsR.step {w w1 : World} {ok : Nat → Prop} {v : Value} {l : List Int} (h : IntsR w ok v l) (hs : w.heap.size ≤ w1.heap.size) (hm : ∀ k, ok k → k < w.heap.size → w1.heap[k]? = w.heap[k]?) : IntsR w1 ok v l := ⟨h.1.step hs hm, h.2⟩
theorem IntsR.mono {w : World} {ok ok' : Nat → Prop} {v : Value} {l : List Int} (h : IntsR w ok v l) (hm : ∀ k, ok k → ok' k) : IntsR w ok' v l := ⟨h.1.mono hm, h.2⟩
theorem IntsR.below {w w1 : World} {ok : Nat → Prop} {v : Value} {l : List Int} (h : IntsR w ok v l) (hb : Below w.heap.size w w1) : IntsR w1 ok v l := ⟨h.1.below hb, h.2⟩
theorem IntsR.lt {w : World} {ok : Nat → Prop} {v : Value} {l : List Int} (h : IntsR w ok v l) : IntsR w (fun k => ok k ∧ k < w.heap.size) v l := ⟨Mem.Rd.lt h.1, h.2⟩
theorem intc_rows (l : List Int) : ∀ r ∈ l.map intc, r.length = 1 := by
  intro r hr
  obtain ⟨n, _, rfl⟩ := List.mem_map.1 hr
  rfl
theorem info_int : (Try.prog.info? 3).map (fun i => (i.zero, i.size, i.bytes)) = some (some (.int .i64 0), 1, 8) := by kernel_rfl
set_option maxRecDepth 100000 in
set_option maxHeartbeats 2000000 in
theorem CloneI_any (l : List Int) (v : Value) (ok : Nat → Prop) (w : World) (h : IntsR w ok v l) :
    Calls Try.prog 36 #[v] w fun r w' => ∃ v', r = .returned v' ∧ IntsR w' (fun k => w.heap.size ≤ k) v' l ∧ Below w.heap.size w w' := by
  obtain ⟨A, cap, rfl⟩ := h.slice
  have hl := h.2
  have HR := Lib.hid h
  clear h
  cases A with
  | none =>
    have he : l = [] := by
      obtain ⟨A', cap', e, _, _, h3, _⟩ := HR.out.1
      injection e with e1
      by_cases hc : l.map intc = []
      · simpa using hc
      · obtain ⟨g, o, e, _⟩ := h3 hc
        rw [← e1] at e
        cases e
    subst he
    have hnil := fun (w : World) (A : Option Addr) (n c n' c' : Nat) => Lib.run_eql_slice_nil (P := Try.prog) w 43 3 A n c n' c' Try.underlying43
    go_enter Try.func36, Try.ntmps36
    go_wp2_with fail
    go_ret
    exact ⟨_, rfl, ⟨Mem.Rd.nil _ _ _, hl⟩, Below.refl _ _⟩
  | some ad =>
    have hnil := fun (w : World) (A : Option Addr) (n c n' c' : Nat) => Lib.run_eql_slice_nil (P := Try.prog) w 43 3 A n c n' c' Try.underlying43
    obtain ⟨i0, hi, hz0, hz1, hz2⟩ := info_parts info_int
    have hn : (l.map intc).flatten.length = l.length * 1 := by rw [Mem.flat_length 1 _ (intc_rows l), List.length_map]
    have hone : ∀ u ∈ (l.map intc).flatten, u.oneCell' = true := by
      intro u hu
      obtain ⟨r, hr, hu⟩ := List.mem_flatten.1 hu
      obtain ⟨f, _, rfl⟩ := List.mem_map.1 hr
      simp only [intc, List.mem_cons, List.not_mem_nil, or_false] at hu
      subst hu
      rfl
    have hcells : ∀ (o : Obj) j u, (l.map intc).flatten[j]? = some u → (w.alloc o).cell? (ad.add j) = some u := by
      intro o j u hj
      obtain ⟨r, hr, hc⟩ := Mem.flat_at 1 (by decide) _ j u (intc_rows l) hj
      obtain ⟨g, o', e, _, hg, hrow⟩ := (HR.out.1.below ((Below.refl _ _).alloc (Nat.le_refl _) o)).row hr
      cases e
      have e1 : (⟨g, o', none⟩ : Addr).add j = ⟨g, o' + (j / 1) * 1 + j % 1, none⟩ := by
        have := Nat.div_add_mod j 1
        unfold Addr.add
        split
        · rename_i h0; subst h0; rfl
        · simp; omega
      rw [e1]
      exact hrow _ _ hc
    have HN := Lib.hid hn
    have HO := Lib.hid hone
    have HC := Lib.hid hcells
    have hown : (w.alloc (.cells #[] 3)).ownsRow w.heap.size 3 1 (.slice (some ⟨w.heap.size, 0, none⟩) 0 0) 0 [] := ⟨rfl, .inr ⟨w.heap.size, 0, #[], rfl, Nat.le_refl _, Mem.new _ _, Nat.le_refl _, by decide, rfl, rfl⟩⟩
    have HL := Lib.hid hl
    clear hn hone hcells hl
    go_enter Try.func36, Try.ntmps36
    go_wp2_with (at_builtin; refine wpList_append_own_at _ rfl (.tmp 5) (.tmp 6) 43 rfl w.heap.size 3 i0 (.int .i64 0) 1 8 Try.underlying43 hi hz0 hz1 hz2 rfl (by decide) _ _ _ rfl hown ad _ _ (l.map intc).flatten rfl HN.out (HC.out _) HO.out (by have := HL.out; unfold maxLen; omega) (by have := HL.out; omega) (by simp) ?_; intro v' w1 hown1 hg1 _ _)
    go_ret
    have hbl : Below w.heap.size w w1 := Below.grown ((Below.refl _ _).alloc (Nat.le_refl _) _) hg1 (by simp) (fun k hk => by
      have hk' : (Value.slice (some ⟨w.heap.size, 0, none⟩) 0 0).ownBlock = some k := hk
      have : w.heap.size = k := by simpa [Value.ownBlock] using hk'
      omega)
    exact ⟨_, rfl, ⟨Mem.Rd.of_owns hown1 (by simp) (intc_rows l), HL.out⟩, hbl⟩
end Go.Proofs.Ytiomhmdkaglelaa
namespace Go.Proofs.Ytiomhmdkaglelaa
open Go.RowKit
set_option linter.unusedSimpArgs false
set_option linter.unusedVariables false
attribute [local go_sem] Mem.run_store_float Mem.After.cell
def pk (p : Value × List Int) : List Value := [p.1]
/-- Rows of whole numbers, in a row, that are read. -/
def Pks (w : World) (ok : Nat → Prop) (v : Value) (l : List (Value × List Int)) : Prop := Mem.Rd w ok 1 v (l.map pk) ∧ ∀ p ∈ l, IntsR w ok p.1 p.2
namespace Pks
variable {w w1 : World} {ok ok' : Nat → Prop} {v : Value} {l : List (Value × List Int)}
theorem slice (h : Pks w ok v l) : ∃ A c, v = .slice A l.length c := by
  obtain ⟨A, c, e⟩ := h.1.slice
  exact ⟨A, c, by rw [e]; simp⟩
theorem step (h : Pks w ok v l) (hs : w.heap.size ≤ w1.heap.size) (hm : ∀ k, ok k → k < w.heap.size → w1.heap[k]? = w.heap[k]?) : Pks w1 ok v l := ⟨h.1.step hs hm, fun p hp => (h.2 p hp).step hs hm⟩
theorem mono (h : Pks w ok v l) (ho : ∀ k, ok k → ok' k) : Pks w ok' v l := ⟨h.1.mono ho, fun p hp => (h.2 p hp).mono ho⟩
theorem below (h : Pks w ok v l) (hb : Below w.heap.size w w1) : Pks w1 ok v l := h.step hb.size (fun k _ hk => hb.block k hk)
theorem lt (h : Pks w ok v l) : Pks w (fun k => ok k ∧ k < w.heap.size) v l := ⟨Mem.Rd.lt h.1, fun p hp => (h.2 p hp).lt⟩
theorem nil (w : World) (ok : Nat → Prop) : Pks w ok (.slice none 0 0) [] := ⟨Mem.Rd.nil _ _ _, fun p hp => by simp at hp⟩
end Pks
theorem pk_rows (l : List (Value × List Int)) : ∀ r ∈ l.map pk, r.length = 1 := by
  intro r hr
  obtain ⟨n, _, rfl⟩ := List.mem_map.1 hr
  rfl
def ns (l : List Int) : List Value := (l.map intc).flatten
def vs (l : List (Value × List Int)) : List Value := (l.map pk).flatten
theorem ns_snoc (l : List Int) (n : Int) : ns (l ++ [n]) = ns l ++ [.int .i64 n] := by simp [ns, intc]
theorem vs_snoc (l : List (Value × List Int)) (p : Value × List Int) : vs (l ++ [p]) = vs l ++ [p.1] := by simp [vs, pk]
theorem info_ints : (Try.prog.info? 43).map (fun i => (i.zero, i.size, i.bytes)) = some (some (.slice none 0 0), 1, 24) := by kernel_rfl
/-- Two rows of one's own, made since W. -/
structure AB (W wr : World) (a b : Value) (N : List Int) (G : List (Value × List Int)) : Prop where
  ha : wr.ownsRow W.heap.size 3 1 a N.length (ns N)
  hb : wr.ownsRow W.heap.size 43 1 b G.length (vs G)
  ne : ∀ j, a.ownBlock = some j → b.ownBlock ≠ some j
  bel : Below W.heap.size W wr
theorem AB.begin (W : World) : AB W W (.slice none 0 0) (.slice none 0 0) [] [] := ⟨World.ownsRow_nil _ _ _ _, World.ownsRow_nil _ _ _ _, fun j hj => by simp [Value.ownBlock] at hj, Below.refl _ _⟩
theorem AB.pushA {W wr w3 : World} {a b a' : Value} {N : List Int} {G : List (Value × List Int)} {n : Int} {o : Obj} (h : AB W wr a b N G) (hown : w3.ownsRow W.heap.size 3 1 a' (N.length + 1) (ns N ++ [.int .i64 n]))
    (hg : (wr.alloc o).grownBy w3 a.ownBlock) (ho : a'.ownBlock = a.ownBlock ∨ a'.ownBlock = some (wr.heap.size + 1)) : AB W w3 a' b (N ++ [n]) G := by
  have hs := h.bel.size
  refine ⟨by rw [ns_snoc, List.length_append]; exact hown, own_move h.hb (fun k hk => ?_), fun j hj => ?_, Below.grown (h.bel.alloc hs _) hg (by simp; omega) (fun j hj => (h.ha.lt j hj).1)⟩
  · have hk2 := (h.hb.lt k hk).2
    exact (hg.block k (by simp; omega) (fun e => h.ne k e.symm hk)).trans (Below.heap_alloc wr o k hk2)
  · rcases ho with ho | ho
    · exact h.ne j (ho ▸ hj)
    · intro hb
      have h1 := (h.hb.lt j hb).2
      rw [ho] at hj
      have : wr.heap.size + 1 = j := by simpa using hj
      omega
theorem AB.pushB {W wr w3 : World} {a b b' : Value} {N : List Int} {G : List (Value × List Int)} {p : Value × List Int} {o : Obj} (h : AB W wr a b N G) (hown : w3.ownsRow W.heap.size 43 1 b' (G.length + 1) (vs G ++ [p.1]))
    (hg : (wr.alloc o).grownBy w3 b.ownBlock) (ho : b'.ownBlock = b.ownBlock ∨ b'.ownBlock = some (wr.heap.size + 1)) : AB W w3 a b' N (G ++ [p]) := by
  have hs := h.bel.size
  refine ⟨own_move h.ha (fun k hk => ?_), by rw [vs_snoc, List.length_append]; exact hown, fun j hj hb => ?_, Below.grown (h.bel.alloc hs _) hg (by simp; omega) (fun j hj => (h.hb.lt j hj).1)⟩
  · have hk2 := (h.ha.lt k hk).2
    exact (hg.block k (by simp; omega) (fun e => h.ne k hk e.symm)).trans (Below.heap_alloc wr o k hk2)
  · rcases ho with ho | ho
    · exact h.ne j hj (ho ▸ hb)
    · have h1 := (h.ha.lt j hj).2
      rw [ho] at hb
      have : wr.heap.size + 1 = j := by simpa using hb
      omega
/-- The document's reader, as a value. -/
abbrev rrd (nodes to at_ gone : Int) (vn vg : Value) : Value := .agg #[.int .i64 nodes, .int .i64 to, .int .i64 at_, .int .i64 gone, vn, vg]
def upto (a : Int) (m : Nat) : List Int := (List.range m).map fun i : Nat => a + (i : Int)
theorem upto_succ (a : Int) (m : Nat) : upto a (m + 1) = upto a m ++ [a + (m : Int)] := by simp [upto, List.range_succ]
theorem upto_len (a : Int) (m : Nat) : (upto a m).length = m := by simp [upto]
end Go.Proofs.Ytiomhmdkaglelaa
namespace Go.Proofs.Ytiomhmdkaglelaa
open Go.RowKit
set_option linter.unusedSimpArgs false
set_option linter.unusedVariables false
attribute [local go_sem] Mem.run_store_float Mem.After.cell
structure Rr where
  nodes : Int
  to : Int
  name : ByteArray
  most : Int
  at_ : Int
  gone : Int
  got : List (Int × Value × List Int)
def gotC (p : Int × Value × List Int) : List Value := [.int .i64 p.1, p.2.1]
def gots (l : List (Int × Value × List Int)) : List Value := (l.map gotC).flatten
theorem gots_snoc (l : List (Int × Value × List Int)) (p : Int × Value × List Int) : gots (l ++ [p]) = gots l ++ gotC p := by simp [gots]
theorem gotC_rows (l : List (Int × Value × List Int)) : ∀ r ∈ l.map gotC, r.length = 2 := by
  intro r hr
  obtain ⟨n, _, rfl⟩ := List.mem_map.1 hr
  rfl
theorem info_got : (Try.prog.info? 57).map (fun i => (i.zero, i.size, i.bytes)) = some (some (.agg #[.int .i64 0, .slice none 0 0]), 2, 32) := by kernel_rfl
/-- Block b is a reader; all its memory lies in S. -/
def ReaderAt (w : World) (S : Nat → Prop) (b : Nat) (r : Rr) : Prop :=
  ∃ q vg, w.heap[b]? = some (.cells #[.pointer (some ⟨q, 0, none⟩), .string r.name, .int .i64 r.most, .int .i64 r.at_, .int .i64 r.gone, vg] 66 (0, 0)) ∧
    w.heap[q]? = some (.cells #[.int .i64 r.nodes, .int .i64 r.to] 64 (0, 0)) ∧ S b ∧ S q ∧ q ≠ b ∧
    Qu.QRow w 0 57 2 vg r.got.length (gots r.got) ∧ (∀ k, vg.ownBlock = some k → S k ∧ k ≠ b ∧ k ≠ q) ∧
    ∀ p, p ∈ r.got → IntsR w (fun k => S k ∧ k ≠ b ∧ k ≠ q ∧ some k ≠ vg.ownBlock) p.2.1 p.2.2
theorem ReaderAt.step {w w1 : World} {S S' : Nat → Prop} {b : Nat} {r : Rr} (h : ReaderAt w S b r) (hs : w.heap.size ≤ w1.heap.size) (hm : ∀ k, S k → k < w.heap.size → w1.heap[k]? = w.heap[k]?) (hS : ∀ k, S k → S' k) : ReaderAt w1 S' b r := by
  obtain ⟨q, vg, hb, hq, sb, sq, hne, hw, dw, hf⟩ := h
  refine ⟨q, vg, (hm b sb (Mem.lt hb)).trans hb, (hm q sq (Mem.lt hq)).trans hq, hS b sb, hS q sq, hne, Qu.q_move hw (fun k hk => hm k (dw k hk).1 (Qu.q_lt hw k hk)), fun k hk => ⟨hS k (dw k hk).1, (dw k hk).2⟩, fun p hp => ?_⟩
  exact ((hf p hp).step hs (fun k hk hl => hm k hk.1 hl)).mono (fun k hk => ⟨hS k hk.1, hk.2⟩)
theorem ReaderAt.below {w w1 : World} {S : Nat → Prop} {b : Nat} {r : Rr} (h : ReaderAt w S b r) (hb : Below w.heap.size w w1) : ReaderAt w1 S b r := h.step hb.size (fun k _ hk => hb.block k hk) (fun _ h => h)
theorem ReaderAt.mono {w : World} {S S' : Nat → Prop} {b : Nat} {r : Rr} (h : ReaderAt w S b r) (hS : ∀ k, S k → S' k) : ReaderAt w S' b r := h.step (Nat.le_refl _) (fun _ _ _ => rfl) hS
/-- The head of a reader was written, nothing else. -/
theorem ReaderAt.hdr {w w1 : World} {S : Nat → Prop} {b q : Nat} {vg : Value} {r r1 : Rr} (sb : S b) (sq : S q) (hne : q ≠ b) (hw : Qu.QRow w 0 57 2 vg r.got.length (gots r.got)) (dw : ∀ k, vg.ownBlock = some k → S k ∧ k ≠ b ∧ k ≠ q)
    (hf : ∀ p, p ∈ r.got → IntsR w (fun k => S k ∧ k ≠ b ∧ k ≠ q ∧ some k ≠ vg.ownBlock) p.2.1 p.2.2) (hch : Mem.Ch (fun k => k = q ∨ k = b) w w1)
    (hb1 : w1.heap[b]? = some (.cells #[.pointer (some ⟨q, 0, none⟩), .string r1.name, .int .i64 r1.most, .int .i64 r1.at_, .int .i64 r1.gone, vg] 66 (0, 0)))
    (hq1 : w1.heap[q]? = some (.cells #[.int .i64 r1.nodes, .int .i64 r1.to] 64 (0, 0))) (eg : r1.got = r.got) : ReaderAt w1 S b r1 := by
  refine ⟨q, vg, hb1, hq1, sb, sq, hne, ?_, dw, fun p hp => ?_⟩
  · rw [eg]; exact Qu.q_move hw (fun k hk => hch.block k (Qu.q_lt hw k hk) (fun h => by have := dw k hk; omega))
  · rw [eg] at hp
    exact (hf p hp).step hch.size (fun k hk hl => hch.block k hl (fun h => by have := hk.2; omega))
set_option maxRecDepth 100000 in
set_option maxHeartbeats 2000000 in
theorem RdLate_any (S : Nat → Prop) (b : Nat) (r : Rr) (w : World) (h : ReaderAt w S b r) (f1 : 1 ≤ r.nodes) (f2 : r.nodes ≤ 7) (f3 : 0 ≤ r.to) (f4 : r.to < r.nodes) :
    Calls Try.prog 11 #[.pointer (some ⟨b, 0, none⟩)] w fun e w' => e = .returned (.tuple #[]) ∧ Mem.Ch S w w' ∧ ReaderAt w' S b { r with to := nextTo r.to r.nodes } := by
  obtain ⟨q, vg, hb, hq, sb, sq, hne, hw, dw, hff⟩ := h
  have b0 : w.cell? ⟨b, 0, none⟩ = some (.pointer (some ⟨q, 0, none⟩)) := Mem.cell hb rfl
  have HH := Lib.hid (And.intro hb (And.intro hw (And.intro dw hff)))
  have HQ := Lib.hid hq
  clear hb hw dw hff hq
  go_enter Try.func11, Try.ntmps11
  go_wp2_with (go_at_call 38; refine (askerLate_any q r.nodes r.to _ HQ.out f1 f2 f3 f4).mono ?_; rintro _ w1 ⟨rfl, hc1, hz1, hq1⟩)
  go_end0
  obtain ⟨hb, hw, dw, hff⟩ := HH.out
  exact ⟨rfl, hc1.mono (fun k _ hk => by rw [hk]; exact sq), ReaderAt.hdr (r1 := { r with to := nextTo r.to r.nodes }) sb sq hne hw dw hff (hc1.mono (fun k _ hk => .inl hk)) (hc1.at_ hb (fun h => hne h.symm)) hq1 rfl⟩
set_option maxRecDepth 100000 in
set_option maxHeartbeats 2000000 in
theorem RdAt_any (S : Nat → Prop) (b : Nat) (r : Rr) (w : World) (h : ReaderAt w S b r) :
    Calls Try.prog 16 #[.pointer (some ⟨b, 0, none⟩)] w fun e w' => e = .returned (.int .i64 r.at_) ∧ Below w.heap.size w w' := by
  obtain ⟨q, vg, hb, hq, sb, sq, hne, hw, dw, hff⟩ := h
  have b3 := Mem.cell hb (j := 3) rfl
  clear hb hw dw hff hq
  go_enter Try.func16, Try.ntmps16
  go_wp2_with fail
  go_ret
  exact ⟨rfl, Below.refl _ _⟩
set_option maxRecDepth 100000 in
set_option maxHeartbeats 2000000 in
theorem RdGone_any (S : Nat → Prop) (b : Nat) (r : Rr) (w : World) (h : ReaderAt w S b r) :
    Calls Try.prog 17 #[.pointer (some ⟨b, 0, none⟩)] w fun e w' => e = .returned (.int .i64 r.gone) ∧ Below w.heap.size w w' := by
  obtain ⟨q, vg, hb, hq, sb, sq, hne, hw, dw, hff⟩ := h
  have b4 := Mem.cell hb (j := 4) rfl
  clear hb hw dw hff hq
  go_enter Try.func17, Try.ntmps17
  go_wp2_with fail
  go_ret
  exact ⟨rfl, Below.refl _ _⟩
set_option maxRecDepth 100000 in
set_option maxHeartbeats 4000000 in
theorem RdAsk_any (S : Nat → Prop) (b : Nat) (r : Rr) (w : World) (h : ReaderAt w S b r) :
    Calls Try.prog 10 #[.pointer (some ⟨b, 0, none⟩)] w fun e w' => e = .returned (.tuple #[.agg #[.int .i64 r.to, .string ⟨#[]⟩, .string r.name, .int .i64 r.at_, .int .i64 r.most], .bool true]) ∧ Below w.heap.size w w' := by
  obtain ⟨q, vg, hb, hq, sb, sq, hne, hw, dw, hff⟩ := h
  have hlb := Mem.lt hb
  have hlq := Mem.lt hq
  have HSS := Lib.hid (show ∀ W : World, W.heap[b]? = w.heap[b]? → W.heap[q]? = w.heap[q]? → W.cell? ⟨b, 0, none⟩ = some (.pointer (some ⟨q, 0, none⟩)) ∧ W.cell? ⟨q, 1, none⟩ = some (.int .i64 r.to) ∧ W.cell? ⟨b, 1, none⟩ = some (.string r.name) ∧ W.cell? ⟨b, 3, none⟩ = some (.int .i64 r.at_) ∧ W.cell? ⟨b, 2, none⟩ = some (.int .i64 r.most) from
    fun W h1 h2 => ⟨Mem.cell (h1.trans hb) rfl, Mem.cell (h2.trans hq) rfl, Mem.cell (h1.trans hb) rfl, Mem.cell (h1.trans hb) rfl, Mem.cell (h1.trans hb) rfl⟩)
  have HN := Lib.hid (show ∀ (o : Obj) (d0 d1 d2 d3 d4 : Value) (k : Nat), k < w.heap.size → (((((((w.alloc o).drew).setCell ⟨w.heap.size, 0, none⟩ d0).setCell ⟨w.heap.size, 1, none⟩ d1).setCell ⟨w.heap.size, 2, none⟩ d2).setCell ⟨w.heap.size, 3, none⟩ d3).setCell ⟨w.heap.size, 4, none⟩ d4).heap[k]? = w.heap[k]? from
    fun o d0 d1 d2 d3 d4 k hk => (Qu.setCells_far (g := w.heap.size) [d0, d1, d2, d3, d4] 0 (w := (w.alloc o).drew) k (by omega)).trans (Below.heap_alloc w o k hk))
  have HM := Lib.hid (show ∀ (o : Obj) (k : Nat), k < w.heap.size → ((w.alloc o).drew).heap[k]? = w.heap[k]? from fun o k hk => Below.heap_alloc w o k hk)
  clear hb hw dw hff hq
  go_enter Try.func10, Try.ntmps10
  go_wp2_with fail
  go_region_held3 (fun W => W.cell? ⟨b, 0, none⟩ = some (.pointer (some ⟨q, 0, none⟩)) ∧ W.cell? ⟨q, 1, none⟩ = some (.int .i64 r.to) ∧ W.cell? ⟨b, 1, none⟩ = some (.string r.name) ∧ W.cell? ⟨b, 3, none⟩ = some (.int .i64 r.at_) ∧ W.cell? ⟨b, 2, none⟩ = some (.int .i64 r.most))
    (first | with_reducible exact HSS.out _ (HM.out _ _ hlb) (HM.out _ _ hlq) | with_reducible exact HSS.out _ (HN.out _ _ _ _ _ _ _ hlb) (HN.out _ _ _ _ _ _ _ hlq))
    (fail)
  all_goals
    go_wp2_with fail
    exact bodyPost_ret (v := .tuple #[.agg #[.int .i64 r.to, .string ⟨#[]⟩, .string r.name, .int .i64 r.at_, .int .i64 r.most], .bool true]) (by simp [results, Try.results10, go_sem, *]) rfl ⟨rfl, ((Below.refl _ _).alloc (Nat.le_refl _) _).drew⟩
end Go.Proofs.Ytiomhmdkaglelaa
