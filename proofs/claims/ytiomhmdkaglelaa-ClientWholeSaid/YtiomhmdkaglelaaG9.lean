/- Teller.Told: an event is refused. · The document's teller: put, next, Late. · The document's teller: next, Late, Add. · The document's teller: Ask. -/
import Derived.Test.YtiomhmdkaglelaaG8
namespace Go.Proofs.Ytiomhmdkaglelaa
open Go.RowKit
set_option linter.unusedSimpArgs false
set_option linter.unusedVariables false
open Sp (fold intB textS bs)
attribute [local go_sem] Mem.run_store_float Mem.After.cell
theorem Mem.new_at {w : World} {n : Nat} (o : Obj) (hn : w.heap.size = n) : (w.alloc o).heap[n]? = some o := hn ▸ Mem.new w o
theorem ToldR.st {w w2 w3 : World} {S : Nat → Prop} {b q g o cw c : Nat} {A : Option Addr} {vr v3 vf : Value} {t : Tl} {e : Evt} {r : List (Evt × Value)}
    (sb : S b) (sq : S q) (hne : q ≠ b) (hS : ∀ k, S k → k < w.heap.size) (he : t.wait = (e, vf) :: r)
    (hb : w.heap[b]? = some (.cells #[.pointer (some ⟨q, 0, none⟩), .int .i64 t.id, .int .i64 t.seq, .slice (some ⟨g, o, none⟩) t.wait.length cw, vr] 95 (0, 0)))
    (hq : w.heap[q]? = some (.cells #[.int .i64 t.nodes, .int .i64 t.to] 64 (0, 0)))
    (hw : Qu.QRow w 0 36 5 (.slice (some ⟨g, o, none⟩) t.wait.length cw) t.wait.length (evs t.wait)) (hr : Qu.QRow w 0 36 5 vr t.refused.length (evs t.refused))
    (dw : ∀ k, (Value.slice (some ⟨g, o, none⟩) t.wait.length cw).ownBlock = some k → S k ∧ k ≠ b ∧ k ≠ q ∧ vr.ownBlock ≠ some k) (dr : ∀ k, vr.ownBlock = some k → S k ∧ k ≠ b ∧ k ≠ q)
    (hff : ∀ p, p ∈ t.wait ∨ p ∈ t.refused → EvR w (fun k => S k ∧ k ≠ b ∧ k ≠ q ∧ some k ≠ (Value.slice (some ⟨g, o, none⟩) t.wait.length cw).ownBlock ∧ some k ≠ vr.ownBlock) p.1 p.2)
    (hbl2 : Below w.heap.size w w2) (hg3 : w2.grownBy w3 vr.ownBlock)
    (hq3 : Qu.QRow w3 0 36 5 v3 (t.refused.length + 1) (evs t.refused ++ evC e vf)) (ho3 : v3.ownBlock = vr.ownBlock ∨ ∃ b, v3.ownBlock = some b ∧ w2.heap.size ≤ b)
    (hpos : 1 ≤ t.wait.length) (hA : A = if cw = 1 then some ⟨g, o, none⟩ else some ⟨g, o + 5, none⟩) (hc : c = cw - 1) :
    ToldR S b { t with refused := t.refused ++ [(e, vf)], wait := t.wait.tail } w (.returned (.tuple #[])) ((w3.setCell ⟨b, 4, none⟩ v3).setCell ⟨b, 3, none⟩ (.slice A (t.wait.length - 1) c)) := by
  subst hc
  have hlb := Mem.lt hb
  have hlq := Mem.lt hq
  have s2 := hbl2.size
  have s3 : w2.heap.size ≤ w3.heap.size := hg3.size
  have sW : ((w3.setCell ⟨b, 4, none⟩ v3).setCell ⟨b, 3, none⟩ (.slice A (t.wait.length - 1) (cw - 1))).heap.size = w3.heap.size := by simp [World.setCell]
  have lw : ∀ k, (Value.slice (some ⟨g, o, none⟩) t.wait.length cw).ownBlock = some k → k < w.heap.size := fun k hk => Qu.q_lt hw k hk
  have lr : ∀ k, vr.ownBlock = some k → k < w.heap.size := fun k hk => Qu.q_lt hr k hk
  have l3 : ∀ k, v3.ownBlock = some k → vr.ownBlock = some k ∨ w2.heap.size ≤ k ∧ k < w3.heap.size := fun k hk => by
    rcases ho3 with h | ⟨g, hg, hgl⟩
    · exact .inl (h ▸ hk)
    · have e1 : g = k := by rw [hg] at hk; simpa using hk
      have := Qu.q_lt hq3 k hk
      exact .inr ⟨by omega, this⟩
  have far : ∀ k, k ≠ b → ((w3.setCell ⟨b, 4, none⟩ v3).setCell ⟨b, 3, none⟩ (.slice A (t.wait.length - 1) (cw - 1))).heap[k]? = w3.heap[k]? := fun k hk =>
    (Below.heap_setCell (w3.setCell ⟨b, 4, none⟩ v3) ⟨b, 3, none⟩ _ k hk).trans (Below.heap_setCell w3 ⟨b, 4, none⟩ v3 k hk)
  have blk3 : ∀ k, k < w.heap.size → some k ≠ vr.ownBlock → w3.heap[k]? = w.heap[k]? := fun k hk h2 =>
    (hg3.block k (by omega) h2).trans (hbl2.block k hk)
  have blk : ∀ k, k < w.heap.size → k ≠ b → some k ≠ vr.ownBlock → ((w3.setCell ⟨b, 4, none⟩ v3).setCell ⟨b, 3, none⟩ (.slice A (t.wait.length - 1) (cw - 1))).heap[k]? = w.heap[k]? := fun k hk h1 h2 =>
    (far k h1).trans (blk3 k hk h2)
  have nb : some b ≠ vr.ownBlock := fun h => (dr b h.symm).2.1 rfl
  have nq : some q ≠ vr.ownBlock := fun h => (dr q h.symm).2.2 rfl
  have hd := Qu.q_drop hw (k := 1) hpos
  have hown : (Value.slice A (t.wait.length - 1) (cw - 1)).ownBlock = (Value.slice (some ⟨g, o, none⟩) t.wait.length cw).ownBlock := by
    rw [hA]; split <;> rfl
  have hAe : (if cw = 1 then (some ⟨g, o, none⟩ : Option Addr) else (some (⟨g, o, none⟩ : Addr)).map (·.add (1 * 5))) = A := by
    rw [hA]; split
    · rfl
    · rw [Option.map_some, Qu.add_at]
  rw [hAe, Nat.one_mul, evs_tail] at hd
  refine ⟨rfl, (((Mem.Ch.of_below' hbl2).grown hg3 (fun k hk => .inr (dr k hk).1)).set (.inr sb)).set (.inr sb), q, _, v3, Mem.set (Mem.set ((blk3 b hlb nb).trans hb)), (blk q hlq hne nq).trans hq, .inl sb, .inl sq, hne, ?_, ?_, ?_, ?_, ?_⟩
  · dsimp only
    rw [List.length_tail]
    refine Qu.q_move hd (fun k hk => ?_)
    rw [hown] at hk
    exact blk k (lw k hk) (dw k hk).2.1 (fun h => (dw k hk).2.2.2 h.symm)
  · dsimp only
    rw [evs_snoc, List.length_append]
    refine Qu.q_move hq3 (fun k hk => far k ?_)
    rcases l3 k hk with h | h
    · exact (dr k h).2.1
    · omega
  · intro k hk
    rw [hown] at hk
    refine ⟨.inl (dw k hk).1, (dw k hk).2.1, (dw k hk).2.2.1, fun h' => ?_⟩
    rcases l3 k h' with h | h
    · exact (dw k hk).2.2.2 h
    · have := lw k hk; omega
  · intro k hk
    rcases l3 k hk with h | h
    · exact ⟨.inl (dr k h).1, (dr k h).2⟩
    · exact ⟨.inr ⟨by omega, by omega⟩, by omega, by omega⟩
  · intro p hp
    have hp' : p ∈ t.wait ∨ p ∈ t.refused := by
      rcases hp with hp | hp
      · exact .inl (List.mem_of_mem_tail hp)
      · rcases List.mem_append.1 hp with h | h
        · exact .inr h
        · rw [he]; exact .inl (by rw [List.mem_singleton.1 h]; exact List.mem_cons_self)
    refine ((Mem.Rd.lt (hff p hp')).step (by omega) (fun k hk hl => blk k hk.2 hk.1.2.1 hk.1.2.2.2.2)).mono (fun k hk => ⟨.inl hk.1.1, hk.1.2.1, hk.1.2.2.1, ?_, fun h => ?_⟩)
    · rw [hown]; exact hk.1.2.2.2.1
    · rcases l3 k h.symm with h | h
      · exact hk.1.2.2.2.2 h.symm
      · have := hk.2; omega
set_option maxRecDepth 100000 in
set_option maxHeartbeats 8000000 in
theorem Told_stamp (S : Nat → Prop) (b : Nat) (t : Tl) (n lead : Int) (e : Evt) (vf : Value) (r : List (Evt × Value)) (w : World) (h : TellerAt w S b t) (hS : ∀ k, S k → k < w.heap.size) (he : t.wait = (e, vf) :: r) (hi : t.id ≠ 0) (hnr : t.refused.length ≤ 1000) :
    Calls Try.prog 23 #[.pointer (some ⟨b, 0, none⟩), .agg #[.int .i64 130, .int .i64 n], .int .i64 lead] w (ToldR S b { t with refused := t.refused ++ [(e, vf)], wait := t.wait.tail } w) := by
  obtain ⟨q, vw, vr, hb, hq, sb, sq, hne, hw, hr, dw, dr, hff⟩ := h
  obtain ⟨Aw, cw, rfl, hcw⟩ := Qu.q_slice hw
  obtain ⟨Ar, cr, rfl, hcr⟩ := Qu.q_slice hr
  have hlen : 0 < t.wait.length := by rw [he]; simp
  obtain ⟨g, o, rfl, hlg, hog, hcells⟩ := q_head hw hlen
  have hev : EvR w _ e vf := (hff (e, vf) (.inl (by rw [he]; exact List.mem_cons_self)))
  obtain ⟨Af, cf, rfl⟩ := hev.slice
  have x0 := hcells 0 (.int .i64 e.session) (by rw [he]; rfl)
  have x1 := hcells 1 (.int .i64 e.seq) (by rw [he]; rfl)
  have x2 := hcells 2 (.int .i64 e.stamp) (by rw [he]; rfl)
  have x3 := hcells 3 (.string e.kind) (by rw [he]; rfl)
  have x4 := hcells 4 (.slice Af e.fields.length cf) (by rw [he]; rfl)
  rw [Nat.add_zero] at x0
  have b1 := Mem.cell hb (j := 1) rfl
  have b3 := Mem.cell hb (j := 3) rfl
  have b4 := Mem.cell hb (j := 4) rfl
  have hlb := Mem.lt hb
  have hn : (0 : Int) < (t.wait.length : Int) := by omega
  have hi1 : (t.id == 0) = false := by simpa using hi
  have HH := Lib.hid (And.intro hb (And.intro hq (And.intro hw (And.intro hr (And.intro dw (And.intro dr hff))))))
  have HE := Lib.hid he
  have hwb : ∀ W : World, Below w.heap.size w W → W.heap[b]? = _ := fun W hW => (hW.block b hlb).trans hb
  have HWB := Lib.hid hwb
  clear hb hq hw hr dw dr hff hev hcells he hwb
  obtain ⟨i0, hi, hz0, hz1, hz2⟩ := info_parts info_evt
  go_enter Try.func23, Try.ntmps23
  go_wp2_with fail
  go_region_law (
    (refine step_q_append rfl (.tmp 109) (.tmp 116) 93 rfl 0 36 i0 _ 5 64 Try.underlying93 hi hz0 hz1 hz2 rfl (by decide) _ t.refused.length (evs t.refused) (by rfl) (Qu.q_move HH.out.2.2.2.1 (fun k hk => Below.block (B := w.heap.size) (w := w) (by with_reducible repeat (first | exact Below.refl _ _ | refine Below.alloc ?_ (by simp) _ | refine Below.drew ?_ | refine Mem.bdrewN ?_ _)) k (Qu.q_lt HH.out.2.2.2.1 k hk))) ⟨w.heap.size + 1, 0, none⟩ 1 1 (evC e (.slice Af e.fields.length cf)) (by rfl) rfl (World.news_of_block (Mem.new_at _ (by simp))) (by intro u hu; simp only [evC, List.mem_cons, List.not_mem_nil, or_false] at hu; rcases hu with rfl | rfl | rfl | rfl | rfl <;> rfl) (by decide) (by unfold maxLen; omega) (by omega) (Nat.zero_le _) ?_
     intro v3 w3 hq3 hg3 ho3
     obtain ⟨A3, cap3, rfl, hle3⟩ := Qu.q_slice hq3
     have h3b : w3.heap[b]? = _ := (hg3.block b (by simp; omega) (fun h => (HH.out.2.2.2.2.2.1 b h.symm).2.1 rfl)).trans (HWB.out _ (by with_reducible repeat (first | exact Below.refl _ _ | refine Below.alloc ?_ (by simp) _ | refine Below.drew ?_ | refine Mem.bdrewN ?_ _)))
     have b33 := Mem.cell h3b (j := 3) rfl
     have b43 := Mem.cell h3b (j := 4) rfl
     have f33 := Mem.free (j := 3) h3b
     have f43 := Mem.free (j := 4) h3b))
  all_goals go_wp2_with fail
  all_goals
    go_end0
    obtain ⟨hb, hq, hw, hr, dw, dr, hff⟩ := HH.out
    refine ToldR.st (A := ?_) (c := ?_) sb sq hne hS HE.out hb hq hw hr dw dr hff ?_ hg3 hq3 ho3 hlen ?_ ?_
    any_goals (first | (rw [if_pos (by omega)]; done) | (rw [if_neg (by omega)]; done) | omega | skip)
    all_goals (with_reducible repeat (first | exact Below.refl _ _ | refine Below.alloc ?_ (by simp) _ | refine Below.drew ?_ | refine Mem.bdrewN ?_ _))
end Go.Proofs.Ytiomhmdkaglelaa
namespace Go.Proofs.Ytiomhmdkaglelaa
open Go.RowKit
set_option linter.unusedSimpArgs false
set_option linter.unusedVariables false
open Sp (fold intB textS bs)
attribute [local go_sem] Mem.run_store_float Mem.After.cell
/-- Events in line that are read. -/
def REvs (w : World) (ok : Nat → Prop) (v : Value) (l : List (Evt × Value)) : Prop := Mem.Rd w ok 5 v (evRows l) ∧ ∀ p ∈ l, EvR w ok p.1 p.2
namespace REvs
variable {w w1 : World} {ok ok' : Nat → Prop} {v : Value} {l : List (Evt × Value)}
theorem step (h : REvs w ok v l) (hs : w.heap.size ≤ w1.heap.size) (hm : ∀ k, ok k → k < w.heap.size → w1.heap[k]? = w.heap[k]?) : REvs w1 ok v l := ⟨h.1.step hs hm, fun p hp => (h.2 p hp).step hs hm⟩
theorem mono (h : REvs w ok v l) (ho : ∀ k, ok k → ok' k) : REvs w ok' v l := ⟨h.1.mono ho, fun p hp => (h.2 p hp).mono ho⟩
theorem below (h : REvs w ok v l) (hb : Below w.heap.size w w1) : REvs w1 ok v l := h.step hb.size (fun k _ hk => hb.block k hk)
theorem lt (h : REvs w ok v l) : REvs w (fun k => ok k ∧ k < w.heap.size) v l := ⟨Mem.Rd.lt h.1, fun p hp => Mem.Rd.lt (h.2 p hp)⟩
end REvs
theorem evC_one (e : Evt) (vf : Value) {w : World} {ok : Nat → Prop} (h : EvR w ok e vf) : ∀ u ∈ evC e vf, u.oneCell' = true := by
  intro u hu
  obtain ⟨A, c, rfl⟩ := h.slice
  simp only [evC, List.mem_cons, List.not_mem_nil, or_false] at hu
  rcases hu with rfl | rfl | rfl | rfl | rfl <;> rfl
theorem evs_take_succ (l : List (Evt × Value)) (k : Nat) (p : Evt × Value) (h : l[k]? = some p) : evs (l.take (k + 1)) = evs (l.take k) ++ evC p.1 p.2 := by
  rw [List.take_add_one, h]
  exact evs_snoc _ _ _
end Go.Proofs.Ytiomhmdkaglelaa
namespace Go.Proofs.Ytiomhmdkaglelaa
open Go.RowKit
set_option linter.unusedSimpArgs false
set_option linter.unusedVariables false
open Sp (fold intB textS bs)
attribute [local go_sem] Mem.run_store_float Mem.After.cell
theorem own_lower {w : World} {base base' e size n : Nat} {v : Value} {xs : List Value} (h : w.ownsRow base e size v n xs) (hb : base' ≤ base) : w.ownsRow base' e size v n xs := by
  obtain ⟨h1, h2⟩ := h
  refine ⟨h1, ?_⟩
  rcases h2 with h | ⟨g, cap, cur, rfl, hg, r⟩
  · exact .inl h
  · exact .inr ⟨g, cap, cur, rfl, Nat.le_trans hb hg, r⟩
/-- The document's teller as a value. -/
abbrev rtl (nodes to id seq : Int) (vw vr : Value) : Value := .agg #[.int .i64 nodes, .int .i64 to, .int .i64 id, .int .i64 seq, vw, vr]
theorem three_kept {w w1 : World} {A B C : Obj} (h : Below (((w.alloc A).alloc B).alloc C).heap.size (((w.alloc A).alloc B).alloc C) w1) : Below w.heap.size w w1 ∧ w1.heap[w.heap.size]? = some A ∧ w1.heap[w.heap.size + 1]? = some B ∧ w1.heap[w.heap.size + 2]? = some C := by
  refine ⟨((((Below.refl _ _).alloc (Nat.le_refl _) A).alloc (by simp) B).alloc (by simp; omega) C).trans (h.mono (by simp; omega)), (h.block _ (by simp; omega)).trans (Mem.old (Mem.old (Mem.new w A) B) C), (h.block _ (by simp)).trans (Mem.old (Mem.new_at B (by simp)) C), (h.block _ (by simp)).trans (Mem.new_at C (by simp))⟩
end Go.Proofs.Ytiomhmdkaglelaa
namespace Go.Proofs.Ytiomhmdkaglelaa
open Go.RowKit
set_option linter.unusedSimpArgs false
set_option linter.unusedVariables false
open Sp (fold intB textS bs)
attribute [local go_sem] Mem.run_store_float Mem.After.cell
end Go.Proofs.Ytiomhmdkaglelaa
