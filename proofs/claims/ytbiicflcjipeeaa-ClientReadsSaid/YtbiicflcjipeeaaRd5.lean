/- A reader hears an answer. -/
import Derived.Test.YtbiicflcjipeeaaRd4
namespace Go.Proofs.Ytbiicflcjipeeaa
open Go.RowKit
set_option linter.unusedSimpArgs false
set_option linter.unusedVariables false
attribute [local go_sem] Mem.run_store_float Mem.After.cell
/-- A match was appended to what was got. -/
theorem ReaderAt.added {w w2 w3 : World} {S : Nat → Prop} {b q : Nat} {vg v3 v' : Value} {r : Rr} {n : Int} {pl : List Int} (o : Obj) (sb : S b) (sq : S q) (hne : q ≠ b) (hS : ∀ k, S k → k < w.heap.size)
    (hb : w.heap[b]? = some (.cells #[.pointer (some ⟨q, 0, none⟩), .string r.name, .int .i64 r.most, .int .i64 r.at_, .int .i64 r.gone, vg] 115 (0, 0)))
    (hq : w.heap[q]? = some (.cells #[.int .i64 r.nodes, .int .i64 r.to] 95 (0, 0)))
    (hw : Qu.QRow w 0 72 2 vg r.got.length (gots r.got)) (dw : ∀ k, vg.ownBlock = some k → S k ∧ k ≠ b ∧ k ≠ q)
    (hff : ∀ p, p ∈ r.got → IntsR w (fun k => S k ∧ k ≠ b ∧ k ≠ q ∧ some k ≠ vg.ownBlock) p.2.1 p.2.2)
    (hbl2 : Below w.heap.size w w2) (hr2 : IntsR w2 (fun k => w.heap.size ≤ k) v' pl) (hg3 : (w2.alloc o).grownBy w3 vg.ownBlock)
    (hq3 : Qu.QRow w3 0 72 2 v3 (r.got.length + 1) (gots r.got ++ gotC (n, v', pl))) (ho3 : v3.ownBlock = vg.ownBlock ∨ ∃ b, v3.ownBlock = some b ∧ (w2.alloc o).heap.size ≤ b) :
    Mem.Ch S w (w3.setCell ⟨b, 5, none⟩ v3) ∧ ReaderAt (w3.setCell ⟨b, 5, none⟩ v3) (fun k => S k ∨ (w.heap.size ≤ k ∧ k < (w3.setCell ⟨b, 5, none⟩ v3).heap.size)) b { r with got := r.got ++ [(n, v', pl)] } := by
  have hlb := Mem.lt hb
  have hlq := Mem.lt hq
  have s2 := hbl2.size
  have s3 : w2.heap.size + 1 ≤ w3.heap.size := by have := hg3.size; simpa using this
  have sW : (w3.setCell ⟨b, 5, none⟩ v3).heap.size = w3.heap.size := by simp [World.setCell]
  have lw : ∀ k, vg.ownBlock = some k → k < w.heap.size := fun k hk => Qu.q_lt hw k hk
  have l3 : ∀ k, v3.ownBlock = some k → vg.ownBlock = some k ∨ w2.heap.size < k ∧ k < w3.heap.size := fun k hk => by
    rcases ho3 with h | ⟨g, hg, hgl⟩
    · exact .inl (h ▸ hk)
    · have e1 : g = k := by rw [hg] at hk; simpa using hk
      have e2 : w2.heap.size + 1 ≤ g := by simpa using hgl
      have := Qu.q_lt hq3 k hk
      exact .inr ⟨by omega, this⟩
  have far : ∀ k, k ≠ b → (w3.setCell ⟨b, 5, none⟩ v3).heap[k]? = w3.heap[k]? := fun k hk => Below.heap_setCell w3 ⟨b, 5, none⟩ v3 k hk
  have blk2 : ∀ k, k < w2.heap.size → k ≠ b → some k ≠ vg.ownBlock → (w3.setCell ⟨b, 5, none⟩ v3).heap[k]? = w2.heap[k]? := fun k hk h1 h2 =>
    (far k h1).trans ((hg3.block k (by simp; omega) h2).trans (Below.heap_alloc w2 o k hk))
  have blk : ∀ k, k < w.heap.size → k ≠ b → some k ≠ vg.ownBlock → (w3.setCell ⟨b, 5, none⟩ v3).heap[k]? = w.heap[k]? := fun k hk h1 h2 =>
    (blk2 k (by omega) h1 h2).trans (hbl2.block k hk)
  have nb : some b ≠ vg.ownBlock := fun h => (dw b h.symm).2.1 rfl
  have nq : some q ≠ vg.ownBlock := fun h => (dw q h.symm).2.2 rfl
  have h3b : w3.heap[b]? = some (.cells #[.pointer (some ⟨q, 0, none⟩), .string r.name, .int .i64 r.most, .int .i64 r.at_, .int .i64 r.gone, vg] 115 (0, 0)) :=
    (hg3.block b (by simp; omega) nb).trans ((Below.heap_alloc w2 o b (by omega)).trans ((hbl2.block b hlb).trans hb))
  refine ⟨(((Mem.Ch.of_below' hbl2).alloc o).grown hg3 (fun k hk => .inr (dw k hk).1)).set (.inr sb), q, v3, Mem.set h3b, (blk q hlq hne nq).trans hq, .inl sb, .inl sq, hne, ?_, ?_, ?_⟩
  · rw [gots_snoc, List.length_append]
    refine Qu.q_move hq3 (fun k hk => far k ?_)
    rcases l3 k hk with h | h
    · exact (dw k h).2.1
    · omega
  · intro k hk
    rcases l3 k hk with h | h
    · exact ⟨.inl (dw k h).1, (dw k h).2⟩
    · exact ⟨.inr ⟨by omega, by omega⟩, by omega, by omega⟩
  · intro p hp
    rcases List.mem_append.1 hp with hp | hp
    · refine ((hff p hp).lt.step (by omega) (fun k hk hl => blk k hk.2 hk.1.2.1 hk.1.2.2.2)).mono (fun k hk => ⟨.inl hk.1.1, hk.1.2.1, hk.1.2.2.1, fun h => ?_⟩)
      rcases l3 k h.symm with h | h
      · exact hk.1.2.2.2 h.symm
      · have := hk.2; omega
    · have : p = (n, v', pl) := by simpa using hp
      subst this
      refine (hr2.lt.step (by omega) (fun k hk hl => blk2 k hk.2 (by have := hk.1; omega) (fun h => by have := lw k h.symm; have := hk.1; omega))).mono (fun k hk => ?_)
      obtain ⟨hk1, hk2⟩ := hk
      refine ⟨.inr ⟨hk1, by omega⟩, by omega, by omega, fun h => ?_⟩
      rcases l3 k h.symm with h | h
      · have := lw k h; omega
      · omega
def newG (a : Int) (L : List (Value × List Int)) : List (Int × List Int) := (upto a L.length).zip (L.map Prod.snd)
theorem newG_len (a : Int) (L : List (Value × List Int)) : (newG a L).length = L.length := by simp [newG, upto_len]
theorem newG_at (a : Int) (L : List (Value × List Int)) (k : Nat) (p : Value × List Int) (h : L[k]? = some p) : (newG a L)[k]? = some (a + (k : Int), p.2) := by
  have hk := (List.getElem?_eq_some_iff.1 h).1
  unfold newG
  rw [List.getElem?_zip_eq_some]
  refine ⟨?_, by rw [List.getElem?_map, h]; rfl⟩
  unfold upto
  rw [List.getElem?_map, List.getElem?_range hk]
  rfl
set_option maxRecDepth 100000 in
set_option maxHeartbeats 4000000 in
theorem RdTold_ok (S okL : Nat → Prop) (b : Nat) (r : Rr) (n : Int) (vl : Value) (L : List (Value × List Int)) (w : World) (h : ReaderAt w S b r) (hS : ∀ k, S k → k < w.heap.size) (hL : Pks w okL vl L) (hd : ∀ k, okL k → ¬ S k)
    (hn : r.got.length ≤ 100000) (hl : L.length ≤ 100000) (h0 : 0 ≤ r.at_) (h1 : n = r.at_ + (L.length : Int)) (h2 : n ≤ 9223372036854775807) :
    Calls Try.prog 21 #[.pointer (some ⟨b, 0, none⟩), vl, .int .i64 n, .int .i64 0] w fun e w' => e = .returned (.tuple #[]) ∧ Mem.Ch S w w' ∧
      ∃ G1, G1.map gv = newG r.at_ L ∧ ReaderAt w' (fun k => S k ∨ (w.heap.size ≤ k ∧ k < w'.heap.size)) b { r with got := r.got ++ G1, at_ := n } := by
  obtain ⟨Al, cl, rfl⟩ := hL.slice
  have hL' := hL.lt
  have HL := Lib.hid hL'
  have HR := Lib.hid h
  obtain ⟨q, vg, hb, hq, sb, sq, hne, hw, dw, hff⟩ := h
  have b3 := Mem.cell hb (j := 3) rfl
  have hlb := Mem.lt hb
  have hll : ((L.length : Nat) : Int) ≤ 100000 := by omega
  have g1 : r.at_ ≤ n := by omega
  have g4 : n - r.at_ = (L.length : Int) := by omega
  have g3 : (n - r.at_ == (L.length : Int)) = true := by simpa using g4
  have H1 := Lib.hid h1
  clear h1 g4 hb hq hw dw hff hL hL'
  obtain ⟨i0, hi, hz0, hz1, hz2⟩ := info_parts info_got
  go_enter Try.func21, Try.ntmps21
  go_wp2_with fail
  go_loopw [39] (fun i wr => ∃ (G1 : List (Int × Value × List Int)), G1.length ≤ L.length ∧ i = .int .i64 G1.length ∧ G1.map gv = (newG r.at_ L).take G1.length ∧ Mem.Ch S w wr ∧
      ReaderAt wr (fun k => S k ∨ (w.heap.size ≤ k ∧ k < wr.heap.size)) b { r with got := r.got ++ G1 }) (fun i _ => L.length - (intOf i).toNat)
  case atStart => exact ⟨[], Nat.zero_le _, rfl, rfl, Mem.Ch.refl _ _, by rw [List.append_nil]; exact HR.out.mono (fun k hk => .inl hk)⟩
  case round =>
    obtain ⟨G1, hk, rfl, hG, hch, hra⟩ := hrel
    have hsz := hch.size
    have hS1 : ∀ k, (S k ∨ (w.heap.size ≤ k ∧ k < wr.heap.size)) → k < wr.heap.size := fun k hk => by
      rcases hk with h | h
      · have := hS k h; omega
      · exact h.2
    have hPk : Pks wr (fun k => okL k ∧ k < w.heap.size) (.slice Al L.length cl) L := HL.out.step hsz (fun k hk hl => hch.block k hk.2 (hd k hk.1))
    obtain ⟨q1, vg1, hb1, hq1, sb1, sq1, hne1, hw1, dw1, hff1⟩ := hra
    dsimp only at hb1 hq1 hw1 hff1
    have hgl1 : (r.got ++ G1).length = r.got.length + G1.length := List.length_append
    obtain ⟨Av, cv, rfl, hcv⟩ := Qu.q_slice hw1
    have hlb1 := Mem.lt hb1
    by_cases hlt : G1.length < L.length
    · obtain ⟨p, hp⟩ : ∃ p, L[G1.length]? = some p := ⟨_, List.getElem?_eq_getElem hlt⟩
      obtain ⟨g, o, rfl, hgo, hgl, hrow⟩ := hPk.1.row (k := G1.length) (r := pk p) (by rw [List.getElem?_map, hp]; rfl)
      have hpr := hPk.2 p (List.mem_of_getElem? hp)
      have hnew := newG_at r.at_ L G1.length p hp
      obtain ⟨pv, pl⟩ := p
      obtain ⟨Af, cf, hpv⟩ := hpr.slice
      dsimp only at hpv
      subst hpv
      have c0 : wr.cell? ⟨g, o + G1.length, none⟩ = some (.slice Af pl.length cf) := by have := hrow 0 _ rfl; simpa [pk] using this
      have hlt' : (G1.length : Int) < (L.length : Int) := by omega
      have hsum : r.at_ + (G1.length : Int) ≤ 9223372036854775807 := by have := H1.out; omega
      have hsum0 : 0 ≤ r.at_ + (G1.length : Int) := by omega
      have hX := Mem.new wr (.cells #[.slice Af pl.length cf] 70)
      have hbX := (Below.refl wr.heap.size wr).alloc (Nat.le_refl _) (.cells #[.slice Af pl.length cf] 70)
      have k3 := fun o => Mem.cell (Mem.old hb1 o) (j := 3) rfl
      have k5 := fun o => Mem.cell (Mem.old hb1 o) (j := 5) rfl
      have HE := Lib.hid (And.intro hpr (And.intro hch (And.intro hG (And.intro hnew (And.intro hX hbX)))))
      have HB1 := Lib.hid hb1
      have HT := Lib.hid (And.intro hq1 (And.intro hw1 (And.intro dw1 hff1)))
      have HGL := Lib.hid hgl1
      clear hpr hch hG hnew hX hbX hb1 hq1 hw1 dw1 hff1 hrow hPk hp hgl1 b3
      generalize (r.got ++ G1).length = gl at *
      have hwrap : IntKind.i64.wrap (r.at_ + (G1.length : Int)) = r.at_ + (G1.length : Int) := IntWalk.i64_in _ (by omega)
      go_wp2_with fail
      go_region_law (first
        | (refine step_goes rfl rfl Try.func49 (by kernel_rfl) rfl #[.slice Af pl.length cf] (by first | (simp [Act.eval]; done) | (simp [Act.eval, Act.put]; done)) ?_
           refine (CloneI_any pl _ _ _ (HE.out.1.below (HE.out.2.2.2.2.2.trans (Below.refl _ _).drew))).mono ?_
           rintro _ w2 ⟨v', rfl, hr2, hb2⟩
           obtain ⟨A2, c2, rfl⟩ := hr2.slice
           have hb0 : Below wr.heap.size wr w2 := HE.out.2.2.2.2.2.trans (Below.trans (Below.refl _ _).drew (hb2.mono (by simp)))
           have hs1 := hb0.size
           have h2b := (hb0.block b hlb1).trans HB1.out
           have k32 := Mem.cell h2b (j := 3) rfl
           have k52 := Mem.cell h2b (j := 5) rfl
           have k32a := fun o => Mem.cell (Mem.old h2b o) (j := 3) rfl
           have k52a := fun o => Mem.cell (Mem.old h2b o) (j := 5) rfl
           refine ⟨_, rfl, ?_⟩)
        | (refine step_q_append rfl (.tmp 48) (.tmp 60) 67 rfl 0 72 i0 _ 2 32 Try.underlying67 hi hz0 hz1 hz2 rfl (by decide) _ gl (gots (r.got ++ G1)) (by rfl) (Qu.q_move HT.out.2.1 (fun k hk => (Below.heap_alloc w2 _ k (by have := Qu.q_lt HT.out.2.1 k hk; omega)).trans (hb0.block k (Qu.q_lt HT.out.2.1 k hk)))) ⟨w2.heap.size, 0, none⟩ 1 1 (gotC (r.at_ + (G1.length : Int), .slice A2 pl.length c2, pl)) (by rfl) rfl (World.news_of_block (Mem.new w2 _)) (by intro u hu; simp only [gotC, List.mem_cons, List.not_mem_nil, or_false] at hu; rcases hu with rfl | rfl <;> rfl) (by decide) (by unfold maxLen; have := HGL.out; omega) (by have := HGL.out; omega) (Nat.zero_le _) ?_
           intro v3 w3 hq3 hg3 ho3
           obtain ⟨A3, cap3, rfl, hle3⟩ := Qu.q_slice hq3
           have h3b : w3.heap[b]? = _ := (hg3.block b (by simp; omega) (fun h => (HT.out.2.2.1 b h.symm).2.1 rfl)).trans (Mem.old h2b _)
           have k53 := Mem.cell h3b (j := 5) rfl
           have f53 := Mem.free (j := 5) h3b))
      all_goals
        go_wp2_with fail
        go_roundw
        case measure => simp [intOf]; omega
        case rel =>
          have hgl2 : gl = (r.got ++ G1).length := by rw [HGL.out, List.length_append]
          subst hgl2
          obtain ⟨hq1, hw1, dw1, hff1⟩ := HT.out
          obtain ⟨hpr, hch, hG, hnew, hX, hbX⟩ := HE.out
          obtain ⟨hc4, hr4⟩ := ReaderAt.added (r := { r with got := r.got ++ G1 }) (n := r.at_ + (G1.length : Int)) (pl := pl) _ sb1 sq1 hne1 hS1 HB1.out hq1 hw1 dw1 hff1 hb0 (hr2.mono (fun k hk => by simp at hk; omega)) hg3 hq3 ho3
          refine ⟨G1 ++ [(r.at_ + (G1.length : Int), .slice A2 pl.length c2, pl)], by simp; omega, by simp, ?_, hch.trans hc4 (fun k hk h => h.resolve_right (by omega)), ?_⟩
          · rw [List.map_append, hG, List.length_append, List.length_singleton, List.take_add_one, hnew]; rfl
          · have e1 : ({ r with got := r.got ++ (G1 ++ [(r.at_ + (G1.length : Int), .slice A2 pl.length c2, pl)]) } : Rr) = { r with got := (r.got ++ G1) ++ [(r.at_ + (G1.length : Int), .slice A2 pl.length c2, pl)] } := by rw [List.append_assoc]
            rw [e1]
            exact ReaderAt.mono hr4 (fun k hk => by rcases hk with (h | h) | h; exact .inl h; exact .inr (by have : wr.heap.size ≤ (w3.setCell ⟨b, 5, none⟩ (.slice A3 ((r.got ++ G1).length + 1) cap3)).heap.size := hc4.size; omega); exact .inr (by omega))
    · have hke : G1.length = L.length := by omega
      have k3 := Mem.cell hb1 (j := 3) rfl
      have f3 := Mem.free (j := 3) hb1
      have HE := Lib.hid (And.intro hch (And.intro hG (And.intro hb1 (And.intro hq1 (And.intro hw1 (And.intro dw1 hff1))))))
      clear hch hG hb1 hq1 hw1 dw1 hff1 hPk hgl1 hS1 hke
      have hge : ¬ (G1.length : Int) < (L.length : Int) := by omega
      go_wp2_with fail
      go_end0
      obtain ⟨hch, hG, hb1, hq1, hw1, dw1, hff1⟩ := HE.out
      have hke : G1.length = L.length := by omega
      refine ⟨rfl, hch.set (.inr sb), G1, by rw [hG, hke, ← newG_len r.at_ L, List.take_length], ?_⟩
      have hch2 : Mem.Ch (fun k => k = q1 ∨ k = b) wr (wr.setCell ⟨b, 3, none⟩ (.int .i64 n)) := (Mem.Ch.refl _ _).set (.inr (.inr rfl))
      have := ReaderAt.hdr (r := { r with got := r.got ++ G1 }) (r1 := { r with got := r.got ++ G1, at_ := n }) (w1 := wr.setCell ⟨b, 3, none⟩ (.int .i64 n)) sb1 sq1 hne1 hw1 dw1 hff1 hch2 (Mem.set hb1) (Mem.set_ne hq1 (fun h => hne1 h.symm)) rfl
      exact ReaderAt.mono this (fun k hk => by rcases hk with h | h; exact .inl h; exact .inr (by simp [World.setCell]; omega))
end Go.Proofs.Ytbiicflcjipeeaa
