/- What a reader got, as a row of one's own. · A reader hears an answer. · A reader hears that something is gone, or nothing; the state of a reader, plain; both readers' acts. -/
import Derived.Test.YtiomhmdkaglelaaG12
namespace Go.Proofs.Ytiomhmdkaglelaa
open Go.RowKit
set_option linter.unusedSimpArgs false
set_option linter.unusedVariables false
attribute [local go_sem] Mem.run_store_float Mem.After.cell
/-- A match's number and its picks. -/
def gv (p : Int × Value × List Int) : Int × List Int := (p.1, p.2.2)
/-- Matches of one's own: the row and each one's picks lie from B on. -/
def Gots (w : World) (B : Nat) (v : Value) (l : List (Int × Value × List Int)) : Prop := Qu.QRow w B 57 2 v l.length (gots l) ∧ ∀ p ∈ l, IntsR w (fun k => B ≤ k ∧ some k ≠ v.ownBlock) p.2.1 p.2.2
theorem Gots.nil (w : World) (B : Nat) : Gots w B (.slice none 0 0) [] := ⟨Qu.q_of_own (World.ownsRow_nil _ _ _ _), fun p hp => by simp at hp⟩
theorem Gots.below {w w1 : World} {B : Nat} {v : Value} {l : List (Int × Value × List Int)} (h : Gots w B v l) (hb : Below w.heap.size w w1) : Gots w1 B v l := ⟨Qu.q_move h.1 (fun k hk => hb.block k (Qu.q_lt h.1 k hk)), fun p hp => (h.2 p hp).below hb⟩
theorem Gots.added {w w2 w3 : World} {B : Nat} {v v3 v' : Value} {l : List (Int × Value × List Int)} {n : Int} {pl : List Int} {o : Obj} (h : Gots w B v l) (hB : B ≤ w.heap.size) (hbl : Below w.heap.size w w2) (hr2 : IntsR w2 (fun k => w.heap.size ≤ k) v' pl)
    (hg3 : (w2.alloc o).grownBy w3 v.ownBlock) (hq3 : Qu.QRow w3 B 57 2 v3 (l.length + 1) (gots l ++ gotC (n, v', pl))) (ho3 : v3.ownBlock = v.ownBlock ∨ ∃ b, v3.ownBlock = some b ∧ (w2.alloc o).heap.size ≤ b) : Gots w3 B v3 (l ++ [(n, v', pl)]) := by
  obtain ⟨hw, hf⟩ := h
  have s2 := hbl.size
  have s3 : w2.heap.size + 1 ≤ w3.heap.size := by have := hg3.size; simpa using this
  have lw : ∀ k, v.ownBlock = some k → k < w.heap.size := fun k hk => Qu.q_lt hw k hk
  have blk2 : ∀ k, k < w2.heap.size → some k ≠ v.ownBlock → w3.heap[k]? = w2.heap[k]? := fun k hk h2 => (hg3.block k (by simp; omega) h2).trans (Below.heap_alloc w2 o k hk)
  have no3 : ∀ k, k < w2.heap.size → some k ≠ v.ownBlock → some k ≠ v3.ownBlock := fun k hk h1 h2 => by
    rcases ho3 with h | ⟨g, hg, hgl⟩
    · exact h1 (h2.trans h)
    · rw [hg] at h2
      have e1 : k = g := by simpa using h2
      have e2 : w2.heap.size + 1 ≤ g := by simpa using hgl
      omega
  refine ⟨by rw [gots_snoc, List.length_append]; exact hq3, fun p hp => ?_⟩
  rcases List.mem_append.1 hp with hp | hp
  · exact ((hf p hp).lt.step (by omega) (fun k hk hl => (blk2 k (by omega) hk.1.2).trans (hbl.block k hk.2))).mono (fun k hk => ⟨hk.1.1, no3 k (by have := hk.2; omega) hk.1.2⟩)
  · have : p = (n, v', pl) := by simpa using hp
    subst this
    have nv : ∀ k, w.heap.size ≤ k → some k ≠ v.ownBlock := fun k hk h => by have := lw k h.symm; omega
    exact (hr2.lt.step (by omega) (fun k hk hl => blk2 k hk.2 (nv k hk.1))).mono (fun k hk => ⟨by have := hk.1; omega, no3 k hk.2 (nv k hk.1)⟩)
set_option maxRecDepth 100000 in
set_option maxHeartbeats 4000000 in
theorem RdGot_any (S : Nat → Prop) (b : Nat) (r : Rr) (w : World) (h : ReaderAt w S b r) (hn : r.got.length ≤ 100000) :
    Calls Try.prog 15 #[.pointer (some ⟨b, 0, none⟩)] w fun e w' => ∃ v l, e = .returned v ∧ Gots w' w.heap.size v l ∧ l.map gv = r.got.map gv ∧ Below w.heap.size w w' := by
  obtain ⟨q, vg, hb, hq, sb, sq, hne, hw, dw, hff⟩ := h
  obtain ⟨Ar, cr, rfl, hcr⟩ := Qu.q_slice hw
  have b5 := Mem.cell hb (j := 5) rfl
  have hwr : Mem.Rd w _ 2 _ (r.got.map gotC) := Rd_of_q (rows := r.got.map gotC) hw (by simp) (gotC_rows r.got)
  have HR := Lib.hid hwr
  have HF := Lib.hid hff
  clear hb hq hw dw hff hwr
  obtain ⟨i0, hi, hz0, hz1, hz2⟩ := info_parts info_got
  go_enter Try.func15, Try.ntmps15
  go_wp2_with fail
  go_loopw [3, 13] (fun v i wr => ∃ l : List (Int × Value × List Int), l.length ≤ r.got.length ∧ i = .int .i64 l.length ∧ Gots wr w.heap.size v l ∧ l.map gv = (r.got.take l.length).map gv ∧ Below w.heap.size w wr) (fun _ i _ => r.got.length - (intOf i).toNat)
  case atStart => exact ⟨[], Nat.zero_le _, rfl, Gots.nil _ _, rfl, Below.refl _ _⟩
  case round =>
    obtain ⟨l, hk, rfl, hev, hmap, hbel⟩ := hrel
    by_cases hlt : l.length < r.got.length
    · obtain ⟨⟨n, pv, pl⟩, hp⟩ : ∃ p, r.got[l.length]? = some p := ⟨_, List.getElem?_eq_getElem hlt⟩
      obtain ⟨g, o, rfl, hg, hgl, hrow⟩ := (Mem.Rd.below HR.out hbel).row (k := l.length) (r := gotC (n, pv, pl)) (by rw [List.getElem?_map, hp]; rfl)
      have her : IntsR w _ pv pl := HF.out (n, pv, pl) (List.mem_of_getElem? hp)
      obtain ⟨Af, cf, rfl⟩ := her.slice
      obtain ⟨Av, cv, rfl, hcv⟩ := Qu.q_slice hev.1
      have c0 : wr.cell? ⟨g, o + l.length * 2, none⟩ = some (.int .i64 n) := hrow 0 _ rfl
      have c1 : wr.cell? ⟨g, o + l.length * 2 + 1, none⟩ = some (.slice Af pl.length cf) := hrow 1 _ rfl
      have hbX := (Below.refl wr.heap.size wr).alloc (Nat.le_refl _) (.cells #[.int .i64 n, .slice Af pl.length cf] 57)
      have hX := Mem.new wr (.cells #[.int .i64 n, .slice Af pl.length cf] 57)
      have HE := Lib.hid (And.intro her (And.intro hev hbel))
      have HM := Lib.hid (And.intro hmap hp)
      have HX := Lib.hid (And.intro hbX hX)
      have hszw := hbel.size
      clear her hev hbel hmap hp hrow hbX hX
      go_wp2_with fail
      go_region_law (first
        | (refine step_goes rfl rfl Try.func36 (by kernel_rfl) rfl #[.slice Af pl.length cf] (by simp [Act.eval]) ?_
           refine (CloneI_any pl _ _ _ ((HE.out.1.below HE.out.2.2).below (HX.out.1.trans (Below.refl _ _).drew))).mono ?_
           rintro _ w2 ⟨v', rfl, hr2, hb2⟩
           obtain ⟨A2, c2, rfl⟩ := hr2.slice
           have hb0 : Below wr.heap.size wr w2 := HX.out.1.trans (Below.trans (Below.refl _ _).drew (hb2.mono (by simp)))
           have hX2 := (hb2.block wr.heap.size (by simp)).trans HX.out.2
           have x20 := Mem.cell hX2 (j := 0) rfl
           have hs1 := hb0.size
           refine ⟨_, rfl, ?_⟩)
        | (refine step_q_append rfl (.tmp 17) (.tmp 26) 54 rfl w.heap.size 57 i0 _ 2 32 Try.underlying54 hi hz0 hz1 hz2 rfl (by decide) _ l.length (gots l) (by rfl) (Qu.q_move (Gots.below HE.out.2.1 hb0).1 (fun k hk => Below.heap_alloc w2 _ k (Qu.q_lt (Gots.below HE.out.2.1 hb0).1 k hk))) ⟨w2.heap.size, 0, none⟩ 1 1 (gotC (n, .slice A2 pl.length c2, pl)) (by rfl) rfl (World.news_of_block (Mem.new w2 _)) (by intro u hu; simp only [gotC, List.mem_cons, List.not_mem_nil, or_false] at hu; rcases hu with rfl | rfl <;> rfl) (by decide) (by unfold maxLen; omega) (by omega) (by simp; omega) ?_
           intro v3 w3 hq3 hg3 ho3))
      all_goals
        go_wp2_with fail
        go_roundw
        case rel =>
          refine ⟨l ++ [(n, .slice A2 pl.length c2, pl)], by simp; omega, by simp, Gots.added HE.out.2.1 HE.out.2.2.size hb0 (hr2.mono (fun k hk => by simp at hk; omega)) hg3 hq3 ho3, ?_, ?_⟩
          · obtain ⟨hmap, hp⟩ := HM.out
            rw [List.map_append, hmap, List.length_append, List.length_singleton, List.take_add_one, hp, List.map_append]
            rfl
          · exact Below.grown ((HE.out.2.2.trans (hb0.mono HE.out.2.2.size)).alloc (by omega) _) hg3 (by simp; omega) (fun k hk => (Qu.q_typed HE.out.2.1.1 k hk).1)
        case measure => simp [intOf]; try omega
    · have hk' : l.length = r.got.length := by omega
      have HE := Lib.hid (And.intro hev (And.intro hmap hbel))
      clear hev hmap hbel
      go_wp2_with fail
      go_ret
      obtain ⟨hev, hmap, hbel⟩ := HE.out
      exact ⟨_, l, rfl, hev, by rw [hmap, hk', List.take_length], hbel⟩
set_option maxRecDepth 100000 in
set_option maxHeartbeats 2000000 in
theorem NewReader_no (nodes most : Int) (name : ByteArray) (w : World) (hs : name.size ≤ 140737488351232) (h : (nodes < 1 ∨ 7 < nodes) ∨ (1 ≤ nodes ∧ nodes ≤ 7 ∧ wordB name = false) ∨ (1 ≤ nodes ∧ nodes ≤ 7 ∧ wordB name = true ∧ most < 1)) :
    Calls Try.prog 4 #[.int .i64 nodes, .string name, .int .i64 most] w fun e w' => e = .returned (.pointer none) ∧ Below w.heap.size w w' := by
  rcases h with h | ⟨h1, h7, hw⟩ | ⟨h1, h7, hw, hm⟩
  · have HH := Lib.hid h
    clear h
    go_enter Try.func4, Try.ntmps4
    go_wp2_with (go_at_call 18; refine (some_no nodes _ HH.out).mono ?_; rintro _ w1 ⟨rfl, rfl⟩)
    go_ret
    exact ⟨rfl, Below.refl _ _⟩
  · have HW := Lib.hid hw
    clear hw
    go_enter Try.func4, Try.ntmps4
    go_wp2_with (first
      | (go_at_call 18; refine (some_yes nodes _ h1 h7).mono ?_; rintro _ w1 ⟨rfl, rfl⟩)
      | (go_at_call 19; refine (Word_no name _ hs HW.out).mono ?_; rintro _ w2 ⟨rfl, rfl⟩))
    go_ret
    exact ⟨rfl, Below.refl _ _⟩
  · have HW := Lib.hid hw
    clear hw
    go_enter Try.func4, Try.ntmps4
    go_wp2_with (first
      | (go_at_call 18; refine (some_yes nodes _ h1 h7).mono ?_; rintro _ w1 ⟨rfl, rfl⟩)
      | (go_at_call 19; refine (Word_yes name _ hs HW.out).mono ?_; rintro _ w2 ⟨rfl, hw2⟩; have hw3 := hw2.symm; subst hw3))
    go_ret
    exact ⟨rfl, Below.refl _ _⟩
set_option maxRecDepth 100000 in
set_option maxHeartbeats 2000000 in
theorem NewReader_yes (nodes most : Int) (name : ByteArray) (w : World) (hs : name.size ≤ 140737488351232) (h1 : 1 ≤ nodes) (h7 : nodes ≤ 7) (hw : wordB name = true) (hm : 1 ≤ most) :
    Calls Try.prog 4 #[.int .i64 nodes, .string name, .int .i64 most] w fun e w' => ∃ b, e = .returned (.pointer (some ⟨b, 0, none⟩)) ∧ Below w.heap.size w w' ∧ w.heap.size ≤ b ∧ ReaderAt w' (fun k => w.heap.size ≤ k ∧ k < w'.heap.size) b ⟨nodes, 0, name, most, 0, 0, []⟩ := by
  have HW := Lib.hid hw
  clear hw
  go_enter Try.func4, Try.ntmps4
  go_wp2_with (first
    | (go_at_call 18; refine (some_yes nodes _ h1 h7).mono ?_; rintro _ w1 ⟨rfl, rfl⟩)
    | (go_at_call 19; refine (Word_yes name _ hs HW.out).mono ?_; rintro _ w2 ⟨rfl, hw2⟩; have hw3 := hw2.symm; subst hw3))
  go_ret
  refine ⟨w.heap.size + 1, rfl, ((Below.refl _ _).alloc (Nat.le_refl _) _).alloc (by simp) _, by omega, w.heap.size, .slice none 0 0, Mem.new_at _ (by simp), Mem.old (Mem.new _ _) _, ⟨by omega, by simp⟩, ⟨by omega, by simp; omega⟩, by omega, Qu.q_of_own (World.ownsRow_nil _ _ _ _), ?_, ?_⟩
  · intro k hk; simp [Value.ownBlock] at hk
  · intro p hp; simp at hp
end Go.Proofs.Ytiomhmdkaglelaa
namespace Go.Proofs.Ytiomhmdkaglelaa
open Go.RowKit
set_option linter.unusedSimpArgs false
set_option linter.unusedVariables false
attribute [local go_sem] Mem.run_store_float Mem.After.cell
/-- A match was appended to what was got. -/
theorem ReaderAt.added {w w2 w3 : World} {S : Nat → Prop} {b q : Nat} {vg v3 v' : Value} {r : Rr} {n : Int} {pl : List Int} (o : Obj) (sb : S b) (sq : S q) (hne : q ≠ b) (hS : ∀ k, S k → k < w.heap.size)
    (hb : w.heap[b]? = some (.cells #[.pointer (some ⟨q, 0, none⟩), .string r.name, .int .i64 r.most, .int .i64 r.at_, .int .i64 r.gone, vg] 66 (0, 0)))
    (hq : w.heap[q]? = some (.cells #[.int .i64 r.nodes, .int .i64 r.to] 64 (0, 0)))
    (hw : Qu.QRow w 0 57 2 vg r.got.length (gots r.got)) (dw : ∀ k, vg.ownBlock = some k → S k ∧ k ≠ b ∧ k ≠ q)
    (hff : ∀ p, p ∈ r.got → IntsR w (fun k => S k ∧ k ≠ b ∧ k ≠ q ∧ some k ≠ vg.ownBlock) p.2.1 p.2.2)
    (hbl2 : Below w.heap.size w w2) (hr2 : IntsR w2 (fun k => w.heap.size ≤ k) v' pl) (hg3 : (w2.alloc o).grownBy w3 vg.ownBlock)
    (hq3 : Qu.QRow w3 0 57 2 v3 (r.got.length + 1) (gots r.got ++ gotC (n, v', pl))) (ho3 : v3.ownBlock = vg.ownBlock ∨ ∃ b, v3.ownBlock = some b ∧ (w2.alloc o).heap.size ≤ b) :
    Mem.Ch S w (w3.setCell ⟨b, 5, none⟩ v3) ∧ ReaderAt (w3.setCell ⟨b, 5, none⟩ v3) (fun k => S k ∨ (w.heap.size ≤ k ∧ k < (w3.setCell ⟨b, 5, none⟩ v3).heap.size)) b { r with got := r.got ++ [(n, v', pl)] } := by
  have hlb := Mem.lt hb
  have hlq := Mem.lt hq
  have s2 := hbl2.size
  have s3 : w2.heap.size + 1 ≤ w3.heap.size := by have := hg3.size; simpa using this
  have sW : (w3.setCell ⟨b, 5, none⟩ v3).heap.size = w3.heap.size := by simp [World.setCell]
  have lw : ∀ k, vg.ownBlock = some k → k < w.heap.size := fun k hk => Qu.q_lt hw k hk
  have l3 : ∀ k, v3.ownBlock = some k → vg.ownBlock = some k ∨ w2.heap.size < k ∧ k < w3.heap.size := fun k hk => by
    rcases ho3 with h | ⟨g, hg, hgl⟩
    · exact .inl (h ▸ hk)
    · have e1 : g = k := by rw [hg] at hk; simpa using hk
      have e2 : w2.heap.size + 1 ≤ g := by simpa using hgl
      have := Qu.q_lt hq3 k hk
      exact .inr ⟨by omega, this⟩
  have far : ∀ k, k ≠ b → (w3.setCell ⟨b, 5, none⟩ v3).heap[k]? = w3.heap[k]? := fun k hk => Below.heap_setCell w3 ⟨b, 5, none⟩ v3 k hk
  have blk2 : ∀ k, k < w2.heap.size → k ≠ b → some k ≠ vg.ownBlock → (w3.setCell ⟨b, 5, none⟩ v3).heap[k]? = w2.heap[k]? := fun k hk h1 h2 =>
    (far k h1).trans ((hg3.block k (by simp; omega) h2).trans (Below.heap_alloc w2 o k hk))
  have blk : ∀ k, k < w.heap.size → k ≠ b → some k ≠ vg.ownBlock → (w3.setCell ⟨b, 5, none⟩ v3).heap[k]? = w.heap[k]? := fun k hk h1 h2 =>
    (blk2 k (by omega) h1 h2).trans (hbl2.block k hk)
  have nb : some b ≠ vg.ownBlock := fun h => (dw b h.symm).2.1 rfl
  have nq : some q ≠ vg.ownBlock := fun h => (dw q h.symm).2.2 rfl
  have h3b : w3.heap[b]? = some (.cells #[.pointer (some ⟨q, 0, none⟩), .string r.name, .int .i64 r.most, .int .i64 r.at_, .int .i64 r.gone, vg] 66 (0, 0)) :=
    (hg3.block b (by simp; omega) nb).trans ((Below.heap_alloc w2 o b (by omega)).trans ((hbl2.block b hlb).trans hb))
  refine ⟨(((Mem.Ch.of_below' hbl2).alloc o).grown hg3 (fun k hk => .inr (dw k hk).1)).set (.inr sb), q, v3, Mem.set h3b, (blk q hlq hne nq).trans hq, .inl sb, .inl sq, hne, ?_, ?_, ?_⟩
  · rw [gots_snoc, List.length_append]
    refine Qu.q_move hq3 (fun k hk => far k ?_)
    rcases l3 k hk with h | h
    · exact (dw k h).2.1
    · omega
  · intro k hk
    rcases l3 k hk with h | h
    · exact ⟨.inl (dw k h).1, (dw k h).2⟩
    · exact ⟨.inr ⟨by omega, by omega⟩, by omega, by omega⟩
  · intro p hp
    rcases List.mem_append.1 hp with hp | hp
    · refine ((hff p hp).lt.step (by omega) (fun k hk hl => blk k hk.2 hk.1.2.1 hk.1.2.2.2)).mono (fun k hk => ⟨.inl hk.1.1, hk.1.2.1, hk.1.2.2.1, fun h => ?_⟩)
      rcases l3 k h.symm with h | h
      · exact hk.1.2.2.2 h.symm
      · have := hk.2; omega
    · have : p = (n, v', pl) := by simpa using hp
      subst this
      refine (hr2.lt.step (by omega) (fun k hk hl => blk2 k hk.2 (by have := hk.1; omega) (fun h => by have := lw k h.symm; have := hk.1; omega))).mono (fun k hk => ?_)
      obtain ⟨hk1, hk2⟩ := hk
      refine ⟨.inr ⟨hk1, by omega⟩, by omega, by omega, fun h => ?_⟩
      rcases l3 k h.symm with h | h
      · have := lw k h; omega
      · omega
def newG (a : Int) (L : List (Value × List Int)) : List (Int × List Int) := (upto a L.length).zip (L.map Prod.snd)
theorem newG_len (a : Int) (L : List (Value × List Int)) : (newG a L).length = L.length := by simp [newG, upto_len]
theorem newG_at (a : Int) (L : List (Value × List Int)) (k : Nat) (p : Value × List Int) (h : L[k]? = some p) : (newG a L)[k]? = some (a + (k : Int), p.2) := by
  have hk := (List.getElem?_eq_some_iff.1 h).1
  unfold newG
  rw [List.getElem?_zip_eq_some]
  refine ⟨?_, by rw [List.getElem?_map, h]; rfl⟩
  unfold upto
  rw [List.getElem?_map, List.getElem?_range hk]
  rfl
set_option maxRecDepth 100000 in
set_option maxHeartbeats 4000000 in
theorem RdTold_ok (S okL : Nat → Prop) (b : Nat) (r : Rr) (n : Int) (vl : Value) (L : List (Value × List Int)) (w : World) (h : ReaderAt w S b r) (hS : ∀ k, S k → k < w.heap.size) (hL : Pks w okL vl L) (hd : ∀ k, okL k → ¬ S k)
    (hn : r.got.length ≤ 100000) (hl : L.length ≤ 100000) (h0 : 0 ≤ r.at_) (h1 : n = r.at_ + (L.length : Int)) (h2 : n ≤ 9223372036854775807) :
    Calls Try.prog 13 #[.pointer (some ⟨b, 0, none⟩), vl, .int .i64 n, .int .i64 0] w fun e w' => e = .returned (.tuple #[]) ∧ Mem.Ch S w w' ∧
      ∃ G1, G1.map gv = newG r.at_ L ∧ ReaderAt w' (fun k => S k ∨ (w.heap.size ≤ k ∧ k < w'.heap.size)) b { r with got := r.got ++ G1, at_ := n } := by
  obtain ⟨Al, cl, rfl⟩ := hL.slice
  have hL' := hL.lt
  have HL := Lib.hid hL'
  have HR := Lib.hid h
  obtain ⟨q, vg, hb, hq, sb, sq, hne, hw, dw, hff⟩ := h
  have b3 := Mem.cell hb (j := 3) rfl
  have hlb := Mem.lt hb
  have hll : ((L.length : Nat) : Int) ≤ 100000 := by omega
  have g1 : r.at_ ≤ n := by omega
  have g4 : n - r.at_ = (L.length : Int) := by omega
  have g3 : (n - r.at_ == (L.length : Int)) = true := by simpa using g4
  have H1 := Lib.hid h1
  clear h1 g4 hb hq hw dw hff hL hL'
  obtain ⟨i0, hi, hz0, hz1, hz2⟩ := info_parts info_got
  go_enter Try.func13, Try.ntmps13
  go_wp2_with fail
  go_loopw [39] (fun i wr => ∃ (G1 : List (Int × Value × List Int)), G1.length ≤ L.length ∧ i = .int .i64 G1.length ∧ G1.map gv = (newG r.at_ L).take G1.length ∧ Mem.Ch S w wr ∧
      ReaderAt wr (fun k => S k ∨ (w.heap.size ≤ k ∧ k < wr.heap.size)) b { r with got := r.got ++ G1 }) (fun i _ => L.length - (intOf i).toNat)
  case atStart => exact ⟨[], Nat.zero_le _, rfl, rfl, Mem.Ch.refl _ _, by rw [List.append_nil]; exact HR.out.mono (fun k hk => .inl hk)⟩
  case round =>
    obtain ⟨G1, hk, rfl, hG, hch, hra⟩ := hrel
    have hsz := hch.size
    have hS1 : ∀ k, (S k ∨ (w.heap.size ≤ k ∧ k < wr.heap.size)) → k < wr.heap.size := fun k hk => by
      rcases hk with h | h
      · have := hS k h; omega
      · exact h.2
    have hPk : Pks wr (fun k => okL k ∧ k < w.heap.size) (.slice Al L.length cl) L := HL.out.step hsz (fun k hk hl => hch.block k hk.2 (hd k hk.1))
    obtain ⟨q1, vg1, hb1, hq1, sb1, sq1, hne1, hw1, dw1, hff1⟩ := hra
    dsimp only at hb1 hq1 hw1 hff1
    have hgl1 : (r.got ++ G1).length = r.got.length + G1.length := List.length_append
    obtain ⟨Av, cv, rfl, hcv⟩ := Qu.q_slice hw1
    have hlb1 := Mem.lt hb1
    by_cases hlt : G1.length < L.length
    · obtain ⟨p, hp⟩ : ∃ p, L[G1.length]? = some p := ⟨_, List.getElem?_eq_getElem hlt⟩
      obtain ⟨g, o, rfl, hgo, hgl, hrow⟩ := hPk.1.row (k := G1.length) (r := pk p) (by rw [List.getElem?_map, hp]; rfl)
      have hpr := hPk.2 p (List.mem_of_getElem? hp)
      have hnew := newG_at r.at_ L G1.length p hp
      obtain ⟨pv, pl⟩ := p
      obtain ⟨Af, cf, hpv⟩ := hpr.slice
      dsimp only at hpv
      subst hpv
      have c0 : wr.cell? ⟨g, o + G1.length, none⟩ = some (.slice Af pl.length cf) := by have := hrow 0 _ rfl; simpa [pk] using this
      have hlt' : (G1.length : Int) < (L.length : Int) := by omega
      have hsum : r.at_ + (G1.length : Int) ≤ 9223372036854775807 := by have := H1.out; omega
      have hsum0 : 0 ≤ r.at_ + (G1.length : Int) := by omega
      have hX := Mem.new wr (.cells #[.slice Af pl.length cf] 45)
      have hbX := (Below.refl wr.heap.size wr).alloc (Nat.le_refl _) (.cells #[.slice Af pl.length cf] 45)
      have k3 := fun o => Mem.cell (Mem.old hb1 o) (j := 3) rfl
      have k5 := fun o => Mem.cell (Mem.old hb1 o) (j := 5) rfl
      have HE := Lib.hid (And.intro hpr (And.intro hch (And.intro hG (And.intro hnew (And.intro hX hbX)))))
      have HB1 := Lib.hid hb1
      have HT := Lib.hid (And.intro hq1 (And.intro hw1 (And.intro dw1 hff1)))
      have HGL := Lib.hid hgl1
      clear hpr hch hG hnew hX hbX hb1 hq1 hw1 dw1 hff1 hrow hPk hp hgl1 b3
      generalize (r.got ++ G1).length = gl at *
      have hwrap : IntKind.i64.wrap (r.at_ + (G1.length : Int)) = r.at_ + (G1.length : Int) := IntWalk.i64_in _ (by omega)
      go_wp2_with fail
      go_region_law (first
        | (refine step_goes rfl rfl Try.func36 (by kernel_rfl) rfl #[.slice Af pl.length cf] (by first | (simp [Act.eval]; done) | (simp [Act.eval, Act.put]; done)) ?_
           refine (CloneI_any pl _ _ _ (HE.out.1.below (HE.out.2.2.2.2.2.trans (Below.refl _ _).drew))).mono ?_
           rintro _ w2 ⟨v', rfl, hr2, hb2⟩
           obtain ⟨A2, c2, rfl⟩ := hr2.slice
           have hb0 : Below wr.heap.size wr w2 := HE.out.2.2.2.2.2.trans (Below.trans (Below.refl _ _).drew (hb2.mono (by simp)))
           have hs1 := hb0.size
           have h2b := (hb0.block b hlb1).trans HB1.out
           have k32 := Mem.cell h2b (j := 3) rfl
           have k52 := Mem.cell h2b (j := 5) rfl
           have k32a := fun o => Mem.cell (Mem.old h2b o) (j := 3) rfl
           have k52a := fun o => Mem.cell (Mem.old h2b o) (j := 5) rfl
           refine ⟨_, rfl, ?_⟩)
        | (refine step_q_append rfl (.tmp 48) (.tmp 60) 54 rfl 0 57 i0 _ 2 32 Try.underlying54 hi hz0 hz1 hz2 rfl (by decide) _ gl (gots (r.got ++ G1)) (by rfl) (Qu.q_move HT.out.2.1 (fun k hk => (Below.heap_alloc w2 _ k (by have := Qu.q_lt HT.out.2.1 k hk; omega)).trans (hb0.block k (Qu.q_lt HT.out.2.1 k hk)))) ⟨w2.heap.size, 0, none⟩ 1 1 (gotC (r.at_ + (G1.length : Int), .slice A2 pl.length c2, pl)) (by rfl) rfl (World.news_of_block (Mem.new w2 _)) (by intro u hu; simp only [gotC, List.mem_cons, List.not_mem_nil, or_false] at hu; rcases hu with rfl | rfl <;> rfl) (by decide) (by unfold maxLen; have := HGL.out; omega) (by have := HGL.out; omega) (Nat.zero_le _) ?_
           intro v3 w3 hq3 hg3 ho3
           obtain ⟨A3, cap3, rfl, hle3⟩ := Qu.q_slice hq3
           have h3b : w3.heap[b]? = _ := (hg3.block b (by simp; omega) (fun h => (HT.out.2.2.1 b h.symm).2.1 rfl)).trans (Mem.old h2b _)
           have k53 := Mem.cell h3b (j := 5) rfl
           have f53 := Mem.free (j := 5) h3b))
      all_goals
        go_wp2_with fail
        go_roundw
        case measure => simp [intOf]; omega
        case rel =>
          have hgl2 : gl = (r.got ++ G1).length := by rw [HGL.out, List.length_append]
          subst hgl2
          obtain ⟨hq1, hw1, dw1, hff1⟩ := HT.out
          obtain ⟨hpr, hch, hG, hnew, hX, hbX⟩ := HE.out
          obtain ⟨hc4, hr4⟩ := ReaderAt.added (r := { r with got := r.got ++ G1 }) (n := r.at_ + (G1.length : Int)) (pl := pl) _ sb1 sq1 hne1 hS1 HB1.out hq1 hw1 dw1 hff1 hb0 (hr2.mono (fun k hk => by simp at hk; omega)) hg3 hq3 ho3
          refine ⟨G1 ++ [(r.at_ + (G1.length : Int), .slice A2 pl.length c2, pl)], by simp; omega, by simp, ?_, hch.trans hc4 (fun k hk h => h.resolve_right (by omega)), ?_⟩
          · rw [List.map_append, hG, List.length_append, List.length_singleton, List.take_add_one, hnew]; rfl
          · have e1 : ({ r with got := r.got ++ (G1 ++ [(r.at_ + (G1.length : Int), .slice A2 pl.length c2, pl)]) } : Rr) = { r with got := (r.got ++ G1) ++ [(r.at_ + (G1.length : Int), .slice A2 pl.length c2, pl)] } := by rw [List.append_assoc]
            rw [e1]
            exact ReaderAt.mono hr4 (fun k hk => by rcases hk with (h | h) | h; exact .inl h; exact .inr (by have : wr.heap.size ≤ (w3.setCell ⟨b, 5, none⟩ (.slice A3 ((r.got ++ G1).length + 1) cap3)).heap.size := hc4.size; omega); exact .inr (by omega))
    · have hke : G1.length = L.length := by omega
      have k3 := Mem.cell hb1 (j := 3) rfl
      have f3 := Mem.free (j := 3) hb1
      have HE := Lib.hid (And.intro hch (And.intro hG (And.intro hb1 (And.intro hq1 (And.intro hw1 (And.intro dw1 hff1))))))
      clear hch hG hb1 hq1 hw1 dw1 hff1 hPk hgl1 hS1 hke
      have hge : ¬ (G1.length : Int) < (L.length : Int) := by omega
      go_wp2_with fail
      go_end0
      obtain ⟨hch, hG, hb1, hq1, hw1, dw1, hff1⟩ := HE.out
      have hke : G1.length = L.length := by omega
      refine ⟨rfl, hch.set (.inr sb), G1, by rw [hG, hke, ← newG_len r.at_ L, List.take_length], ?_⟩
      have hch2 : Mem.Ch (fun k => k = q1 ∨ k = b) wr (wr.setCell ⟨b, 3, none⟩ (.int .i64 n)) := (Mem.Ch.refl _ _).set (.inr (.inr rfl))
      have := ReaderAt.hdr (r := { r with got := r.got ++ G1 }) (r1 := { r with got := r.got ++ G1, at_ := n }) (w1 := wr.setCell ⟨b, 3, none⟩ (.int .i64 n)) sb1 sq1 hne1 hw1 dw1 hff1 hch2 (Mem.set hb1) (Mem.set_ne hq1 (fun h => hne1 h.symm)) rfl
      exact ReaderAt.mono this (fun k hk => by rcases hk with h | h; exact .inl h; exact .inr (by simp [World.setCell]; omega))
end Go.Proofs.Ytiomhmdkaglelaa
namespace Go.Proofs.Ytiomhmdkaglelaa
open Go.RowKit
set_option linter.unusedSimpArgs false
set_option linter.unusedVariables false
attribute [local go_sem] Mem.run_store_float Mem.After.cell
set_option maxRecDepth 100000 in
set_option maxHeartbeats 2000000 in
theorem RdTold_gone (S : Nat → Prop) (b : Nat) (r : Rr) (n e : Int) (A : Option Addr) (x y : Nat) (w : World) (h : ReaderAt w S b r) (he : e = 180) (hlt : r.at_ < n) (h0 : 0 ≤ r.gone) (h1 : r.gone ≤ r.at_) (h2 : n ≤ 9223372036854775807) :
    Calls Try.prog 13 #[.pointer (some ⟨b, 0, none⟩), .slice A x y, .int .i64 n, .int .i64 e] w fun e w' => e = .returned (.tuple #[]) ∧ Mem.Ch S w w' ∧ ReaderAt w' S b { r with at_ := n, gone := r.gone + (n - r.at_) } := by
  subst he
  obtain ⟨q, vg, hb, hq, sb, sq, hne, hw, dw, hff⟩ := h
  have b3 := Mem.cell hb (j := 3) rfl
  have b4 := Mem.cell hb (j := 4) rfl
  have f3 := Mem.free (j := 3) hb
  have f4 := Mem.free (j := 4) hb
  have HH := Lib.hid (And.intro hb (And.intro hq (And.intro hw (And.intro dw hff))))
  have e1 : IntKind.i64.wrap (n - r.at_) = n - r.at_ := IntWalk.i64_in _ (by omega)
  have e2 : IntKind.i64.wrap (r.gone + (n - r.at_)) = r.gone + (n - r.at_) := IntWalk.i64_in _ (by omega)
  have g1 : 0 ≤ n - r.at_ := by omega
  have g2 : r.gone + (n - r.at_) ≤ 9223372036854775807 := by omega
  clear hb hq hw dw hff
  go_enter Try.func13, Try.ntmps13
  go_wp2_with fail
  go_region
  all_goals
    go_wp2_with fail
    go_end0
    obtain ⟨hb, hq, hw, dw, hff⟩ := HH.out
    have hch : Mem.Ch (fun k => k = q ∨ k = b) w ((w.setCell ⟨b, 4, none⟩ (.int .i64 (r.gone + (n - r.at_)))).setCell ⟨b, 3, none⟩ (.int .i64 n)).drew := (((Mem.Ch.refl (fun k => k = q ∨ k = b) _).set (.inr (.inr rfl))).set (.inr (.inr rfl))).drew
    exact ⟨rfl, hch.mono (fun k _ hk => by rcases hk with rfl | rfl; exact sq; exact sb), ReaderAt.hdr (r1 := { r with at_ := n, gone := r.gone + (n - r.at_) }) sb sq hne hw dw hff hch (Mem.set (Mem.set hb)) (Mem.set_ne (Mem.set_ne hq (fun h => hne h.symm)) (fun h => hne h.symm)) rfl⟩
set_option maxRecDepth 100000 in
set_option maxHeartbeats 2000000 in
theorem RdTold_late (S : Nat → Prop) (b : Nat) (r : Rr) (n e : Int) (A : Option Addr) (x y : Nat) (w : World) (h : ReaderAt w S b r) (hc : (e ≠ 0 ∧ e ≠ 180) ∨ (e = 0 ∧ n < r.at_) ∨ (e = 0 ∧ r.at_ ≤ n ∧ n - r.at_ ≠ (x : Int)) ∨ (e = 180 ∧ n ≤ r.at_)) (h0 : 0 ≤ r.at_) (h2 : n ≤ 9223372036854775807)
    (f1 : 1 ≤ r.nodes) (f2 : r.nodes ≤ 7) (f3 : 0 ≤ r.to) (f4 : r.to < r.nodes) :
    Calls Try.prog 13 #[.pointer (some ⟨b, 0, none⟩), .slice A x y, .int .i64 n, .int .i64 e] w fun e w' => e = .returned (.tuple #[]) ∧ Mem.Ch S w w' ∧ ReaderAt w' S b { r with to := nextTo r.to r.nodes } := by
  have HR := Lib.hid h
  obtain ⟨q, vg, hb, hq, sb, sq, hne, hw, dw, hff⟩ := h
  have b3 := Mem.cell hb (j := 3) rfl
  clear hb hq hw dw hff
  rcases hc with ⟨k0, k1⟩ | ⟨rfl, k⟩ | ⟨rfl, k, k2⟩ | ⟨rfl, k⟩
  case' inl =>
    have k0' : (e == 0) = false := by simpa using k0
    have k1' : (e == 180) = false := by simpa using k1
    clear k0 k1
  case' inr.inr.inl =>
    have k2' : (n - r.at_ == (x : Int)) = false := by simpa using k2
    clear k2
  all_goals
    go_enter Try.func13, Try.ntmps13
    go_wp2_with (go_at_call 11; refine (RdLate_any S b r _ HR.out f1 f2 f3 f4).mono ?_; rintro _ w1 ⟨rfl, hc1, hr1⟩)
    go_end0
    exact ⟨rfl, hc1, hr1⟩
/-- A reader's state, plain. -/
structure Rs where
  nodes : Int
  to : Int
  at_ : Int
  gone : Int
  got : List (Int × List Int)
def Rs.late (s : Rs) : Rs := { s with to := nextTo s.to s.nodes }
def Rs.told (s : Rs) (L : List (Value × List Int)) (n e : Int) : Rs :=
  if e = 0 ∧ s.at_ ≤ n ∧ n - s.at_ = (L.length : Int) then { s with got := s.got ++ newG s.at_ L, at_ := n }
  else if e = 180 ∧ s.at_ < n then { s with gone := s.gone + (n - s.at_), at_ := n } else s.late
structure RInv (s : Rs) (k : Nat) : Prop where
  n1 : 1 ≤ s.nodes
  n7 : s.nodes ≤ 7
  t0 : 0 ≤ s.to
  t1 : s.to < s.nodes
  g0 : 0 ≤ s.gone
  g1 : s.gone ≤ s.at_
  a1 : s.at_ ≤ 9223372036854775807
  len : s.got.length ≤ 20 * k
theorem RInv.more {s : Rs} {k : Nat} (h : RInv s k) : RInv s (k + 1) := ⟨h.n1, h.n7, h.t0, h.t1, h.g0, h.g1, h.a1, by have := h.len; omega⟩
theorem RInv.late {s : Rs} {k : Nat} (h : RInv s k) : RInv s.late (k + 1) := ⟨h.n1, h.n7, (nextTo_in s.to s.nodes h.n1).1, (nextTo_in s.to s.nodes h.n1).2, h.g0, h.g1, h.a1, by have := h.len; show s.got.length ≤ _; omega⟩
theorem RInv.told {s : Rs} {k : Nat} (h : RInv s k) (L : List (Value × List Int)) (n e : Int) (hl : L.length ≤ 20) (hn : n ≤ 9223372036854775807) : RInv (s.told L n e) (k + 1) := by
  have hg := h.g0
  have hg1 := h.g1
  have hlen := h.len
  unfold Rs.told
  split
  · rename_i h1
    exact ⟨h.n1, h.n7, h.t0, h.t1, hg, by show s.gone ≤ n; omega, hn, by show (s.got ++ newG s.at_ L).length ≤ _; rw [List.length_append, newG_len]; omega⟩
  · split
    · rename_i h2
      exact ⟨h.n1, h.n7, h.t0, h.t1, by show 0 ≤ s.gone + (n - s.at_); omega, by show s.gone + (n - s.at_) ≤ n; omega, hn, by show s.got.length ≤ _; omega⟩
    · exact h.late
/-- The program's reader. -/
def PR (w : World) (S : Nat → Prop) (b : Nat) (name : ByteArray) (most : Int) (s : Rs) : Prop := ∃ lg, ReaderAt w S b ⟨s.nodes, s.to, name, most, s.at_, s.gone, lg⟩ ∧ lg.map gv = s.got
/-- The document's. -/
def DR (w : World) (ok : Nat → Prop) (s : Rs) (v : Value) : Prop := ∃ vn vg N G, v = rrd s.nodes s.to s.at_ s.gone vn vg ∧ IntsR w ok vn N ∧ Pks w ok vg G ∧ G.length = N.length ∧ N.zip (G.map Prod.snd) = s.got
theorem PR.step {w w1 : World} {S S' : Nat → Prop} {b : Nat} {name : ByteArray} {most : Int} {s : Rs} (h : PR w S b name most s) (hs : w.heap.size ≤ w1.heap.size) (hm : ∀ k, S k → k < w.heap.size → w1.heap[k]? = w.heap[k]?) (hS : ∀ k, S k → S' k) : PR w1 S' b name most s := by
  obtain ⟨lg, h1, h2⟩ := h
  exact ⟨lg, h1.step hs hm hS, h2⟩
theorem PR.below {w w1 : World} {S : Nat → Prop} {b : Nat} {name : ByteArray} {most : Int} {s : Rs} (h : PR w S b name most s) (hb : Below w.heap.size w w1) : PR w1 S b name most s := h.step hb.size (fun k _ hk => hb.block k hk) (fun _ h => h)
theorem DR.step {w w1 : World} {ok : Nat → Prop} {s : Rs} {v : Value} (h : DR w ok s v) (hs : w.heap.size ≤ w1.heap.size) (hm : ∀ k, ok k → k < w.heap.size → w1.heap[k]? = w.heap[k]?) : DR w1 ok s v := by
  obtain ⟨vn, vg, N, G, e, h1, h2, h3, h4⟩ := h
  exact ⟨vn, vg, N, G, e, h1.step hs hm, h2.step hs hm, h3, h4⟩
theorem DR.below {w w1 : World} {ok : Nat → Prop} {s : Rs} {v : Value} (h : DR w ok s v) (hb : Below w.heap.size w w1) : DR w1 ok s v := h.step hb.size (fun k _ hk => hb.block k hk)
theorem DR.mono {w : World} {ok ok' : Nat → Prop} {s : Rs} {v : Value} (h : DR w ok s v) (ho : ∀ k, ok k → ok' k) : DR w ok' s v := by
  obtain ⟨vn, vg, N, G, e, h1, h2, h3, h4⟩ := h
  exact ⟨vn, vg, N, G, e, h1.mono ho, h2.mono ho, h3, h4⟩
theorem DR.lt {w : World} {ok : Nat → Prop} {s : Rs} {v : Value} (h : DR w ok s v) : DR w (fun k => ok k ∧ k < w.heap.size) s v := by
  obtain ⟨vn, vg, N, G, e, h1, h2, h3, h4⟩ := h
  exact ⟨vn, vg, N, G, e, h1.lt, h2.lt, h3, h4⟩
theorem zip_len {N : List Int} {G : List (Value × List Int)} (h : G.length = N.length) : (N.zip (G.map Prod.snd)).length = N.length := by simp [h]
theorem not_told {s : Rs} {L : List (Value × List Int)} {n e : Int} (h1 : ¬ (e = 0 ∧ s.at_ ≤ n ∧ n - s.at_ = (L.length : Int))) (h2 : ¬ (e = 180 ∧ s.at_ < n)) :
    (e ≠ 0 ∧ e ≠ 180) ∨ (e = 0 ∧ n < s.at_) ∨ (e = 0 ∧ s.at_ ≤ n ∧ n - s.at_ ≠ (L.length : Int)) ∨ (e = 180 ∧ n ≤ s.at_) := by omega
theorem told_pr {w : World} {S okL : Nat → Prop} {b : Nat} {name : ByteArray} {most : Int} {s : Rs} {k : Nat} {vl : Value} {L : List (Value × List Int)} (n e : Int) (h : PR w S b name most s) (hI : RInv s k) (hk : k ≤ 1000) (hS : ∀ k, S k → k < w.heap.size) (hL : Pks w okL vl L) (hd : ∀ k, okL k → ¬ S k)
    (hl : L.length ≤ 20) (hn : n ≤ 9223372036854775807) :
    Calls Try.prog 13 #[.pointer (some ⟨b, 0, none⟩), vl, .int .i64 n, .int .i64 e] w fun r w' => r = .returned (.tuple #[]) ∧ Mem.Ch S w w' ∧ PR w' (fun k => S k ∨ (w.heap.size ≤ k ∧ k < w'.heap.size)) b name most (s.told L n e) := by
  obtain ⟨lg, h1, h2⟩ := h
  have hlen : lg.length ≤ 20 * k := by have := hI.len; rw [← h2, List.length_map] at this; exact this
  have hg0 := hI.g0
  have hg1 := hI.g1
  unfold Rs.told
  split
  · rename_i hc
    obtain ⟨rfl, h3, h4⟩ := hc
    refine (RdTold_ok S okL b _ n vl L w h1 hS hL hd (by show lg.length ≤ _; omega) (by omega) (by show 0 ≤ s.at_; omega) (by show n = s.at_ + _; omega) hn).mono ?_
    rintro _ w' ⟨rfl, hch, G1, hG, hr⟩
    exact ⟨rfl, hch, lg ++ G1, hr, by rw [List.map_append, h2, hG]⟩
  · rename_i hc
    obtain ⟨Al, cl, rfl⟩ := hL.slice
    split
    · rename_i hc2
      refine (RdTold_gone S b _ n e Al _ cl w h1 hc2.1 hc2.2 hg0 hg1 hn).mono ?_
      rintro _ w' ⟨rfl, hch, hr⟩
      exact ⟨rfl, hch, lg, hr.mono (fun k hk => .inl hk), h2⟩
    · rename_i hc2
      refine (RdTold_late S b _ n e Al L.length cl w h1 (not_told hc hc2) (by show 0 ≤ s.at_; omega) hn hI.n1 hI.n7 hI.t0 hI.t1).mono ?_
      rintro _ w' ⟨rfl, hch, hr⟩
      exact ⟨rfl, hch, lg, hr.mono (fun k hk => .inl hk), h2⟩
theorem late_pr {w : World} {S : Nat → Prop} {b : Nat} {name : ByteArray} {most : Int} {s : Rs} {k : Nat} (h : PR w S b name most s) (hI : RInv s k) :
    Calls Try.prog 11 #[.pointer (some ⟨b, 0, none⟩)] w fun r w' => r = .returned (.tuple #[]) ∧ Mem.Ch S w w' ∧ PR w' S b name most s.late := by
  obtain ⟨lg, h1, h2⟩ := h
  refine (RdLate_any S b _ w h1 hI.n1 hI.n7 hI.t0 hI.t1).mono ?_
  rintro _ w' ⟨rfl, hch, hr⟩
  exact ⟨rfl, hch, lg, hr, h2⟩
end Go.Proofs.Ytiomhmdkaglelaa
