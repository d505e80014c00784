/- disk.Fail: power that fails. -/
import Derived.Test.YtpdceondgbgpkaaDoorDsk2
import Derived.Test.YtpdceondgbgpkaaDoorShelf0
namespace Go.Proofs.YtpdceondgbgpkaaDoor.Dsk
open Go.RowKit Go.Maps
set_option linter.unusedSimpArgs false
set_option linter.unusedVariables false
theorem und_slice : Tryd.prog.underlying 41 = some (.slice 57) := Tryd.underlying41
theorem row_cell {w : World} {e n cap : Nat} {A : Option Addr} {xs : List Value} {u : Value} {j : Nat} (h : w.ownsRow 0 e 1 (.slice A n cap) n xs) (hj : xs[j]? = some u) : ∃ g, A = some ⟨g, 0, none⟩ ∧ w.cell? ⟨g, j, none⟩ = some u := by
  obtain ⟨h1, h2⟩ := h
  rcases h2 with ⟨hv, h0⟩ | ⟨g, cap', cur, hv, _, hh, _, _, _, hx⟩
  · subst h0
    rw [Nat.zero_mul] at h1
    have : xs = [] := List.length_eq_zero_iff.1 h1
    subst this
    simp at hj
  · injection hv with hA _ _
    subst hA
    refine ⟨g, rfl, Mem.cell hh ?_⟩
    rw [← hx, List.getElem?_take] at hj
    split at hj
    · rw [← Array.getElem?_toList]; exact hj
    · cases hj
theorem me_put (n s : ByteArray) (a : Int) (w : World) : (method 243 60 (.agg #[.string n, .string s, .int .i64 a]) "auspice/disk.cost").run Tryd.prog w = .ok (98, .agg #[.string n, .string s, .int .i64 a]) w := by kernel_rfl
theorem me_trim (n : ByteArray) (a : Int) (w : World) : (method 243 70 (.agg #[.string n, .int .i64 a]) "auspice/disk.cost").run Tryd.prog w = .ok (99, .agg #[.string n, .int .i64 a]) w := by kernel_rfl
theorem me_move (n t : ByteArray) (w : World) : (method 243 72 (.agg #[.string n, .string t]) "auspice/disk.cost").run Tryd.prog w = .ok (100, .agg #[.string n, .string t]) w := by kernel_rfl
theorem me_drop (n : ByteArray) (w : World) : (method 243 74 (.agg #[.string n]) "auspice/disk.cost").run Tryd.prog w = .ok (101, .agg #[.string n]) w := by kernel_rfl
/-- Between two rounds of the loop: j changes were done, kj is left. -/
def FailR (w wr : World) (bs N : Nat) (d : Dk) (k kj : Int) (j : Nat) : Prop :=
  ∃ F m, fallen d.sure d.row k = fallen F (d.row.drop j) kj ∧ Valid F (d.row.drop j) ∧ Own wr bs m F ∧ m + (d.row.length - j) ≤ N ∧ Mem.Ch (fun i => i = bs) w wr ∧ kj ≤ 9223372036854775807
theorem FailR.start {w : World} {bs N : Nat} {d : Dk} {k : Int} (h : ∃ m, Own w bs m d.sure ∧ m + d.row.length ≤ N) (hi : Valid d.sure d.row) (hk : k ≤ 9223372036854775807) : FailR w w bs N d k k 0 := by
  obtain ⟨m, h1, h2⟩ := h
  exact ⟨d.sure, m, rfl, hi, h1, by omega, Mem.Ch.refl _ _, hk⟩
theorem drop_cons {α : Type} {l : List α} {j : Nat} {c : α} (h : l[j]? = some c) : l.drop j = c :: l.drop (j + 1) := by
  obtain ⟨h1, rfl⟩ := List.getElem?_eq_some_iff.1 h
  exact List.drop_eq_getElem_cons h1
theorem wrap_sub {kj c : Int} (hc : 1 ≤ c) (hk : kj ≤ 9223372036854775807) (h : c ≤ kj) : wrap64 (kj - c) = kj - c := by unfold wrap64; omega
theorem FailR.next {w wr w2 w3 w4 : World} {bs N : Nat} {d : Dk} {k kj : Int} {j m : Nat} {F : FM} {c : Chg} (hF : fallen d.sure d.row k = fallen F (c :: d.row.drop (j + 1)) kj) (hV : Valid F (c :: d.row.drop (j + 1))) (hm : m + (d.row.length - j) ≤ N) (hj : j < d.row.length)
    (hch : Mem.Ch (fun i => i = bs) w wr) (hkj : kj ≤ 9223372036854775807) (hle : (c.cost : Int) ≤ kj) (h2 : Below wr.heap.size wr w2) (h3 : Mem.Ch (fun i => i = bs) w2 w3) (hO : Own w3 bs (m + 1) (c.does F)) (hbs : bs < w.heap.size) (h4 : Below w3.heap.size w3 w4) :
    FailR w w4 bs N d k (kj - c.cost) (j + 1) := by
  have hp := c.cost_pos
  refine ⟨c.does F, m + 1, by rw [hF, fallen_le hle], hV.2, hO.step (h4.block bs hO.lt), by omega, ((hch.trans' (Mem.Ch.of_below' h2)).trans' h3).trans' (Mem.Ch.of_below' h4), by omega⟩
theorem Own.drew {w : World} {b n : Nat} {F : FM} (h : Own w b n F) : Own w.drew b n F := h
/-- The copy of a map of files. -/
theorem Clone_own {w : World} {b n : Nat} {F : FM} (h : Own w b n F) : Calls Tryd.prog 27 #[.map (some b)] w fun r w' => r = .returned (.map (some w.heap.size)) ∧ Own w' w.heap.size n F ∧ Own w' b n F ∧ Below w.heap.size w w' := by
  obtain ⟨D, h, hF⟩ := h
  refine (AnyW.maps_Clone_owns Tryd.laysClone 9 (plainElem Tryd.prog 9) b n D w h).mono ?_
  rintro _ w' ⟨rfl, h1, h2, h3⟩
  exact ⟨rfl, ⟨D, h1, hF⟩, ⟨D, h2, hF⟩, h3⟩
/-- The blocks of S, and the new ones. -/
abbrev Gr (S : Nat → Prop) (w w' : World) : Nat → Prop := fun i => S i ∨ (w.heap.size ≤ i ∧ i < w'.heap.size)
theorem size_set (w : World) (a : Addr) (v : Value) : (w.setCell a v).heap.size = w.heap.size := by simp [World.setCell]
/-- The end of Fail. -/
theorem fail_end {w w5 w6 : World} {S : Nat → Prop} {p N bs bn m : Nat} {d : Dk} {v : Value} {F : FM} {k : Int} (H : At w S p N d bs bn v) (hm : m ≤ N) (hch : Mem.Ch (fun i => i = bs) w w5) (hn : Own w6 w5.heap.size m F) (hs : Own w6 bs m F)
    (hb : Below w5.heap.size w5 w6) (hF : fallen d.sure d.row k = F) (hd : d.down = false) {W : World}
    (hW : W = (((w6.setCell ⟨p, 1, none⟩ (.map (some w5.heap.size))).setCell ⟨p, 2, none⟩ (.slice none 0 0)).setCell ⟨p, 7, none⟩ (.bool true)).setCell ⟨p, 5, none⟩ (.int .i64 0)) :
    Mem.Ch S w W ∧ DiskAt W (Gr S w W) p N (d.fail k) := by
  have hpl := Mem.lt H.blk
  have s5 := hch.size
  have s6 := hb.size
  have hn6 := hn.lt
  have hsW : W.heap.size = w6.heap.size := by rw [hW]; simp only [size_set]
  have ho : ∀ i, i ≠ p → W.heap[i]? = w6.heap[i]? := fun i hi => by
    rw [hW]
    exact (Below.heap_setCell _ ⟨p, 5, none⟩ _ i hi).trans ((Below.heap_setCell _ ⟨p, 7, none⟩ _ i hi).trans ((Below.heap_setCell _ ⟨p, 2, none⟩ _ i hi).trans (Below.heap_setCell _ ⟨p, 1, none⟩ _ i hi)))
  have hb6 : w6.heap[p]? = some (.cells (cellsOf d bs bn v) 43 (0, 0)) := (hb.block p (by omega)).trans ((hch.block p hpl H.pS).trans H.blk)
  have c1 : Mem.Ch S w w6 := (hch.mono (fun i _ hi => by rw [hi]; exact H.ss)).trans' (Mem.Ch.of_below' hb)
  refine ⟨⟨by rw [hW]; exact c1.os, by rw [hW]; exact c1.tape, by rw [hW]; exact c1.output, by omega, fun i hi hS => (ho i (fun e => hS (e ▸ H.sp))).trans (c1.block i hi hS)⟩, bs, w5.heap.size, .slice none 0 0, ?_⟩
  have ef : d.fail k = { d with sure := F, now := F, row := [], down := true, after := 0 } := by unfold Dk.fail; rw [if_neg (by rw [hd]; decide), hF]
  rw [ef]
  exact {
    blk := by
      rw [hW, Mem.set (Mem.set (Mem.set (Mem.set hb6)))]
      rfl
    sure := ⟨m, hs.step (ho bs (Ne.symm H.pS)), by show m + 0 ≤ N; omega⟩
    now := (hn.step (ho _ (by omega))).mono hm
    row := World.ownsRow_nil _ _ _ _
    sp := .inl H.sp
    ss := .inl H.ss
    sn := .inr ⟨by omega, by omega⟩
    sr := fun i hi => by simp [Value.ownBlock] at hi
    ne := by have := Mem.lt (o := .cells (cellsOf d bs bn v) 43 (0, 0)) hb6; obtain ⟨q, h1, _⟩ := H.sure; have := h1.lt; omega }
set_option maxRecDepth 100000 in
set_option maxHeartbeats 20000000 in
theorem Fail_up (S : Nat → Prop) (p N : Nat) (d : Dk) (k : Int) (w : World) (h : DiskAt w S p N d) (hd : d.down = false) (hk : k ≤ 9223372036854775807) (hi : Valid d.sure d.row) (hN : N < 1073741824) :
    Calls Tryd.prog 10 #[.pointer (some ⟨p, 0, none⟩), .int .i64 k] w fun r w' => r = .returned (.tuple #[]) ∧ Mem.Ch S w w' ∧ DiskAt w' (Gr S w w') p N (d.fail k) := by
  obtain ⟨bs, bn, v, h⟩ := h
  have hr := ready_any S p N d bs bn v w h
  rw [hd, if_neg (by decide)] at hr
  have H := Lib.hid h
  have c2 := h.c2
  obtain ⟨A, cap, rfl⟩ : ∃ A cap, v = .slice A d.row.length cap := by
    rcases h.row.2 with ⟨rfl, h0⟩ | ⟨g, cap, cur, rfl, _⟩
    · exact ⟨none, 0, by rw [h0]⟩
    · exact ⟨_, cap, rfl⟩
  have hlen : d.row.length ≤ N := by obtain ⟨m, _, hm⟩ := h.sure; omega
  have HR := Lib.hid (FailR.start h.sure hi hk)
  clear h hi
  go_enter Tryd.func10, Tryd.ntmps10
  go_wp2_with (go_at_call 25; refine hr.mono ?_; rintro _ w1 ⟨rfl, rfl⟩)
  clear hr

  go_loopw [1, 16] (fun kk i wr => ∃ (j : Nat) (kj : Int), j ≤ d.row.length ∧ kk = .int .i64 kj ∧ i = .int .i64 j ∧ FailR w1 wr bs N d k kj j) (fun _ i _ => d.row.length - (intOf i).toNat)
  case atStart => exact ⟨0, k, Nat.zero_le _, rfl, rfl, HR.out⟩
  case round =>
    obtain ⟨j, kj, hj, rfl, rfl, hrel⟩ := hrel
    have HL := Lib.hid hrel
    have hbw : wr.heap[p]? = some (.cells (cellsOf d bs bn (.slice A d.row.length cap)) 43 (0, 0)) := by
      obtain ⟨F, m, _, _, _, _, hch, _⟩ := hrel
      exact (hch.block p (Mem.lt H.out.blk) H.out.pS).trans H.out.blk
    have c0 : wr.cell? ⟨p, 0, none⟩ = some (.map (some bs)) := Mem.cell hbw rfl
    have HB := Lib.hid hbw
    clear hrel hbw
    by_cases hlt : j < d.row.length
    · obtain ⟨c, hc⟩ : ∃ c, d.row[j]? = some c := ⟨_, List.getElem?_eq_getElem hlt⟩
      obtain ⟨F, m, hF, hV, hO, hm, hch, hkj⟩ := HL.out
      rw [drop_cons hc] at hF hV
      have hrow := own_stay H.out.row (w1 := wr) (fun i hi => hch.block i (by obtain ⟨c, hc⟩ := row_cells H.out.row i hi; exact Mem.lt hc) (H.out.rS i hi))
      obtain ⟨g, rfl, cj⟩ := row_cell (j := j) (u := c.val) hrow (by rw [List.getElem?_map, hc]; rfl)
      have hlt' : (j : Int) < (d.row.length : Int) := by omega
      have HX := Lib.hid (And.intro hF (And.intro hV (And.intro hO (And.intro hm (And.intro hch hrow)))))
      have HC := Lib.hid hc
      have hpl : p < wr.heap.size := Mem.lt HB.out
      have hbl : bs < wr.heap.size := hO.lt
      have hbs : bs < w1.heap.size := by obtain ⟨q, h1, _⟩ := H.out.sure; exact h1.lt
      have tok1 : True := trivial
      clear hF hV hO hm hch hrow hc
      cases c with
      | put n s a =>
        unfold Chg.val at cj
        have e1 := me_put n s a
        have hsz : s.size ≤ 1099511627776 := by have := HX.out.2.1.1.2.2; omega
        have hdone : ∀ W, Own W bs m F → Calls Tryd.prog 26 #[.map (some bs), .iface 60 (.agg #[.string n, .string s, .int .i64 a])] W fun r w' => r = .returned (.tuple #[]) ∧ Mem.Ch (fun i => i = bs) W w' ∧ Own w' bs (m + 1) ((Chg.put n s a).does F) :=
          fun W hW => done_any bs m F (.put n s a) W hW HX.out.2.1.1 (by have : (maxLen : Nat) = 9223372036854775807 := rfl; have := HX.out.2.2.2.1; omega)
        by_cases hle : (1 + (s.size : Int)) ≤ kj
        · go_wp2_with (first
            | (go_at_call 98; have _t := tok1; refine (cost_put n s a _ hsz).mono ?_; rintro _ w2 ⟨rfl, hb2⟩; clear tok1; have c02 := (hb2.cell (p := ⟨p, 0, none⟩) hpl).trans c0)
            | (go_at_call 26; refine (hdone _ (HX.out.2.2.1.step (hb2.block bs hbl))).mono ?_; rintro _ w3 ⟨rfl, hc3, hO3⟩)
            | (go_at_call 98; refine (cost_put n s a _ hsz).mono ?_; rintro _ w4 ⟨rfl, hb4⟩))
          go_roundw
          case rel => exact ⟨j + 1, kj - (Chg.put n s a).cost, by omega, by first | rfl | (rw [wrap_sub (by omega) hkj hle]; rfl), by go_num, FailR.next HX.out.1 HX.out.2.1 HX.out.2.2.2.1 hlt HX.out.2.2.2.2.1 hkj hle hb2 hc3 hO3 hbs hb4⟩
          case measure => simp [intOf]; omega
        · have hcl : fallen d.sure d.row k = (if 0 < kj then (Chg.put n (s.extract 0 (kj - 1).toNat) a).does F else F) := by rw [HX.out.1, fallen_put hle]
          by_cases hz : 0 < kj
          · rw [if_pos hz] at hcl
            have e2 := hit_put
            have htn : (kj - 1).toNat = kj.toNat - 1 := by omega
            rw [htn] at hcl
            have hk1 : wrap64 (kj - 1) = kj - 1 := by unfold wrap64; omega
            have hk2 : (0 : Int) ≤ kj - 1 := by omega
            have hk3 : kj - 1 ≤ (s.size : Int) := by omega
            have hse : (s.extract 0 (kj.toNat - 1)).size ≤ s.size := by rw [ByteArray.size_extract]; omega
            have htorn : ∀ W, Own W bs m F → Calls Tryd.prog 26 #[.map (some bs), .iface 60 (.agg #[.string n, .string (s.extract 0 (kj.toNat - 1)), .int .i64 a])] W fun r w' => r = .returned (.tuple #[]) ∧ Mem.Ch (fun i => i = bs) W w' ∧ Own w' bs (m + 1) ((Chg.put n (s.extract 0 (kj.toNat - 1)) a).does F) :=
              fun W hW => done_any bs m F (.put n (s.extract 0 (kj.toNat - 1)) a) W hW ⟨HX.out.2.1.1.1, HX.out.2.1.1.2.1, by have := HX.out.2.1.1.2.2; omega⟩ (by have : (maxLen : Nat) = 9223372036854775807 := rfl; have := HX.out.2.2.2.1; omega)
            go_wp2_with (first
              | (go_at_call 98; refine (cost_put n s a _ hsz).mono ?_; rintro _ w2 ⟨rfl, hb2⟩; have c02 := (hb2.cell (p := ⟨p, 0, none⟩) hpl).trans c0; have hpl2 := Nat.lt_of_lt_of_le hpl hb2.size))
            go_region_with (go_at_call 26; refine (htorn _ (Own.drew ((HX.out.2.2.1.step (hb2.block bs hbl)).alloc _))).mono ?_; rintro _ w3 ⟨rfl, hc3, hO3⟩; have hp3 := (hc3.block p (Nat.lt_of_lt_of_le hpl2 (by simp)) H.out.pS).trans (Mem.drew (Mem.old ((hb2.block p hpl).trans HB.out) _)); have c03 := Mem.cell hp3 (j := 0) rfl; have hpl3 := Mem.lt hp3; have HP3 := Lib.hid hp3; clear hp3)
            all_goals
              go_wp2_with (go_at_call 27; refine (Clone_own (hO3)).mono ?_; rintro _ w6 ⟨rfl, hn6, hs6, hb6⟩; have hp6 := (hb6.block p (hpl3)).trans (HP3.out); have q1 := Mem.cell hp6 (j := 1) rfl; have q2 := Mem.cell hp6 (j := 2) rfl; have q5 := Mem.cell hp6 (j := 5) rfl; have q7 := Mem.cell hp6 (j := 7) rfl; have f1 := Mem.free hp6 (j := 1); have f2 := Mem.free hp6 (j := 2); have f5 := Mem.free hp6 (j := 5); have f7 := Mem.free hp6 (j := 7); clear hp6)
              go_end0
              exact ⟨rfl, fail_end H.out (by have := HX.out.2.2.2.1; omega) (((HX.out.2.2.2.2.1.trans' (Mem.Ch.of_below' hb2)).alloc (.cells #[.string n, .string (s.extract 0 (kj.toNat - 1)), .int .i64 a] 60)).trans' ⟨hc3.os, hc3.tape, hc3.output, hc3.size, hc3.block⟩) hn6 hs6 hb6 hcl hd (by first | rfl | simp)⟩
          · rw [if_neg hz] at hcl
            have e2 := hit_put
            go_wp2_with (first
              | (go_at_call 98; refine (cost_put n s a _ hsz).mono ?_; rintro _ w2 ⟨rfl, hb2⟩; have c02 := (hb2.cell (p := ⟨p, 0, none⟩) hpl).trans c0; have hpl2 := Nat.lt_of_lt_of_le hpl hb2.size)
              | (go_at_call 27; refine (Clone_own ((HX.out.2.2.1.step (hb2.block bs hbl)).alloc _)).mono ?_; rintro _ w6 ⟨rfl, hn6, hs6, hb6⟩; have hp6 := (hb6.block p (Nat.lt_of_lt_of_le hpl (by simp; have := hb2.size; omega))).trans (Mem.old ((hb2.block p hpl).trans HB.out) _); have q1 := Mem.cell hp6 (j := 1) rfl; have q2 := Mem.cell hp6 (j := 2) rfl; have q5 := Mem.cell hp6 (j := 5) rfl; have q7 := Mem.cell hp6 (j := 7) rfl; have f1 := Mem.free hp6 (j := 1); have f2 := Mem.free hp6 (j := 2); have f5 := Mem.free hp6 (j := 5); have f7 := Mem.free hp6 (j := 7); clear hp6))
            go_end0
            exact ⟨rfl, fail_end H.out (by have := HX.out.2.2.2.1; omega) ((HX.out.2.2.2.2.1.trans' (Mem.Ch.of_below' hb2)).alloc _) hn6 hs6 hb6 hcl hd (by first | rfl | simp)⟩
      | trim n a =>
        unfold Chg.val at cj
        have e1 := me_trim n a
        have hdone : ∀ W, Own W bs m F → Calls Tryd.prog 26 #[.map (some bs), .iface 70 (.agg #[.string n, .int .i64 a])] W fun r w' => r = .returned (.tuple #[]) ∧ Mem.Ch (fun i => i = bs) W w' ∧ Own w' bs (m + 1) ((Chg.trim n a).does F) :=
          fun W hW => done_any bs m F (.trim n a) W hW HX.out.2.1.1 (by have : (maxLen : Nat) = 9223372036854775807 := rfl; have := HX.out.2.2.2.1; omega)
        by_cases hle : (1 : Int) ≤ kj
        · go_wp2_with (first
            | (go_at_call 99; have _t := tok1; refine (cost_trim n a _).mono ?_; rintro _ w2 ⟨rfl, hb2⟩; clear tok1; have c02 := (hb2.cell (p := ⟨p, 0, none⟩) hpl).trans c0)
            | (go_at_call 26; refine (hdone _ (HX.out.2.2.1.step (hb2.block bs hbl))).mono ?_; rintro _ w3 ⟨rfl, hc3, hO3⟩)
            | (go_at_call 99; refine (cost_trim n a _).mono ?_; rintro _ w4 ⟨rfl, hb4⟩))
          go_roundw
          case rel => exact ⟨j + 1, kj - (Chg.trim n a).cost, by omega, by first | rfl | (rw [wrap_sub (by omega) hkj hle]; rfl), by go_num, FailR.next HX.out.1 HX.out.2.1 HX.out.2.2.2.1 hlt HX.out.2.2.2.2.1 hkj hle hb2 hc3 hO3 hbs hb4⟩
          case measure => simp [intOf]; omega
        · have hcl : fallen d.sure d.row k = F := by rw [HX.out.1, fallen_other (by intros; simp) hle]
          have m1 := miss_put 70 (by decide)
          go_wp2_with (first
            | (go_at_call 99; refine (cost_trim n a _).mono ?_; rintro _ w2 ⟨rfl, hb2⟩; have c02 := (hb2.cell (p := ⟨p, 0, none⟩) hpl).trans c0; have hpl2 := Nat.lt_of_lt_of_le hpl hb2.size)
            | (go_at_call 27; refine (Clone_own ((HX.out.2.2.1.step (hb2.block bs hbl)).alloc _)).mono ?_; rintro _ w6 ⟨rfl, hn6, hs6, hb6⟩; have hp6 := (hb6.block p (Nat.lt_of_lt_of_le hpl (by simp; have := hb2.size; omega))).trans (Mem.old ((hb2.block p hpl).trans HB.out) _); have q1 := Mem.cell hp6 (j := 1) rfl; have q2 := Mem.cell hp6 (j := 2) rfl; have q5 := Mem.cell hp6 (j := 5) rfl; have q7 := Mem.cell hp6 (j := 7) rfl; have f1 := Mem.free hp6 (j := 1); have f2 := Mem.free hp6 (j := 2); have f5 := Mem.free hp6 (j := 5); have f7 := Mem.free hp6 (j := 7); clear hp6))
          go_end0
          exact ⟨rfl, fail_end H.out (by have := HX.out.2.2.2.1; omega) ((HX.out.2.2.2.2.1.trans' (Mem.Ch.of_below' hb2)).alloc _) hn6 hs6 hb6 hcl hd (by first | rfl | simp)⟩
      | move n t =>
        unfold Chg.val at cj
        have e1 := me_move n t
        have hdone : ∀ W, Own W bs m F → Calls Tryd.prog 26 #[.map (some bs), .iface 72 (.agg #[.string n, .string t])] W fun r w' => r = .returned (.tuple #[]) ∧ Mem.Ch (fun i => i = bs) W w' ∧ Own w' bs (m + 1) ((Chg.move n t).does F) :=
          fun W hW => done_any bs m F (.move n t) W hW HX.out.2.1.1 (by have : (maxLen : Nat) = 9223372036854775807 := rfl; have := HX.out.2.2.2.1; omega)
        by_cases hle : (1 : Int) ≤ kj
        · go_wp2_with (first
            | (go_at_call 100; have _t := tok1; refine (cost_move n t _).mono ?_; rintro _ w2 ⟨rfl, hb2⟩; clear tok1; have c02 := (hb2.cell (p := ⟨p, 0, none⟩) hpl).trans c0)
            | (go_at_call 26; refine (hdone _ (HX.out.2.2.1.step (hb2.block bs hbl))).mono ?_; rintro _ w3 ⟨rfl, hc3, hO3⟩)
            | (go_at_call 100; refine (cost_move n t _).mono ?_; rintro _ w4 ⟨rfl, hb4⟩))
          go_roundw
          case rel => exact ⟨j + 1, kj - (Chg.move n t).cost, by omega, by first | rfl | (rw [wrap_sub (by omega) hkj hle]; rfl), by go_num, FailR.next HX.out.1 HX.out.2.1 HX.out.2.2.2.1 hlt HX.out.2.2.2.2.1 hkj hle hb2 hc3 hO3 hbs hb4⟩
          case measure => simp [intOf]; omega
        · have hcl : fallen d.sure d.row k = F := by rw [HX.out.1, fallen_other (by intros; simp) hle]
          have m1 := miss_put 72 (by decide)
          go_wp2_with (first
            | (go_at_call 100; refine (cost_move n t _).mono ?_; rintro _ w2 ⟨rfl, hb2⟩; have c02 := (hb2.cell (p := ⟨p, 0, none⟩) hpl).trans c0; have hpl2 := Nat.lt_of_lt_of_le hpl hb2.size)
            | (go_at_call 27; refine (Clone_own ((HX.out.2.2.1.step (hb2.block bs hbl)).alloc _)).mono ?_; rintro _ w6 ⟨rfl, hn6, hs6, hb6⟩; have hp6 := (hb6.block p (Nat.lt_of_lt_of_le hpl (by simp; have := hb2.size; omega))).trans (Mem.old ((hb2.block p hpl).trans HB.out) _); have q1 := Mem.cell hp6 (j := 1) rfl; have q2 := Mem.cell hp6 (j := 2) rfl; have q5 := Mem.cell hp6 (j := 5) rfl; have q7 := Mem.cell hp6 (j := 7) rfl; have f1 := Mem.free hp6 (j := 1); have f2 := Mem.free hp6 (j := 2); have f5 := Mem.free hp6 (j := 5); have f7 := Mem.free hp6 (j := 7); clear hp6))
          go_end0
          exact ⟨rfl, fail_end H.out (by have := HX.out.2.2.2.1; omega) ((HX.out.2.2.2.2.1.trans' (Mem.Ch.of_below' hb2)).alloc _) hn6 hs6 hb6 hcl hd (by first | rfl | simp)⟩
      | drop n =>
        unfold Chg.val at cj
        have e1 := me_drop n
        have hdone : ∀ W, Own W bs m F → Calls Tryd.prog 26 #[.map (some bs), .iface 74 (.agg #[.string n])] W fun r w' => r = .returned (.tuple #[]) ∧ Mem.Ch (fun i => i = bs) W w' ∧ Own w' bs (m + 1) ((Chg.drop n).does F) :=
          fun W hW => done_any bs m F (.drop n) W hW HX.out.2.1.1 (by have : (maxLen : Nat) = 9223372036854775807 := rfl; have := HX.out.2.2.2.1; omega)
        by_cases hle : (1 : Int) ≤ kj
        · go_wp2_with (first
            | (go_at_call 101; have _t := tok1; refine (cost_drop n _).mono ?_; rintro _ w2 ⟨rfl, hb2⟩; clear tok1; have c02 := (hb2.cell (p := ⟨p, 0, none⟩) hpl).trans c0)
            | (go_at_call 26; refine (hdone _ (HX.out.2.2.1.step (hb2.block bs hbl))).mono ?_; rintro _ w3 ⟨rfl, hc3, hO3⟩)
            | (go_at_call 101; refine (cost_drop n _).mono ?_; rintro _ w4 ⟨rfl, hb4⟩))
          go_roundw
          case rel => exact ⟨j + 1, kj - (Chg.drop n).cost, by omega, by first | rfl | (rw [wrap_sub (by omega) hkj hle]; rfl), by go_num, FailR.next HX.out.1 HX.out.2.1 HX.out.2.2.2.1 hlt HX.out.2.2.2.2.1 hkj hle hb2 hc3 hO3 hbs hb4⟩
          case measure => simp [intOf]; omega
        · have hcl : fallen d.sure d.row k = F := by rw [HX.out.1, fallen_other (by intros; simp) hle]
          have m1 := miss_put 74 (by decide)
          go_wp2_with (first
            | (go_at_call 101; refine (cost_drop n _).mono ?_; rintro _ w2 ⟨rfl, hb2⟩; have c02 := (hb2.cell (p := ⟨p, 0, none⟩) hpl).trans c0; have hpl2 := Nat.lt_of_lt_of_le hpl hb2.size)
            | (go_at_call 27; refine (Clone_own ((HX.out.2.2.1.step (hb2.block bs hbl)).alloc _)).mono ?_; rintro _ w6 ⟨rfl, hn6, hs6, hb6⟩; have hp6 := (hb6.block p (Nat.lt_of_lt_of_le hpl (by simp; have := hb2.size; omega))).trans (Mem.old ((hb2.block p hpl).trans HB.out) _); have q1 := Mem.cell hp6 (j := 1) rfl; have q2 := Mem.cell hp6 (j := 2) rfl; have q5 := Mem.cell hp6 (j := 5) rfl; have q7 := Mem.cell hp6 (j := 7) rfl; have f1 := Mem.free hp6 (j := 1); have f2 := Mem.free hp6 (j := 2); have f5 := Mem.free hp6 (j := 5); have f7 := Mem.free hp6 (j := 7); clear hp6))
          go_end0
          exact ⟨rfl, fail_end H.out (by have := HX.out.2.2.2.1; omega) ((HX.out.2.2.2.2.1.trans' (Mem.Ch.of_below' hb2)).alloc _) hn6 hs6 hb6 hcl hd (by first | rfl | simp)⟩
    · obtain ⟨F, m, hF, hV, hO, hm, hch, hkj⟩ := HL.out
      have hcl : fallen d.sure d.row k = F := by rw [hF, List.drop_eq_nil_of_le (by omega)]; rfl
      have HO := Lib.hid (And.intro hO hch)
      have hpl : p < wr.heap.size := Mem.lt HB.out
      have hge : ((d.row.length : Int) ≤ (j : Int)) := by omega
      clear hF hV hO hch
      go_wp2_with (go_at_call 27; refine (Clone_own (HO.out.1)).mono ?_; rintro _ w6 ⟨rfl, hn6, hs6, hb6⟩; have hp6 := (hb6.block p (hpl)).trans (HB.out); have q1 := Mem.cell hp6 (j := 1) rfl; have q2 := Mem.cell hp6 (j := 2) rfl; have q5 := Mem.cell hp6 (j := 5) rfl; have q7 := Mem.cell hp6 (j := 7) rfl; have f1 := Mem.free hp6 (j := 1); have f2 := Mem.free hp6 (j := 2); have f5 := Mem.free hp6 (j := 5); have f7 := Mem.free hp6 (j := 7); clear hp6)
      go_end0
      exact ⟨rfl, fail_end H.out (by omega) HO.out.2 hn6 hs6 hb6 hcl hd (by first | rfl | simp)⟩
end Go.Proofs.YtpdceondgbgpkaaDoor.Dsk
