/- Teller.Told. -/
import Derived.Test.YtbiicflcjipeeaaOut
namespace Go.Proofs.Ytbiicflcjipeeaa
open Go.RowKit
set_option linter.unusedSimpArgs false
set_option linter.unusedVariables false
open Sp (fold intB textS bs)
attribute [local go_sem] Mem.run_store_float Mem.After.cell
theorem TellerAt.mono {w : World} {S S' : Nat → Prop} {b : Nat} {t : Tl} (h : TellerAt w S b t) (hS : ∀ k, S k → S' k) : TellerAt w S' b t := h.step (Nat.le_refl _) (fun _ _ _ => rfl) hS
/-- What Told leaves. -/
def ToldR (S : Nat → Prop) (b : Nat) (t : Tl) (w : World) (r : Ending) (w' : World) : Prop := r = .returned (.tuple #[]) ∧ Mem.Ch S w w' ∧ TellerAt w' (fun k => S k ∨ (w.heap.size ≤ k ∧ k < w'.heap.size)) b t
theorem ToldR.same {S : Nat → Prop} {b : Nat} {t : Tl} {w w' : World} (h : TellerAt w S b t) (hb : Below w.heap.size w w') : ToldR S b t w (.returned (.tuple #[])) w' := ⟨rfl, Mem.Ch.of_below' hb, (h.below hb).mono (fun _ h => .inl h)⟩
theorem ToldR.hdr {w w1 : World} {S : Nat → Prop} {b q : Nat} {vw vr : Value} {t t1 : Tl}
    (sb : S b) (sq : S q) (hne : q ≠ b) (hw : Qu.QRow w 0 31 5 vw t.wait.length (evs t.wait)) (hr : Qu.QRow w 0 31 5 vr t.refused.length (evs t.refused))
    (dw : ∀ k, vw.ownBlock = some k → S k ∧ k ≠ b ∧ k ≠ q ∧ vr.ownBlock ≠ some k) (dr : ∀ k, vr.ownBlock = some k → S k ∧ k ≠ b ∧ k ≠ q)
    (hf : ∀ p, p ∈ t.wait ∨ p ∈ t.refused → EvR w (fun k => S k ∧ k ≠ b ∧ k ≠ q ∧ some k ≠ vw.ownBlock ∧ some k ≠ vr.ownBlock) p.1 p.2)
    (hch : Mem.Ch (fun k => k = q ∨ k = b) w w1)
    (hb1 : w1.heap[b]? = some (.cells #[.pointer (some ⟨q, 0, none⟩), .int .i64 t1.id, .int .i64 t1.seq, vw, vr] 97 (0, 0)))
    (hq1 : w1.heap[q]? = some (.cells #[.int .i64 t1.nodes, .int .i64 t1.to] 95 (0, 0))) (ew : t1.wait = t.wait) (er : t1.refused = t.refused) : ToldR S b t1 w (.returned (.tuple #[])) w1 :=
  ⟨rfl, hch.mono (fun k _ h => by rcases h with h | h <;> rw [h] <;> assumption), (TellerAt.hdr sb sq hne hw hr dw dr hf hch hb1 hq1 ew er).mono (fun _ h => .inl h)⟩
set_option maxRecDepth 100000 in
set_option maxHeartbeats 4000000 in
theorem Told_none (S : Nat → Prop) (b : Nat) (t : Tl) (err n lead : Int) (w : World) (h : TellerAt w S b t) (he : t.wait = []) :
    Calls Try.prog 13 #[.pointer (some ⟨b, 0, none⟩), .agg #[.int .i64 err, .int .i64 n], .int .i64 lead] w (ToldR S b t w) := by
  have HT := Lib.hid h
  obtain ⟨q, vw, vr, hb, hq, sb, sq, hne, hw, hr, dw, dr, hff⟩ := h
  obtain ⟨Aw, cw, rfl, hcw⟩ := Qu.q_slice hw
  have b0 := Mem.cell hb (j := 0) rfl
  have b1 := Mem.cell hb (j := 1) rfl
  have b2 := Mem.cell hb (j := 2) rfl
  have b3 := Mem.cell hb (j := 3) rfl
  have f1 := Mem.free (j := 1) hb
  have f2 := Mem.free (j := 2) hb
  have f3 := Mem.free (j := 3) hb
  have hlb := Mem.lt hb
  have HH := Lib.hid (And.intro hb (And.intro hq (And.intro hw (And.intro hr (And.intro dw (And.intro dr hff))))))
  have hn : (t.wait.length : Int) = 0 := by rw [he]; rfl
  rw [he] at b3
  clear hb hq hw hr dw dr hff
  go_enter Try.func13, Try.ntmps13
  go_wp2_with fail
  go_end0
  exact ToldR.same HT.out ((Below.refl _ _).alloc (Nat.le_refl _) _)
set_option maxRecDepth 100000 in
set_option maxHeartbeats 4000000 in
theorem Told_open (S : Nat → Prop) (b : Nat) (t : Tl) (err n lead : Int) (w : World) (h : TellerAt w S b t) (he : t.wait ≠ []) (h0 : err = 0) (hi : t.id = 0) (hn1 : 1 ≤ n) (hn2 : n ≤ 549755813888) :
    Calls Try.prog 13 #[.pointer (some ⟨b, 0, none⟩), .agg #[.int .i64 err, .int .i64 n], .int .i64 lead] w (ToldR S b { t with id := n, seq := 0 } w) := by
  have HT := Lib.hid h
  obtain ⟨q, vw, vr, hb, hq, sb, sq, hne, hw, hr, dw, dr, hff⟩ := h
  obtain ⟨Aw, cw, rfl, hcw⟩ := Qu.q_slice hw
  have b0 := Mem.cell hb (j := 0) rfl
  have b1 := Mem.cell hb (j := 1) rfl
  have b2 := Mem.cell hb (j := 2) rfl
  have b3 := Mem.cell hb (j := 3) rfl
  have f1 := Mem.free (j := 1) hb
  have f2 := Mem.free (j := 2) hb
  have f3 := Mem.free (j := 3) hb
  have hlb := Mem.lt hb
  have HH := Lib.hid (And.intro hb (And.intro hq (And.intro hw (And.intro hr (And.intro dw (And.intro dr hff))))))
  have hn : (0 : Int) < (t.wait.length : Int) := by have := List.length_pos_iff.2 he; omega
  subst h0
  rw [hi] at b1
  clear hb hq hw hr dw dr hff
  go_enter Try.func13, Try.ntmps13
  go_wp2_with fail
  go_end0
  obtain ⟨hb, hq, hw, hr, dw, dr, hff⟩ := HH.out
  refine ToldR.hdr (t := t) sb sq hne hw hr dw dr hff ?_ ?_ ?_ rfl rfl
  · with_reducible repeat (first | exact Mem.Ch.refl _ _ | refine Mem.Ch.set ?_ (.inr (.inr rfl)) | refine Mem.Ch.alloc ?_ _ | refine Mem.Ch.drew ?_ | refine Mem.Ch.drewN ?_ _)
  · exact Mem.old (Mem.set (Mem.set hb)) _
  · exact Mem.old (Mem.set_ne (Mem.set_ne hq (Ne.symm hne)) (Ne.symm hne)) _
set_option maxRecDepth 100000 in
set_option maxHeartbeats 4000000 in
theorem Told_open_no1 (S : Nat → Prop) (b : Nat) (t : Tl) (err n lead : Int) (w : World) (h : TellerAt w S b t) (he : t.wait ≠ []) (h0 : err = 0) (hi : t.id = 0) (hn1 : n < 1) :
    Calls Try.prog 13 #[.pointer (some ⟨b, 0, none⟩), .agg #[.int .i64 err, .int .i64 n], .int .i64 lead] w (ToldR S b t w) := by
  have HT := Lib.hid h
  obtain ⟨q, vw, vr, hb, hq, sb, sq, hne, hw, hr, dw, dr, hff⟩ := h
  obtain ⟨Aw, cw, rfl, hcw⟩ := Qu.q_slice hw
  have b0 := Mem.cell hb (j := 0) rfl
  have b1 := Mem.cell hb (j := 1) rfl
  have b2 := Mem.cell hb (j := 2) rfl
  have b3 := Mem.cell hb (j := 3) rfl
  have f1 := Mem.free (j := 1) hb
  have f2 := Mem.free (j := 2) hb
  have f3 := Mem.free (j := 3) hb
  have hlb := Mem.lt hb
  have HH := Lib.hid (And.intro hb (And.intro hq (And.intro hw (And.intro hr (And.intro dw (And.intro dr hff))))))
  have hn : (0 : Int) < (t.wait.length : Int) := by have := List.length_pos_iff.2 he; omega
  subst h0
  rw [hi] at b1
  clear hb hq hw hr dw dr hff
  go_enter Try.func13, Try.ntmps13
  go_wp2_with fail
  go_end0
  exact ToldR.same HT.out ((Below.refl _ _).alloc (Nat.le_refl _) _)
set_option maxRecDepth 100000 in
set_option maxHeartbeats 4000000 in
theorem Told_open_no2 (S : Nat → Prop) (b : Nat) (t : Tl) (err n lead : Int) (w : World) (h : TellerAt w S b t) (he : t.wait ≠ []) (h0 : err = 0) (hi : t.id = 0) (hn1 : 1 ≤ n) (hn2 : 549755813888 < n) :
    Calls Try.prog 13 #[.pointer (some ⟨b, 0, none⟩), .agg #[.int .i64 err, .int .i64 n], .int .i64 lead] w (ToldR S b t w) := by
  have HT := Lib.hid h
  obtain ⟨q, vw, vr, hb, hq, sb, sq, hne, hw, hr, dw, dr, hff⟩ := h
  obtain ⟨Aw, cw, rfl, hcw⟩ := Qu.q_slice hw
  have b0 := Mem.cell hb (j := 0) rfl
  have b1 := Mem.cell hb (j := 1) rfl
  have b2 := Mem.cell hb (j := 2) rfl
  have b3 := Mem.cell hb (j := 3) rfl
  have f1 := Mem.free (j := 1) hb
  have f2 := Mem.free (j := 2) hb
  have f3 := Mem.free (j := 3) hb
  have hlb := Mem.lt hb
  have HH := Lib.hid (And.intro hb (And.intro hq (And.intro hw (And.intro hr (And.intro dw (And.intro dr hff))))))
  have hn : (0 : Int) < (t.wait.length : Int) := by have := List.length_pos_iff.2 he; omega
  subst h0
  rw [hi] at b1
  clear hb hq hw hr dw dr hff
  go_enter Try.func13, Try.ntmps13
  go_wp2_with fail
  go_end0
  exact ToldR.same HT.out ((Below.refl _ _).alloc (Nat.le_refl _) _)
set_option maxRecDepth 100000 in
set_option maxHeartbeats 4000000 in
theorem Told_lost (S : Nat → Prop) (b : Nat) (t : Tl) (err n lead : Int) (w : World) (h : TellerAt w S b t) (he : t.wait ≠ []) (h0 : err = 4) (hi : t.id ≠ 0) :
    Calls Try.prog 13 #[.pointer (some ⟨b, 0, none⟩), .agg #[.int .i64 err, .int .i64 n], .int .i64 lead] w (ToldR S b { t with id := 0, seq := 0 } w) := by
  have HT := Lib.hid h
  obtain ⟨q, vw, vr, hb, hq, sb, sq, hne, hw, hr, dw, dr, hff⟩ := h
  obtain ⟨Aw, cw, rfl, hcw⟩ := Qu.q_slice hw
  have b0 := Mem.cell hb (j := 0) rfl
  have b1 := Mem.cell hb (j := 1) rfl
  have b2 := Mem.cell hb (j := 2) rfl
  have b3 := Mem.cell hb (j := 3) rfl
  have f1 := Mem.free (j := 1) hb
  have f2 := Mem.free (j := 2) hb
  have f3 := Mem.free (j := 3) hb
  have hlb := Mem.lt hb
  have HH := Lib.hid (And.intro hb (And.intro hq (And.intro hw (And.intro hr (And.intro dw (And.intro dr hff))))))
  have hn : (0 : Int) < (t.wait.length : Int) := by have := List.length_pos_iff.2 he; omega
  subst h0
  have hi1 : (t.id == 0) = false := by simpa using hi
  clear hb hq hw hr dw dr hff
  go_enter Try.func13, Try.ntmps13
  go_wp2_with fail
  go_end0
  obtain ⟨hb, hq, hw, hr, dw, dr, hff⟩ := HH.out
  refine ToldR.hdr (t := t) sb sq hne hw hr dw dr hff ?_ ?_ ?_ rfl rfl
  · with_reducible repeat (first | exact Mem.Ch.refl _ _ | refine Mem.Ch.set ?_ (.inr (.inr rfl)) | refine Mem.Ch.alloc ?_ _ | refine Mem.Ch.drew ?_ | refine Mem.Ch.drewN ?_ _)
  · exact Mem.old (Mem.set (Mem.set hb)) _
  · exact Mem.old (Mem.set_ne (Mem.set_ne hq (Ne.symm hne)) (Ne.symm hne)) _
set_option maxRecDepth 100000 in
set_option maxHeartbeats 4000000 in
theorem Told_not (S : Nat → Prop) (b : Nat) (t : Tl) (err n lead : Int) (w : World) (h : TellerAt w S b t) (he : t.wait ≠ []) (h0 : err = 0) (hi : t.id ≠ 0) (hs : ¬ wrap64 (n - 1) = t.seq) :
    Calls Try.prog 13 #[.pointer (some ⟨b, 0, none⟩), .agg #[.int .i64 err, .int .i64 n], .int .i64 lead] w (ToldR S b t w) := by
  have HT := Lib.hid h
  obtain ⟨q, vw, vr, hb, hq, sb, sq, hne, hw, hr, dw, dr, hff⟩ := h
  obtain ⟨Aw, cw, rfl, hcw⟩ := Qu.q_slice hw
  have b0 := Mem.cell hb (j := 0) rfl
  have b1 := Mem.cell hb (j := 1) rfl
  have b2 := Mem.cell hb (j := 2) rfl
  have b3 := Mem.cell hb (j := 3) rfl
  have f1 := Mem.free (j := 1) hb
  have f2 := Mem.free (j := 2) hb
  have f3 := Mem.free (j := 3) hb
  have hlb := Mem.lt hb
  have HH := Lib.hid (And.intro hb (And.intro hq (And.intro hw (And.intro hr (And.intro dw (And.intro dr hff))))))
  have hn : (0 : Int) < (t.wait.length : Int) := by have := List.length_pos_iff.2 he; omega
  subst h0
  have hi1 : (t.id == 0) = false := by simpa using hi
  have hs1 : (wrap64 (n - 1) == t.seq) = false := by simpa using hs
  clear hb hq hw hr dw dr hff
  go_enter Try.func13, Try.ntmps13
  go_wp2_with fail
  repeat (go_quiet (fail); try go_wp2_with fail)
  go_end0
  exact ToldR.same HT.out (by first | exact (Below.refl _ _).alloc (Nat.le_refl _) _ | exact Mem.bdrewN ((Below.refl _ _).alloc (Nat.le_refl _) _) _)
end Go.Proofs.Ytbiicflcjipeeaa
