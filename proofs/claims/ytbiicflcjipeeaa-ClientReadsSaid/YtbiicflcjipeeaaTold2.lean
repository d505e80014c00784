/- Teller.Told, the rest. -/
import Derived.Test.YtbiicflcjipeeaaTold
namespace Go.Proofs.Ytbiicflcjipeeaa
open Go.RowKit
set_option linter.unusedSimpArgs false
set_option linter.unusedVariables false
open Sp (fold intB textS bs)
attribute [local go_sem] Mem.run_store_float Mem.After.cell
set_option maxRecDepth 100000 in
set_option maxHeartbeats 4000000 in
theorem Told_lead0 (S : Nat → Prop) (b : Nat) (t : Tl) (err n lead : Int) (w : World) (h : TellerAt w S b t) (he : t.wait ≠ []) (hf : t.fit) (h0 : err ≠ 0) (hi : t.id = 0) :
    Calls Try.prog 13 #[.pointer (some ⟨b, 0, none⟩), .agg #[.int .i64 err, .int .i64 n], .int .i64 lead] w (ToldR S b { t with to := leadTo t.to t.nodes lead } w) := by
  have HT := Lib.hid h
  obtain ⟨q, vw, vr, hb, hq, sb, sq, hne, hw, hr, dw, dr, hff⟩ := h
  obtain ⟨Aw, cw, rfl, hcw⟩ := Qu.q_slice hw
  have b0 := Mem.cell hb (j := 0) rfl
  have b1 := Mem.cell hb (j := 1) rfl
  have b2 := Mem.cell hb (j := 2) rfl
  have b3 := Mem.cell hb (j := 3) rfl
  have f1 := Mem.free (j := 1) hb
  have f2 := Mem.free (j := 2) hb
  have f3 := Mem.free (j := 3) hb
  have hlb := Mem.lt hb
  have HH := Lib.hid (And.intro hb (And.intro hq (And.intro hw (And.intro hr (And.intro dw (And.intro dr hff))))))
  have hn : (0 : Int) < (t.wait.length : Int) := by have := List.length_pos_iff.2 he; omega
  obtain ⟨hf1, hf2, hf3, hf4⟩ := hf
  have h1 : (err == 0) = false := by simpa using h0
  rw [hi] at b1
  clear hb hq hw hr dw dr hff
  go_enter Try.func13, Try.ntmps13
  by_cases h4 : err = 4
  all_goals by_cases h130 : err = 130
  all_goals try (have h4b : (err == 4) = false := by simpa using h4)
  all_goals try (have h130b : (err == 130) = false := by simpa using h130)
  all_goals try subst h4
  all_goals try subst h130
  all_goals try (exact absurd h130 (by decide))
  all_goals
    go_wp2_with (go_at_call 43; refine (lead_any q t.nodes t.to lead _ (Mem.old HH.out.2.1 _) hf1 hf2 hf3 hf4).mono ?_; rintro _ w1 ⟨rfl, hc1, hz1, hq1⟩)
    refine bodyPost_ret (results_none rfl _ _ _) rfl ?_
    obtain ⟨hb, hq, hw, hr, dw, dr, hff⟩ := HH.out
    exact ToldR.hdr (t := t) sb sq hne hw hr dw dr hff (((Mem.Ch.refl _ _).alloc _).trans' (hc1.mono (fun k _ h => .inl h))) (hc1.at_ (Mem.old hb _) (fun h => hne h.symm)) hq1 rfl rfl
set_option maxRecDepth 100000 in
set_option maxHeartbeats 4000000 in
theorem Told_lead (S : Nat → Prop) (b : Nat) (t : Tl) (err n lead : Int) (w : World) (h : TellerAt w S b t) (he : t.wait ≠ []) (hf : t.fit) (h0 : err ≠ 0) (h4 : err ≠ 4) (h130 : err ≠ 130) :
    Calls Try.prog 13 #[.pointer (some ⟨b, 0, none⟩), .agg #[.int .i64 err, .int .i64 n], .int .i64 lead] w (ToldR S b { t with to := leadTo t.to t.nodes lead } w) := by
  have HT := Lib.hid h
  obtain ⟨q, vw, vr, hb, hq, sb, sq, hne, hw, hr, dw, dr, hff⟩ := h
  obtain ⟨Aw, cw, rfl, hcw⟩ := Qu.q_slice hw
  have b0 := Mem.cell hb (j := 0) rfl
  have b1 := Mem.cell hb (j := 1) rfl
  have b2 := Mem.cell hb (j := 2) rfl
  have b3 := Mem.cell hb (j := 3) rfl
  have f1 := Mem.free (j := 1) hb
  have f2 := Mem.free (j := 2) hb
  have f3 := Mem.free (j := 3) hb
  have hlb := Mem.lt hb
  have HH := Lib.hid (And.intro hb (And.intro hq (And.intro hw (And.intro hr (And.intro dw (And.intro dr hff))))))
  have hn : (0 : Int) < (t.wait.length : Int) := by have := List.length_pos_iff.2 he; omega
  obtain ⟨hf1, hf2, hf3, hf4⟩ := hf
  have h1 : (err == 0) = false := by simpa using h0
  have h2 : (err == 4) = false := by simpa using h4
  have h3 : (err == 130) = false := by simpa using h130
  clear hb hq hw hr dw dr hff
  go_enter Try.func13, Try.ntmps13
  go_wp2_with (go_at_call 43; refine (lead_any q t.nodes t.to lead _ (Mem.old HH.out.2.1 _) hf1 hf2 hf3 hf4).mono ?_; rintro _ w1 ⟨rfl, hc1, hz1, hq1⟩)
  refine bodyPost_ret (results_none rfl _ _ _) rfl ?_
  obtain ⟨hb, hq, hw, hr, dw, dr, hff⟩ := HH.out
  exact ToldR.hdr (t := t) sb sq hne hw hr dw dr hff (((Mem.Ch.refl _ _).alloc _).trans' (hc1.mono (fun k _ h => .inl h))) (hc1.at_ (Mem.old hb _) (fun h => hne h.symm)) hq1 rfl rfl
theorem evs_tail (l : List (Evt × Value)) : (evs l).drop 5 = evs l.tail := by
  cases l with
  | nil => rfl
  | cons p r => simp [evs, evC]
/-- The head was written and the first of what waits left. -/
theorem ToldR.tl {w w1 : World} {S : Nat → Prop} {b q g o cw c : Nat} {A : Option Addr} {vr : Value} {t t1 : Tl}
    (sb : S b) (sq : S q) (hne : q ≠ b) (hw : Qu.QRow w 0 31 5 (.slice (some ⟨g, o, none⟩) t.wait.length cw) t.wait.length (evs t.wait)) (hr : Qu.QRow w 0 31 5 vr t.refused.length (evs t.refused))
    (dw : ∀ k, (Value.slice (some ⟨g, o, none⟩) t.wait.length cw).ownBlock = some k → S k ∧ k ≠ b ∧ k ≠ q ∧ vr.ownBlock ≠ some k) (dr : ∀ k, vr.ownBlock = some k → S k ∧ k ≠ b ∧ k ≠ q)
    (hf : ∀ p, p ∈ t.wait ∨ p ∈ t.refused → EvR w (fun k => S k ∧ k ≠ b ∧ k ≠ q ∧ some k ≠ (Value.slice (some ⟨g, o, none⟩) t.wait.length cw).ownBlock ∧ some k ≠ vr.ownBlock) p.1 p.2)
    (hch : Mem.Ch (fun k => k = q ∨ k = b) w w1)
    (hb1 : w1.heap[b]? = some (.cells #[.pointer (some ⟨q, 0, none⟩), .int .i64 t1.id, .int .i64 t1.seq, .slice A (t.wait.length - 1) c, vr] 97 (0, 0)))
    (hq1 : w1.heap[q]? = some (.cells #[.int .i64 t1.nodes, .int .i64 t1.to] 95 (0, 0))) (ew : t1.wait = t.wait.tail) (er : t1.refused = t.refused)
    (hpos : 1 ≤ t.wait.length) (hA : A = if cw = 1 then some ⟨g, o, none⟩ else some ⟨g, o + 5, none⟩) (hc : c = cw - 1) : ToldR S b t1 w (.returned (.tuple #[])) w1 := by
  subst hc
  have hd := Qu.q_drop hw (k := 1) hpos
  have hown : (Value.slice A (t.wait.length - 1) (cw - 1)).ownBlock = (Value.slice (some ⟨g, o, none⟩) t.wait.length cw).ownBlock := by
    rw [hA]; split <;> rfl
  have hAe : (if cw = 1 then (some ⟨g, o, none⟩ : Option Addr) else (some (⟨g, o, none⟩ : Addr)).map (·.add (1 * 5))) = A := by
    rw [hA]; split
    · rfl
    · rw [Option.map_some, Qu.add_at]
  rw [hAe, Nat.one_mul, evs_tail] at hd
  have bk : ∀ k, k < w.heap.size → k ≠ b → k ≠ q → w1.heap[k]? = w.heap[k]? := fun k hk h1 h2 => hch.block k hk (fun h => by omega)
  have lw := fun k hk => Qu.q_lt hw k hk
  refine ⟨rfl, hch.mono (fun k _ h => by rcases h with h | h <;> rw [h] <;> assumption), q, _, vr, hb1, hq1, .inl sb, .inl sq, hne, ?_, ?_, ?_, ?_, ?_⟩
  · rw [ew, List.length_tail]
    refine Qu.q_move hd (fun k hk => ?_)
    rw [hown] at hk
    exact bk k (lw k hk) (dw k hk).2.1 (dw k hk).2.2.1
  · rw [er]; exact Qu.q_move hr (fun k hk => bk k (Qu.q_lt hr k hk) (dr k hk).2.1 (dr k hk).2.2)
  · intro k hk
    rw [hown] at hk
    exact ⟨.inl (dw k hk).1, (dw k hk).2⟩
  · exact fun k hk => ⟨.inl (dr k hk).1, (dr k hk).2⟩
  · intro p hp
    rw [ew, er] at hp
    refine ((hf p (hp.imp_left List.mem_of_mem_tail)).step hch.size (fun k hk hl => bk k hl hk.2.1 hk.2.2.1)).mono (fun k hk => ⟨.inl hk.1, hk.2.1, hk.2.2.1, ?_, hk.2.2.2.2⟩)
    rw [hown]; exact hk.2.2.2.1
set_option maxRecDepth 100000 in
set_option maxHeartbeats 4000000 in
theorem Told_told (S : Nat → Prop) (b : Nat) (t : Tl) (err n lead : Int) (w : World) (h : TellerAt w S b t) (he : t.wait ≠ []) (h0 : err = 0) (hi : t.id ≠ 0) (hq0 : 0 ≤ t.seq) (hq1 : t.seq < 9223372036854775807) (hs : wrap64 (n - 1) = t.seq) :
    Calls Try.prog 13 #[.pointer (some ⟨b, 0, none⟩), .agg #[.int .i64 err, .int .i64 n], .int .i64 lead] w (ToldR S b { t with seq := t.seq + 1, wait := t.wait.tail } w) := by
  have HT := Lib.hid h
  obtain ⟨q, vw, vr, hb, hq, sb, sq, hne, hw, hr, dw, dr, hff⟩ := h
  obtain ⟨Aw, cw, rfl, hcw⟩ := Qu.q_slice hw
  have b0 := Mem.cell hb (j := 0) rfl
  have b1 := Mem.cell hb (j := 1) rfl
  have b2 := Mem.cell hb (j := 2) rfl
  have b3 := Mem.cell hb (j := 3) rfl
  have f1 := Mem.free (j := 1) hb
  have f2 := Mem.free (j := 2) hb
  have f3 := Mem.free (j := 3) hb
  have hlb := Mem.lt hb
  have HH := Lib.hid (And.intro hb (And.intro hq (And.intro hw (And.intro hr (And.intro dw (And.intro dr hff))))))
  have hn : (0 : Int) < (t.wait.length : Int) := by have := List.length_pos_iff.2 he; omega
  obtain ⟨g, o, rfl, hlg, hog, hcells⟩ := q_head hw (List.length_pos_iff.2 he)
  subst h0
  have hi1 : (t.id == 0) = false := by simpa using hi
  have hs1 : (wrap64 (n - 1) == t.seq) = true := by simpa using hs
  have e1 : IntKind.i64.wrap (t.seq + 1) = t.seq + 1 := IntWalk.i64_in _ (by omega)
  clear hcells
  clear hb hq hw hr dw dr hff
  go_enter Try.func13, Try.ntmps13
  go_wp2_with fail
  repeat (go_quiet (fail); try go_wp2_with fail)
  all_goals
    go_end0
    obtain ⟨hb, hq, hw, hr, dw, dr, hff⟩ := HH.out
    refine ToldR.tl (t := t) (A := ?_) (c := ?_) sb sq hne hw hr dw dr hff ?_ ?_ ?_ rfl rfl (by omega) ?_ ?_
    any_goals (first | exact Mem.set (Mem.set (heap_drewN (Mem.old hb _) _)) | exact Mem.set_ne (Mem.set_ne (heap_drewN (Mem.old hq _) _) (Ne.symm hne)) (Ne.symm hne) | skip)
    any_goals (first | (with_reducible exact Mem.Ch.set (Mem.Ch.set (Mem.Ch.drewN (Mem.Ch.alloc (Mem.Ch.refl _ _) _) _) (.inr (.inr rfl))) (.inr (.inr rfl))) | exact Mem.Ch.set (Mem.Ch.set (Mem.Ch.drewN (Mem.Ch.alloc (Mem.Ch.refl _ _) _) _) (.inr (.inr rfl))) (.inr (.inr rfl)))
    any_goals (first | (rw [if_pos (by omega)]; done) | (rw [if_neg (by omega)]; done) | omega)
end Go.Proofs.Ytbiicflcjipeeaa
