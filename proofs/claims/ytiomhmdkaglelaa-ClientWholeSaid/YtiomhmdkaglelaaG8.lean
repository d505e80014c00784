/- Teller.Session, Left, Ask. · Teller.Refused: events of one's own, copied. · Teller.Told. · Teller.Told, the rest. -/
import Derived.Test.YtiomhmdkaglelaaG7
import Derived.IntWalk
namespace Go.Proofs.Ytiomhmdkaglelaa
open Go.RowKit
set_option linter.unusedSimpArgs false
set_option linter.unusedVariables false
open Sp (fold intB textS bs)
attribute [local go_sem] Mem.run_store_float Mem.After.cell
theorem two_kept {w w1 : World} {A B : Obj} (h : Below ((w.alloc A).alloc B).heap.size ((w.alloc A).alloc B) w1) : Below w.heap.size w w1 ∧ w1.heap[w.heap.size]? = some A ∧ w1.heap[w.heap.size + 1]? = some B := by
  refine ⟨(((Below.refl _ _).alloc (Nat.le_refl _) A).alloc (by simp) B).trans (h.mono (by simp; omega)), (h.block _ (by simp; omega)).trans (Mem.old (Mem.new w A) B), (h.block _ (by simp)).trans ?_⟩
  have := Mem.new (w.alloc A) B
  simpa using this
theorem then_kept {w W w1 : World} {A : Obj} (h1 : Below w.heap.size w W) (hA : W.heap[w.heap.size]? = some A) (h : Below W.heap.size W w1) : Below w.heap.size w w1 ∧ w1.heap[w.heap.size]? = some A :=
  ⟨h1.trans (h.mono h1.size), (h.block _ (Mem.lt hA)).trans hA⟩
theorem heap_drewN {w : World} {g : Nat} {o : Obj} (h : w.heap[g]? = some o) (n : Nat) : (w.drewN n).heap[g]? = some o := h
set_option maxRecDepth 100000 in
set_option maxHeartbeats 2000000 in
theorem Ask_none (S : Nat → Prop) (b : Nat) (t : Tl) (w : World) (h : TellerAt w S b t) (he : t.wait = []) :
    Calls Try.prog 22 #[.pointer (some ⟨b, 0, none⟩)] w fun r w' => r = .returned (.tuple #[.agg #[.int .i64 0, .string ⟨#[]⟩, .string ⟨#[]⟩, .int .i64 0, .int .i64 0], .bool false]) ∧ Below w.heap.size w w' := by
  obtain ⟨q, vw, vr, hb, hq, sb, sq, hne, hw, hr, dw, dr, hff⟩ := h
  rw [he] at hw
  obtain ⟨Aw, cw, rfl, hcw⟩ := Qu.q_slice hw
  have b3 := Mem.cell hb (j := 3) rfl
  have hlb := Mem.lt hb
  clear hb hq hw hr dw dr hff
  simp only [List.length_nil] at b3
  go_enter Try.func22, Try.ntmps22
  go_wp2_with fail
  exact bodyPost_ret (v := .tuple #[.agg #[.int .i64 0, .string ⟨#[]⟩, .string ⟨#[]⟩, .int .i64 0, .int .i64 0], .bool false]) (by simp [results, Try.results22, go_sem, *]) rfl ⟨rfl, (Below.refl _ _).alloc (Nat.le_refl _) _⟩
set_option maxRecDepth 100000 in
set_option maxHeartbeats 2000000 in
theorem Ask_open (S : Nat → Prop) (b : Nat) (t : Tl) (w : World) (h : TellerAt w S b t) (he : t.wait ≠ []) (hi : t.id = 0) :
    Calls Try.prog 22 #[.pointer (some ⟨b, 0, none⟩)] w fun r w' => r = .returned (.tuple #[.agg #[.int .i64 t.to, .string (numS 1), .string ⟨#[]⟩, .int .i64 0, .int .i64 0], .bool true]) ∧ Below w.heap.size w w' := by
  obtain ⟨q, vw, vr, hb, hq, sb, sq, hne, hw, hr, dw, dr, hff⟩ := h
  obtain ⟨Aw, cw, rfl, hcw⟩ := Qu.q_slice hw
  rw [hi] at hb
  have b1 := Mem.cell hb (j := 1) rfl
  have b3 := Mem.cell hb (j := 3) rfl
  have hlb := Mem.lt hb
  have HB := Lib.hid hb
  have HQ := Lib.hid hq
  clear hb hq hw hr dw dr hff
  have hn : (0 : Int) < (t.wait.length : Int) := by have := List.length_pos_iff.2 he; omega
  go_enter Try.func22, Try.ntmps22
  go_wp2_with (
    go_at_call 41
    refine (Write_open _).mono ?_
    rintro _ w1 ⟨rfl, hb1⟩
    obtain ⟨hbl, hA, hB⟩ := two_kept hb1
    have b01 := Mem.cell ((hbl.block b hlb).trans HB.out) (j := 0) rfl
    have q11 := Mem.cell ((hbl.block q (Mem.lt HQ.out)).trans HQ.out) (j := 1) rfl
    have r0 := Mem.cell hA (j := 0) rfl
    have r1 := Mem.cell hA (j := 1) rfl
    have r2 := Mem.cell hA (j := 2) rfl
    have r3 := Mem.cell hA (j := 3) rfl
    have r4 := Mem.cell hA (j := 4) rfl
    have g0 := Mem.free (j := 0) hA
    have g1 := Mem.free (j := 1) hA
    have g2 := Mem.free (j := 2) hA
    have g3 := Mem.free (j := 3) hA
    have g4 := Mem.free (j := 4) hA
    have hsz := hbl.size
    have hlA := Mem.lt hA
    have HL := Lib.hid hbl
    clear hbl hA hB hb1)
  refine bodyPost_ret (v := .tuple #[.agg #[.int .i64 t.to, .string (numS 1), .string ⟨#[]⟩, .int .i64 0, .int .i64 0], .bool true]) (by simp [results, Try.results22, go_sem, *]) rfl ⟨rfl, ?_⟩
  have h := HL.out
  with_reducible repeat (first | exact h | refine Below.setCell ?_ (by simp) _)
theorem q_head {w : World} {base e n c : Nat} {A : Option Addr} {xs : List Value} {size : Nat} (h : Qu.QRow w base e size (.slice A n c) n xs) (hn : 0 < n) :
    ∃ g o, A = some ⟨g, o, none⟩ ∧ g < w.heap.size ∧ (Value.slice A n c).ownBlock = some g ∧ ∀ j u, xs[j]? = some u → w.cell? ⟨g, o + j, none⟩ = some u := by
  have hx := h
  rcases h.2 with ⟨h0, _⟩ | ⟨g, off, cap, cur, he, hg, hh, hnc, hm, hcs, ht⟩
  · omega
  · injection he with ha _ hc
    subst ha
    obtain ⟨ad, ea, hc⟩ := Qu.q_cells hx hn
    cases ea
    exact ⟨g, off * size, rfl, Mem.lt hh, rfl, fun j u hu => by have := hc j u hu; rwa [Qu.add_at] at this⟩
set_option maxRecDepth 100000 in
set_option maxHeartbeats 4000000 in
theorem Ask_event (S : Nat → Prop) (b : Nat) (t : Tl) (p : Evt × Value) (r : List (Evt × Value)) (w : World) (h : TellerAt w S b t) (he : t.wait = p :: r) (hi : t.id ≠ 0) (hq0 : 0 ≤ t.seq) (hq1 : t.seq < 9223372036854775807)
    (hs : (p.1.num t.id (t.seq + 1)).small) (hwf : (p.1.num t.id (t.seq + 1)).wf) :
    Calls Try.prog 22 #[.pointer (some ⟨b, 0, none⟩)] w fun r w' => r = .returned (.tuple #[.agg #[.int .i64 t.to, .string (cmdS (p.1.num t.id (t.seq + 1))), .string ⟨#[]⟩, .int .i64 0, .int .i64 0], .bool (cmdE (p.1.num t.id (t.seq + 1)) == 0)]) ∧ Below w.heap.size w w' := by
  obtain ⟨q, vw, vr, hb, hq, sb, sq, hne, hw, hr, dw, dr, hff⟩ := h
  obtain ⟨e, vf⟩ := p
  dsimp only at hs hwf ⊢
  have hev : EvR w _ e vf := (hff (e, vf) (.inl (by rw [he]; exact List.mem_cons_self)))
  rw [he] at hw
  obtain ⟨Aw, cw, rfl, hcw⟩ := Qu.q_slice hw
  obtain ⟨g, o, rfl, hlg, hog, hcells⟩ := q_head hw (by simp)
  have x0 := hcells 0 (.int .i64 e.session) rfl
  have x1 := hcells 1 (.int .i64 e.seq) rfl
  have x2 := hcells 2 (.int .i64 e.stamp) rfl
  have x3 := hcells 3 (.string e.kind) rfl
  have x4 := hcells 4 vf rfl
  rw [Nat.add_zero] at x0
  obtain ⟨Af, cf, rfl⟩ := hev.slice
  have b1 := Mem.cell hb (j := 1) rfl
  have b2 := Mem.cell hb (j := 2) rfl
  have b3 := Mem.cell hb (j := 3) rfl
  have hlb := Mem.lt hb
  have HB := Lib.hid hb
  have HQ := Lib.hid hq
  have HEV := Lib.hid hev
  have HS := Lib.hid hs
  have HW := Lib.hid hwf
  have e1 : IntKind.i64.wrap (t.seq + 1) = t.seq + 1 := IntWalk.i64_in _ (by omega)
  clear hb hq hw hr dw dr hff hev hcells hs hwf
  have hn : (0 : Int) < ((((e, Value.slice Af e.fields.length cf) :: r : List (Evt × Value)).length : Nat) : Int) := by simp
  have hi' : (t.id == 0) = false := by simpa using hi
  generalize (((e, Value.slice Af e.fields.length cf) :: r : List (Evt × Value)).length) = N at *
  go_enter Try.func22, Try.ntmps22
  go_wp2_with (go_at_call 41; fail)
  go_region
  all_goals
    go_wp2_with (
      go_at_call 41
      refine (Write_event (e.num t.id (t.seq + 1)) _ _ _ HS.out (HEV.out.below (by with_reducible repeat (first | exact Below.refl _ _ | refine Below.setCell ?_ (by simp) _ | refine Below.alloc ?_ (by simp) _ | refine Below.drew ?_ | refine Mem.bdrewN ?_ _))) HW.out).mono ?_
      rintro _ w1 ⟨rfl, hb1⟩
      obtain ⟨hbl, hA⟩ := then_kept (w := w) (A := .cells #[.int .i64 0, .string ⟨#[]⟩, .string ⟨#[]⟩, .int .i64 0, .int .i64 0] 47) (by with_reducible repeat (first | exact Below.refl _ _ | refine Below.setCell ?_ (by simp) _ | refine Below.alloc ?_ (by simp) _ | refine Below.drew ?_ | refine Mem.bdrewN ?_ _))
        (by with_reducible repeat (first | exact Mem.new _ _ | refine Mem.old ?_ _ | refine Mem.set_ne ?_ (by simp) | refine Mem.drew ?_ | refine heap_drewN ?_ _)) hb1
      have b01 := Mem.cell ((hbl.block b hlb).trans HB.out) (j := 0) rfl
      have q11 := Mem.cell ((hbl.block q (Mem.lt HQ.out)).trans HQ.out) (j := 1) rfl
      have r0 := Mem.cell hA (j := 0) rfl
      have r1 := Mem.cell hA (j := 1) rfl
      have r2 := Mem.cell hA (j := 2) rfl
      have r3 := Mem.cell hA (j := 3) rfl
      have r4 := Mem.cell hA (j := 4) rfl
      have g0 := Mem.free (j := 0) hA
      have g1 := Mem.free (j := 1) hA
      have g2 := Mem.free (j := 2) hA
      have g3 := Mem.free (j := 3) hA
      have g4 := Mem.free (j := 4) hA
      have hsz := hbl.size
      have hlA := Mem.lt hA
      have HL := Lib.hid hbl
      clear hbl hA hb1)
  all_goals
    refine bodyPost_ret (v := .tuple #[.agg #[.int .i64 t.to, .string (cmdS (e.num t.id (t.seq + 1))), .string ⟨#[]⟩, .int .i64 0, .int .i64 0], .bool (cmdE (e.num t.id (t.seq + 1)) == 0)]) (by simp [results, Try.results22, go_sem, *]) rfl ⟨rfl, ?_⟩
    have h := HL.out
    with_reducible repeat (first | exact h | refine Below.setCell ?_ (by simp) _)
end Go.Proofs.Ytiomhmdkaglelaa
namespace Go.Proofs.Ytiomhmdkaglelaa
open Go.RowKit
set_option linter.unusedSimpArgs false
set_option linter.unusedVariables false
open Sp (fold intB textS bs)
attribute [local go_sem] Mem.run_store_float Mem.After.cell
/-- A row is read. -/
theorem Rd_of_q {w : World} {base e sz n : Nat} {v : Value} {rows : List (List Value)} (h : Qu.QRow w base e sz v n rows.flatten) (hn : n = rows.length) (hr : ∀ r ∈ rows, r.length = sz) : Mem.Rd w (fun k => v.ownBlock = some k) sz v rows := by
  subst hn
  obtain ⟨h1, h2⟩ := h
  rcases h2 with ⟨h0, A, rfl, hA⟩ | ⟨g, off, cap, cur, rfl, hg, hb, hc, hm, hs, ht⟩
  · have : rows = [] := List.length_eq_zero_iff.1 h0
    subst this
    exact ⟨A, 0, rfl, Nat.le_refl _, by omega, fun h => absurd rfl h, fun g o ea k i r c hk => by simp at hk⟩
  · refine ⟨some ⟨g, off * sz, none⟩, cap, rfl, hc, by unfold maxLen at hm; omega, fun _ => ⟨g, off * sz, rfl, rfl, Mem.lt hb⟩, fun g' o' ea k i r c hk hi => ?_⟩
    cases ea
    have hlen := hr r (List.mem_of_getElem? hk)
    have hi' := (List.getElem?_eq_some_iff.1 hi).1
    refine ⟨by omega, Mem.cell hb ?_⟩
    have hf := Mem.flat_get sz rows k i r c hr hk hi
    rw [← Array.getElem?_toList, Nat.add_assoc]
    rw [← ht, List.getElem?_take] at hf
    split at hf
    · rwa [List.getElem?_drop] at hf
    · cases hf
def evRows (l : List (Evt × Value)) : List (List Value) := l.map fun p => evC p.1 p.2
theorem evs_flat (l : List (Evt × Value)) : evs l = (evRows l).flatten := by simp [evs, evRows, List.flatMap_def]
theorem evRows_len (l : List (Evt × Value)) : ∀ r ∈ evRows l, r.length = 5 := by
  intro r hr
  obtain ⟨p, _, rfl⟩ := List.mem_map.1 hr
  rfl
/-- Events of one's own: the row and each one's fields lie from B on. -/
def Evs (w : World) (B : Nat) (v : Value) (l : List (Evt × Value)) : Prop := w.ownsRow B 36 5 v l.length (evs l) ∧ ∀ p ∈ l, EvR w (fun k => B ≤ k ∧ some k ≠ v.ownBlock) p.1 p.2
theorem Evs.nil (w : World) (B : Nat) : Evs w B (.slice none 0 0) [] := ⟨World.ownsRow_nil _ _ _ _, fun p hp => by simp at hp⟩
theorem Evs.added {w w2 w3 : World} {B : Nat} {v v3 v' : Value} {l : List (Evt × Value)} {e : Evt} {o : Obj} (h : Evs w B v l) (hB : B ≤ w.heap.size) (hbl : Below w.heap.size w w2) (hr2 : EvR w2 (fun k => w.heap.size ≤ k) e v')
    (hg3 : (w2.alloc o).grownBy w3 v.ownBlock) (hq3 : w3.ownsRow B 36 5 v3 (l.length + 1) (evs l ++ evC e v')) (ho3 : v3.ownBlock = v.ownBlock ∨ v3.ownBlock = some (w2.heap.size + 1)) : Evs w3 B v3 (l ++ [(e, v')]) := by
  obtain ⟨hw, hf⟩ := h
  have s2 := hbl.size
  have s3 : w2.heap.size + 1 ≤ w3.heap.size := by have := hg3.size; simpa using this
  have lw := fun k hk => (hw.lt k hk)
  have blk2 : ∀ k, k < w2.heap.size → some k ≠ v.ownBlock → w3.heap[k]? = w2.heap[k]? := fun k hk h2 => (hg3.block k (by simp; omega) h2).trans (Below.heap_alloc w2 o k hk)
  have no3 : ∀ k, k < w2.heap.size → some k ≠ v.ownBlock → some k ≠ v3.ownBlock := fun k hk h1 h2 => by
    rcases ho3 with h | h
    · exact h1 (h2.trans h)
    · rw [h] at h2; have : k = w2.heap.size + 1 := by simpa using h2
      omega
  refine ⟨by rw [evs_snoc, List.length_append]; exact hq3, fun p hp => ?_⟩
  rcases List.mem_append.1 hp with hp | hp
  · refine ((Mem.Rd.lt (hf p hp)).step (by omega) (fun k hk hl => (blk2 k (by omega) hk.1.2).trans (hbl.block k hk.2))).mono (fun k hk => ⟨hk.1.1, no3 k (by have := hk.2; omega) hk.1.2⟩)
  · obtain rfl : p = (e, v') := by simpa using hp
    have nw : ∀ k, w.heap.size ≤ k → some k ≠ v.ownBlock := fun k hk h => by have := (lw k h.symm).2; omega
    exact ((Mem.Rd.lt hr2).step (by omega) (fun k hk hl => blk2 k hk.2 (nw k hk.1))).mono (fun k hk => ⟨by have := hk.1; omega, no3 k hk.2 (nw k hk.1)⟩)
theorem own_move {w w1 : World} {base e size n : Nat} {v : Value} {xs : List Value} (h : w.ownsRow base e size v n xs) (hm : ∀ k, v.ownBlock = some k → w1.heap[k]? = w.heap[k]?) : w1.ownsRow base e size v n xs := by
  obtain ⟨h1, h2⟩ := h
  refine ⟨h1, ?_⟩
  rcases h2 with ⟨rfl, h0⟩ | ⟨g, cap, cur, rfl, hg, hb, r⟩
  · exact .inl ⟨rfl, h0⟩
  · exact .inr ⟨g, cap, cur, rfl, hg, (hm g rfl).trans hb, r⟩
theorem Evs.below {w w1 : World} {B : Nat} {v : Value} {l : List (Evt × Value)} (h : Evs w B v l) (hb : Below w.heap.size w w1) : Evs w1 B v l :=
  ⟨own_move h.1 (fun k hk => hb.block k (h.1.lt k hk).2), fun p hp => (h.2 p hp).below hb⟩
end Go.Proofs.Ytiomhmdkaglelaa
namespace Go.Proofs.Ytiomhmdkaglelaa
open Go.RowKit
set_option linter.unusedSimpArgs false
set_option linter.unusedVariables false
open Sp (fold intB textS bs)
attribute [local go_sem] Mem.run_store_float Mem.After.cell
theorem TellerAt.mono {w : World} {S S' : Nat → Prop} {b : Nat} {t : Tl} (h : TellerAt w S b t) (hS : ∀ k, S k → S' k) : TellerAt w S' b t := h.step (Nat.le_refl _) (fun _ _ _ => rfl) hS
/-- What Told leaves. -/
def ToldR (S : Nat → Prop) (b : Nat) (t : Tl) (w : World) (r : Ending) (w' : World) : Prop := r = .returned (.tuple #[]) ∧ Mem.Ch S w w' ∧ TellerAt w' (fun k => S k ∨ (w.heap.size ≤ k ∧ k < w'.heap.size)) b t
theorem ToldR.same {S : Nat → Prop} {b : Nat} {t : Tl} {w w' : World} (h : TellerAt w S b t) (hb : Below w.heap.size w w') : ToldR S b t w (.returned (.tuple #[])) w' := ⟨rfl, Mem.Ch.of_below' hb, (h.below hb).mono (fun _ h => .inl h)⟩
theorem ToldR.hdr {w w1 : World} {S : Nat → Prop} {b q : Nat} {vw vr : Value} {t t1 : Tl}
    (sb : S b) (sq : S q) (hne : q ≠ b) (hw : Qu.QRow w 0 36 5 vw t.wait.length (evs t.wait)) (hr : Qu.QRow w 0 36 5 vr t.refused.length (evs t.refused))
    (dw : ∀ k, vw.ownBlock = some k → S k ∧ k ≠ b ∧ k ≠ q ∧ vr.ownBlock ≠ some k) (dr : ∀ k, vr.ownBlock = some k → S k ∧ k ≠ b ∧ k ≠ q)
    (hf : ∀ p, p ∈ t.wait ∨ p ∈ t.refused → EvR w (fun k => S k ∧ k ≠ b ∧ k ≠ q ∧ some k ≠ vw.ownBlock ∧ some k ≠ vr.ownBlock) p.1 p.2)
    (hch : Mem.Ch (fun k => k = q ∨ k = b) w w1)
    (hb1 : w1.heap[b]? = some (.cells #[.pointer (some ⟨q, 0, none⟩), .int .i64 t1.id, .int .i64 t1.seq, vw, vr] 95 (0, 0)))
    (hq1 : w1.heap[q]? = some (.cells #[.int .i64 t1.nodes, .int .i64 t1.to] 64 (0, 0))) (ew : t1.wait = t.wait) (er : t1.refused = t.refused) : ToldR S b t1 w (.returned (.tuple #[])) w1 :=
  ⟨rfl, hch.mono (fun k _ h => by rcases h with h | h <;> rw [h] <;> assumption), (TellerAt.hdr sb sq hne hw hr dw dr hf hch hb1 hq1 ew er).mono (fun _ h => .inl h)⟩
set_option maxRecDepth 100000 in
set_option maxHeartbeats 4000000 in
theorem Told_none (S : Nat → Prop) (b : Nat) (t : Tl) (err n lead : Int) (w : World) (h : TellerAt w S b t) (he : t.wait = []) :
    Calls Try.prog 23 #[.pointer (some ⟨b, 0, none⟩), .agg #[.int .i64 err, .int .i64 n], .int .i64 lead] w (ToldR S b t w) := by
  have HT := Lib.hid h
  obtain ⟨q, vw, vr, hb, hq, sb, sq, hne, hw, hr, dw, dr, hff⟩ := h
  obtain ⟨Aw, cw, rfl, hcw⟩ := Qu.q_slice hw
  have b0 := Mem.cell hb (j := 0) rfl
  have b1 := Mem.cell hb (j := 1) rfl
  have b2 := Mem.cell hb (j := 2) rfl
  have b3 := Mem.cell hb (j := 3) rfl
  have f1 := Mem.free (j := 1) hb
  have f2 := Mem.free (j := 2) hb
  have f3 := Mem.free (j := 3) hb
  have hlb := Mem.lt hb
  have HH := Lib.hid (And.intro hb (And.intro hq (And.intro hw (And.intro hr (And.intro dw (And.intro dr hff))))))
  have hn : (t.wait.length : Int) = 0 := by rw [he]; rfl
  rw [he] at b3
  clear hb hq hw hr dw dr hff
  go_enter Try.func23, Try.ntmps23
  go_wp2_with fail
  go_end0
  exact ToldR.same HT.out ((Below.refl _ _).alloc (Nat.le_refl _) _)
set_option maxRecDepth 100000 in
set_option maxHeartbeats 4000000 in
theorem Told_open (S : Nat → Prop) (b : Nat) (t : Tl) (err n lead : Int) (w : World) (h : TellerAt w S b t) (he : t.wait ≠ []) (h0 : err = 0) (hi : t.id = 0) (hn1 : 1 ≤ n) (hn2 : n ≤ 549755813888) :
    Calls Try.prog 23 #[.pointer (some ⟨b, 0, none⟩), .agg #[.int .i64 err, .int .i64 n], .int .i64 lead] w (ToldR S b { t with id := n, seq := 0 } w) := by
  have HT := Lib.hid h
  obtain ⟨q, vw, vr, hb, hq, sb, sq, hne, hw, hr, dw, dr, hff⟩ := h
  obtain ⟨Aw, cw, rfl, hcw⟩ := Qu.q_slice hw
  have b0 := Mem.cell hb (j := 0) rfl
  have b1 := Mem.cell hb (j := 1) rfl
  have b2 := Mem.cell hb (j := 2) rfl
  have b3 := Mem.cell hb (j := 3) rfl
  have f1 := Mem.free (j := 1) hb
  have f2 := Mem.free (j := 2) hb
  have f3 := Mem.free (j := 3) hb
  have hlb := Mem.lt hb
  have HH := Lib.hid (And.intro hb (And.intro hq (And.intro hw (And.intro hr (And.intro dw (And.intro dr hff))))))
  have hn : (0 : Int) < (t.wait.length : Int) := by have := List.length_pos_iff.2 he; omega
  subst h0
  rw [hi] at b1
  clear hb hq hw hr dw dr hff
  go_enter Try.func23, Try.ntmps23
  go_wp2_with fail
  go_end0
  obtain ⟨hb, hq, hw, hr, dw, dr, hff⟩ := HH.out
  refine ToldR.hdr (t := t) sb sq hne hw hr dw dr hff ?_ ?_ ?_ rfl rfl
  · with_reducible repeat (first | exact Mem.Ch.refl _ _ | refine Mem.Ch.set ?_ (.inr (.inr rfl)) | refine Mem.Ch.alloc ?_ _ | refine Mem.Ch.drew ?_ | refine Mem.Ch.drewN ?_ _)
  · exact Mem.old (Mem.set (Mem.set hb)) _
  · exact Mem.old (Mem.set_ne (Mem.set_ne hq (Ne.symm hne)) (Ne.symm hne)) _
set_option maxRecDepth 100000 in
set_option maxHeartbeats 4000000 in
theorem Told_open_no1 (S : Nat → Prop) (b : Nat) (t : Tl) (err n lead : Int) (w : World) (h : TellerAt w S b t) (he : t.wait ≠ []) (h0 : err = 0) (hi : t.id = 0) (hn1 : n < 1) :
    Calls Try.prog 23 #[.pointer (some ⟨b, 0, none⟩), .agg #[.int .i64 err, .int .i64 n], .int .i64 lead] w (ToldR S b t w) := by
  have HT := Lib.hid h
  obtain ⟨q, vw, vr, hb, hq, sb, sq, hne, hw, hr, dw, dr, hff⟩ := h
  obtain ⟨Aw, cw, rfl, hcw⟩ := Qu.q_slice hw
  have b0 := Mem.cell hb (j := 0) rfl
  have b1 := Mem.cell hb (j := 1) rfl
  have b2 := Mem.cell hb (j := 2) rfl
  have b3 := Mem.cell hb (j := 3) rfl
  have f1 := Mem.free (j := 1) hb
  have f2 := Mem.free (j := 2) hb
  have f3 := Mem.free (j := 3) hb
  have hlb := Mem.lt hb
  have HH := Lib.hid (And.intro hb (And.intro hq (And.intro hw (And.intro hr (And.intro dw (And.intro dr hff))))))
  have hn : (0 : Int) < (t.wait.length : Int) := by have := List.length_pos_iff.2 he; omega
  subst h0
  rw [hi] at b1
  clear hb hq hw hr dw dr hff
  go_enter Try.func23, Try.ntmps23
  go_wp2_with fail
  go_end0
  exact ToldR.same HT.out ((Below.refl _ _).alloc (Nat.le_refl _) _)
set_option maxRecDepth 100000 in
set_option maxHeartbeats 4000000 in
theorem Told_open_no2 (S : Nat → Prop) (b : Nat) (t : Tl) (err n lead : Int) (w : World) (h : TellerAt w S b t) (he : t.wait ≠ []) (h0 : err = 0) (hi : t.id = 0) (hn1 : 1 ≤ n) (hn2 : 549755813888 < n) :
    Calls Try.prog 23 #[.pointer (some ⟨b, 0, none⟩), .agg #[.int .i64 err, .int .i64 n], .int .i64 lead] w (ToldR S b t w) := by
  have HT := Lib.hid h
  obtain ⟨q, vw, vr, hb, hq, sb, sq, hne, hw, hr, dw, dr, hff⟩ := h
  obtain ⟨Aw, cw, rfl, hcw⟩ := Qu.q_slice hw
  have b0 := Mem.cell hb (j := 0) rfl
  have b1 := Mem.cell hb (j := 1) rfl
  have b2 := Mem.cell hb (j := 2) rfl
  have b3 := Mem.cell hb (j := 3) rfl
  have f1 := Mem.free (j := 1) hb
  have f2 := Mem.free (j := 2) hb
  have f3 := Mem.free (j := 3) hb
  have hlb := Mem.lt hb
  have HH := Lib.hid (And.intro hb (And.intro hq (And.intro hw (And.intro hr (And.intro dw (And.intro dr hff))))))
  have hn : (0 : Int) < (t.wait.length : Int) := by have := List.length_pos_iff.2 he; omega
  subst h0
  rw [hi] at b1
  clear hb hq hw hr dw dr hff
  go_enter Try.func23, Try.ntmps23
  go_wp2_with fail
  go_end0
  exact ToldR.same HT.out ((Below.refl _ _).alloc (Nat.le_refl _) _)
set_option maxRecDepth 100000 in
set_option maxHeartbeats 4000000 in
theorem Told_lost (S : Nat → Prop) (b : Nat) (t : Tl) (err n lead : Int) (w : World) (h : TellerAt w S b t) (he : t.wait ≠ []) (h0 : err = 4) (hi : t.id ≠ 0) :
    Calls Try.prog 23 #[.pointer (some ⟨b, 0, none⟩), .agg #[.int .i64 err, .int .i64 n], .int .i64 lead] w (ToldR S b { t with id := 0, seq := 0 } w) := by
  have HT := Lib.hid h
  obtain ⟨q, vw, vr, hb, hq, sb, sq, hne, hw, hr, dw, dr, hff⟩ := h
  obtain ⟨Aw, cw, rfl, hcw⟩ := Qu.q_slice hw
  have b0 := Mem.cell hb (j := 0) rfl
  have b1 := Mem.cell hb (j := 1) rfl
  have b2 := Mem.cell hb (j := 2) rfl
  have b3 := Mem.cell hb (j := 3) rfl
  have f1 := Mem.free (j := 1) hb
  have f2 := Mem.free (j := 2) hb
  have f3 := Mem.free (j := 3) hb
  have hlb := Mem.lt hb
  have HH := Lib.hid (And.intro hb (And.intro hq (And.intro hw (And.intro hr (And.intro dw (And.intro dr hff))))))
  have hn : (0 : Int) < (t.wait.length : Int) := by have := List.length_pos_iff.2 he; omega
  subst h0
  have hi1 : (t.id == 0) = false := by simpa using hi
  clear hb hq hw hr dw dr hff
  go_enter Try.func23, Try.ntmps23
  go_wp2_with fail
  go_end0
  obtain ⟨hb, hq, hw, hr, dw, dr, hff⟩ := HH.out
  refine ToldR.hdr (t := t) sb sq hne hw hr dw dr hff ?_ ?_ ?_ rfl rfl
  · with_reducible repeat (first | exact Mem.Ch.refl _ _ | refine Mem.Ch.set ?_ (.inr (.inr rfl)) | refine Mem.Ch.alloc ?_ _ | refine Mem.Ch.drew ?_ | refine Mem.Ch.drewN ?_ _)
  · exact Mem.old (Mem.set (Mem.set hb)) _
  · exact Mem.old (Mem.set_ne (Mem.set_ne hq (Ne.symm hne)) (Ne.symm hne)) _
set_option maxRecDepth 100000 in
set_option maxHeartbeats 4000000 in
theorem Told_not (S : Nat → Prop) (b : Nat) (t : Tl) (err n lead : Int) (w : World) (h : TellerAt w S b t) (he : t.wait ≠ []) (h0 : err = 0) (hi : t.id ≠ 0) (hs : ¬ wrap64 (n - 1) = t.seq) :
    Calls Try.prog 23 #[.pointer (some ⟨b, 0, none⟩), .agg #[.int .i64 err, .int .i64 n], .int .i64 lead] w (ToldR S b t w) := by
  have HT := Lib.hid h
  obtain ⟨q, vw, vr, hb, hq, sb, sq, hne, hw, hr, dw, dr, hff⟩ := h
  obtain ⟨Aw, cw, rfl, hcw⟩ := Qu.q_slice hw
  have b0 := Mem.cell hb (j := 0) rfl
  have b1 := Mem.cell hb (j := 1) rfl
  have b2 := Mem.cell hb (j := 2) rfl
  have b3 := Mem.cell hb (j := 3) rfl
  have f1 := Mem.free (j := 1) hb
  have f2 := Mem.free (j := 2) hb
  have f3 := Mem.free (j := 3) hb
  have hlb := Mem.lt hb
  have HH := Lib.hid (And.intro hb (And.intro hq (And.intro hw (And.intro hr (And.intro dw (And.intro dr hff))))))
  have hn : (0 : Int) < (t.wait.length : Int) := by have := List.length_pos_iff.2 he; omega
  subst h0
  have hi1 : (t.id == 0) = false := by simpa using hi
  have hs1 : (wrap64 (n - 1) == t.seq) = false := by simpa using hs
  clear hb hq hw hr dw dr hff
  go_enter Try.func23, Try.ntmps23
  go_wp2_with fail
  repeat (go_quiet (fail); try go_wp2_with fail)
  go_end0
  exact ToldR.same HT.out (by first | exact (Below.refl _ _).alloc (Nat.le_refl _) _ | exact Mem.bdrewN ((Below.refl _ _).alloc (Nat.le_refl _) _) _)
end Go.Proofs.Ytiomhmdkaglelaa
namespace Go.Proofs.Ytiomhmdkaglelaa
open Go.RowKit
set_option linter.unusedSimpArgs false
set_option linter.unusedVariables false
open Sp (fold intB textS bs)
attribute [local go_sem] Mem.run_store_float Mem.After.cell
set_option maxRecDepth 100000 in
set_option maxHeartbeats 4000000 in
theorem Told_lead0 (S : Nat → Prop) (b : Nat) (t : Tl) (err n lead : Int) (w : World) (h : TellerAt w S b t) (he : t.wait ≠ []) (hf : t.fit) (h0 : err ≠ 0) (hi : t.id = 0) :
    Calls Try.prog 23 #[.pointer (some ⟨b, 0, none⟩), .agg #[.int .i64 err, .int .i64 n], .int .i64 lead] w (ToldR S b { t with to := leadTo t.to t.nodes lead } w) := by
  have HT := Lib.hid h
  obtain ⟨q, vw, vr, hb, hq, sb, sq, hne, hw, hr, dw, dr, hff⟩ := h
  obtain ⟨Aw, cw, rfl, hcw⟩ := Qu.q_slice hw
  have b0 := Mem.cell hb (j := 0) rfl
  have b1 := Mem.cell hb (j := 1) rfl
  have b2 := Mem.cell hb (j := 2) rfl
  have b3 := Mem.cell hb (j := 3) rfl
  have f1 := Mem.free (j := 1) hb
  have f2 := Mem.free (j := 2) hb
  have f3 := Mem.free (j := 3) hb
  have hlb := Mem.lt hb
  have HH := Lib.hid (And.intro hb (And.intro hq (And.intro hw (And.intro hr (And.intro dw (And.intro dr hff))))))
  have hn : (0 : Int) < (t.wait.length : Int) := by have := List.length_pos_iff.2 he; omega
  obtain ⟨hf1, hf2, hf3, hf4⟩ := hf
  have h1 : (err == 0) = false := by simpa using h0
  rw [hi] at b1
  clear hb hq hw hr dw dr hff
  go_enter Try.func23, Try.ntmps23
  by_cases h4 : err = 4
  all_goals by_cases h130 : err = 130
  all_goals try (have h4b : (err == 4) = false := by simpa using h4)
  all_goals try (have h130b : (err == 130) = false := by simpa using h130)
  all_goals try subst h4
  all_goals try subst h130
  all_goals try (exact absurd h130 (by decide))
  all_goals
    go_wp2_with (go_at_call 42; refine (lead_any q t.nodes t.to lead _ (Mem.old HH.out.2.1 _) hf1 hf2 hf3 hf4).mono ?_; rintro _ w1 ⟨rfl, hc1, hz1, hq1⟩)
    refine bodyPost_ret (results_none rfl _ _ _) rfl ?_
    obtain ⟨hb, hq, hw, hr, dw, dr, hff⟩ := HH.out
    exact ToldR.hdr (t := t) sb sq hne hw hr dw dr hff (((Mem.Ch.refl _ _).alloc _).trans' (hc1.mono (fun k _ h => .inl h))) (hc1.at_ (Mem.old hb _) (fun h => hne h.symm)) hq1 rfl rfl
set_option maxRecDepth 100000 in
set_option maxHeartbeats 4000000 in
theorem Told_lead (S : Nat → Prop) (b : Nat) (t : Tl) (err n lead : Int) (w : World) (h : TellerAt w S b t) (he : t.wait ≠ []) (hf : t.fit) (h0 : err ≠ 0) (h4 : err ≠ 4) (h130 : err ≠ 130) :
    Calls Try.prog 23 #[.pointer (some ⟨b, 0, none⟩), .agg #[.int .i64 err, .int .i64 n], .int .i64 lead] w (ToldR S b { t with to := leadTo t.to t.nodes lead } w) := by
  have HT := Lib.hid h
  obtain ⟨q, vw, vr, hb, hq, sb, sq, hne, hw, hr, dw, dr, hff⟩ := h
  obtain ⟨Aw, cw, rfl, hcw⟩ := Qu.q_slice hw
  have b0 := Mem.cell hb (j := 0) rfl
  have b1 := Mem.cell hb (j := 1) rfl
  have b2 := Mem.cell hb (j := 2) rfl
  have b3 := Mem.cell hb (j := 3) rfl
  have f1 := Mem.free (j := 1) hb
  have f2 := Mem.free (j := 2) hb
  have f3 := Mem.free (j := 3) hb
  have hlb := Mem.lt hb
  have HH := Lib.hid (And.intro hb (And.intro hq (And.intro hw (And.intro hr (And.intro dw (And.intro dr hff))))))
  have hn : (0 : Int) < (t.wait.length : Int) := by have := List.length_pos_iff.2 he; omega
  obtain ⟨hf1, hf2, hf3, hf4⟩ := hf
  have h1 : (err == 0) = false := by simpa using h0
  have h2 : (err == 4) = false := by simpa using h4
  have h3 : (err == 130) = false := by simpa using h130
  clear hb hq hw hr dw dr hff
  go_enter Try.func23, Try.ntmps23
  go_wp2_with (go_at_call 42; refine (lead_any q t.nodes t.to lead _ (Mem.old HH.out.2.1 _) hf1 hf2 hf3 hf4).mono ?_; rintro _ w1 ⟨rfl, hc1, hz1, hq1⟩)
  refine bodyPost_ret (results_none rfl _ _ _) rfl ?_
  obtain ⟨hb, hq, hw, hr, dw, dr, hff⟩ := HH.out
  exact ToldR.hdr (t := t) sb sq hne hw hr dw dr hff (((Mem.Ch.refl _ _).alloc _).trans' (hc1.mono (fun k _ h => .inl h))) (hc1.at_ (Mem.old hb _) (fun h => hne h.symm)) hq1 rfl rfl
theorem evs_tail (l : List (Evt × Value)) : (evs l).drop 5 = evs l.tail := by
  cases l with
  | nil => rfl
  | cons p r => simp [evs, evC]
/-- The head was written and the first of what waits left. -/
theorem ToldR.tl {w w1 : World} {S : Nat → Prop} {b q g o cw c : Nat} {A : Option Addr} {vr : Value} {t t1 : Tl}
    (sb : S b) (sq : S q) (hne : q ≠ b) (hw : Qu.QRow w 0 36 5 (.slice (some ⟨g, o, none⟩) t.wait.length cw) t.wait.length (evs t.wait)) (hr : Qu.QRow w 0 36 5 vr t.refused.length (evs t.refused))
    (dw : ∀ k, (Value.slice (some ⟨g, o, none⟩) t.wait.length cw).ownBlock = some k → S k ∧ k ≠ b ∧ k ≠ q ∧ vr.ownBlock ≠ some k) (dr : ∀ k, vr.ownBlock = some k → S k ∧ k ≠ b ∧ k ≠ q)
    (hf : ∀ p, p ∈ t.wait ∨ p ∈ t.refused → EvR w (fun k => S k ∧ k ≠ b ∧ k ≠ q ∧ some k ≠ (Value.slice (some ⟨g, o, none⟩) t.wait.length cw).ownBlock ∧ some k ≠ vr.ownBlock) p.1 p.2)
    (hch : Mem.Ch (fun k => k = q ∨ k = b) w w1)
    (hb1 : w1.heap[b]? = some (.cells #[.pointer (some ⟨q, 0, none⟩), .int .i64 t1.id, .int .i64 t1.seq, .slice A (t.wait.length - 1) c, vr] 95 (0, 0)))
    (hq1 : w1.heap[q]? = some (.cells #[.int .i64 t1.nodes, .int .i64 t1.to] 64 (0, 0))) (ew : t1.wait = t.wait.tail) (er : t1.refused = t.refused)
    (hpos : 1 ≤ t.wait.length) (hA : A = if cw = 1 then some ⟨g, o, none⟩ else some ⟨g, o + 5, none⟩) (hc : c = cw - 1) : ToldR S b t1 w (.returned (.tuple #[])) w1 := by
  subst hc
  have hd := Qu.q_drop hw (k := 1) hpos
  have hown : (Value.slice A (t.wait.length - 1) (cw - 1)).ownBlock = (Value.slice (some ⟨g, o, none⟩) t.wait.length cw).ownBlock := by
    rw [hA]; split <;> rfl
  have hAe : (if cw = 1 then (some ⟨g, o, none⟩ : Option Addr) else (some (⟨g, o, none⟩ : Addr)).map (·.add (1 * 5))) = A := by
    rw [hA]; split
    · rfl
    · rw [Option.map_some, Qu.add_at]
  rw [hAe, Nat.one_mul, evs_tail] at hd
  have bk : ∀ k, k < w.heap.size → k ≠ b → k ≠ q → w1.heap[k]? = w.heap[k]? := fun k hk h1 h2 => hch.block k hk (fun h => by omega)
  have lw := fun k hk => Qu.q_lt hw k hk
  refine ⟨rfl, hch.mono (fun k _ h => by rcases h with h | h <;> rw [h] <;> assumption), q, _, vr, hb1, hq1, .inl sb, .inl sq, hne, ?_, ?_, ?_, ?_, ?_⟩
  · rw [ew, List.length_tail]
    refine Qu.q_move hd (fun k hk => ?_)
    rw [hown] at hk
    exact bk k (lw k hk) (dw k hk).2.1 (dw k hk).2.2.1
  · rw [er]; exact Qu.q_move hr (fun k hk => bk k (Qu.q_lt hr k hk) (dr k hk).2.1 (dr k hk).2.2)
  · intro k hk
    rw [hown] at hk
    exact ⟨.inl (dw k hk).1, (dw k hk).2⟩
  · exact fun k hk => ⟨.inl (dr k hk).1, (dr k hk).2⟩
  · intro p hp
    rw [ew, er] at hp
    refine ((hf p (hp.imp_left List.mem_of_mem_tail)).step hch.size (fun k hk hl => bk k hl hk.2.1 hk.2.2.1)).mono (fun k hk => ⟨.inl hk.1, hk.2.1, hk.2.2.1, ?_, hk.2.2.2.2⟩)
    rw [hown]; exact hk.2.2.2.1
set_option maxRecDepth 100000 in
set_option maxHeartbeats 4000000 in
theorem Told_told (S : Nat → Prop) (b : Nat) (t : Tl) (err n lead : Int) (w : World) (h : TellerAt w S b t) (he : t.wait ≠ []) (h0 : err = 0) (hi : t.id ≠ 0) (hq0 : 0 ≤ t.seq) (hq1 : t.seq < 9223372036854775807) (hs : wrap64 (n - 1) = t.seq) :
    Calls Try.prog 23 #[.pointer (some ⟨b, 0, none⟩), .agg #[.int .i64 err, .int .i64 n], .int .i64 lead] w (ToldR S b { t with seq := t.seq + 1, wait := t.wait.tail } w) := by
  have HT := Lib.hid h
  obtain ⟨q, vw, vr, hb, hq, sb, sq, hne, hw, hr, dw, dr, hff⟩ := h
  obtain ⟨Aw, cw, rfl, hcw⟩ := Qu.q_slice hw
  have b0 := Mem.cell hb (j := 0) rfl
  have b1 := Mem.cell hb (j := 1) rfl
  have b2 := Mem.cell hb (j := 2) rfl
  have b3 := Mem.cell hb (j := 3) rfl
  have f1 := Mem.free (j := 1) hb
  have f2 := Mem.free (j := 2) hb
  have f3 := Mem.free (j := 3) hb
  have hlb := Mem.lt hb
  have HH := Lib.hid (And.intro hb (And.intro hq (And.intro hw (And.intro hr (And.intro dw (And.intro dr hff))))))
  have hn : (0 : Int) < (t.wait.length : Int) := by have := List.length_pos_iff.2 he; omega
  obtain ⟨g, o, rfl, hlg, hog, hcells⟩ := q_head hw (List.length_pos_iff.2 he)
  subst h0
  have hi1 : (t.id == 0) = false := by simpa using hi
  have hs1 : (wrap64 (n - 1) == t.seq) = true := by simpa using hs
  have e1 : IntKind.i64.wrap (t.seq + 1) = t.seq + 1 := IntWalk.i64_in _ (by omega)
  clear hcells
  clear hb hq hw hr dw dr hff
  go_enter Try.func23, Try.ntmps23
  go_wp2_with fail
  repeat (go_quiet (fail); try go_wp2_with fail)
  all_goals
    go_end0
    obtain ⟨hb, hq, hw, hr, dw, dr, hff⟩ := HH.out
    refine ToldR.tl (t := t) (A := ?_) (c := ?_) sb sq hne hw hr dw dr hff ?_ ?_ ?_ rfl rfl (by omega) ?_ ?_
    any_goals (first | exact Mem.set (Mem.set (heap_drewN (Mem.old hb _) _)) | exact Mem.set_ne (Mem.set_ne (heap_drewN (Mem.old hq _) _) (Ne.symm hne)) (Ne.symm hne) | skip)
    any_goals (first | (with_reducible exact Mem.Ch.set (Mem.Ch.set (Mem.Ch.drewN (Mem.Ch.alloc (Mem.Ch.refl _ _) _) _) (.inr (.inr rfl))) (.inr (.inr rfl))) | exact Mem.Ch.set (Mem.Ch.set (Mem.Ch.drewN (Mem.Ch.alloc (Mem.Ch.refl _ _) _) _) (.inr (.inr rfl))) (.inr (.inr rfl)))
    any_goals (first | (rw [if_pos (by omega)]; done) | (rw [if_neg (by omega)]; done) | omega)
end Go.Proofs.Ytiomhmdkaglelaa
