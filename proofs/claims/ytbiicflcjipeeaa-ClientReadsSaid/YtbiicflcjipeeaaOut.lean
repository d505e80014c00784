/- Teller.Refused: events of one's own, copied. -/
import Derived.Test.YtbiicflcjipeeaaAsk
namespace Go.Proofs.Ytbiicflcjipeeaa
open Go.RowKit
set_option linter.unusedSimpArgs false
set_option linter.unusedVariables false
open Sp (fold intB textS bs)
attribute [local go_sem] Mem.run_store_float Mem.After.cell
/-- A row is read. -/
theorem Rd_of_q {w : World} {base e sz n : Nat} {v : Value} {rows : List (List Value)} (h : Qu.QRow w base e sz v n rows.flatten) (hn : n = rows.length) (hr : ∀ r ∈ rows, r.length = sz) : Mem.Rd w (fun k => v.ownBlock = some k) sz v rows := by
  subst hn
  obtain ⟨h1, h2⟩ := h
  rcases h2 with ⟨h0, A, rfl, hA⟩ | ⟨g, off, cap, cur, rfl, hg, hb, hc, hm, hs, ht⟩
  · have : rows = [] := List.length_eq_zero_iff.1 h0
    subst this
    exact ⟨A, 0, rfl, Nat.le_refl _, by omega, fun h => absurd rfl h, fun g o ea k i r c hk => by simp at hk⟩
  · refine ⟨some ⟨g, off * sz, none⟩, cap, rfl, hc, by unfold maxLen at hm; omega, fun _ => ⟨g, off * sz, rfl, rfl, Mem.lt hb⟩, fun g' o' ea k i r c hk hi => ?_⟩
    cases ea
    have hlen := hr r (List.mem_of_getElem? hk)
    have hi' := (List.getElem?_eq_some_iff.1 hi).1
    refine ⟨by omega, Mem.cell hb ?_⟩
    have hf := Mem.flat_get sz rows k i r c hr hk hi
    rw [← Array.getElem?_toList, Nat.add_assoc]
    rw [← ht, List.getElem?_take] at hf
    split at hf
    · rwa [List.getElem?_drop] at hf
    · cases hf
def evRows (l : List (Evt × Value)) : List (List Value) := l.map fun p => evC p.1 p.2
theorem evs_flat (l : List (Evt × Value)) : evs l = (evRows l).flatten := by simp [evs, evRows, List.flatMap_def]
theorem evRows_len (l : List (Evt × Value)) : ∀ r ∈ evRows l, r.length = 5 := by
  intro r hr
  obtain ⟨p, _, rfl⟩ := List.mem_map.1 hr
  rfl
/-- Events of one's own: the row and each one's fields lie from B on. -/
def Evs (w : World) (B : Nat) (v : Value) (l : List (Evt × Value)) : Prop := w.ownsRow B 31 5 v l.length (evs l) ∧ ∀ p ∈ l, EvR w (fun k => B ≤ k ∧ some k ≠ v.ownBlock) p.1 p.2
theorem Evs.nil (w : World) (B : Nat) : Evs w B (.slice none 0 0) [] := ⟨World.ownsRow_nil _ _ _ _, fun p hp => by simp at hp⟩
theorem Evs.added {w w2 w3 : World} {B : Nat} {v v3 v' : Value} {l : List (Evt × Value)} {e : Evt} {o : Obj} (h : Evs w B v l) (hB : B ≤ w.heap.size) (hbl : Below w.heap.size w w2) (hr2 : EvR w2 (fun k => w.heap.size ≤ k) e v')
    (hg3 : (w2.alloc o).grownBy w3 v.ownBlock) (hq3 : w3.ownsRow B 31 5 v3 (l.length + 1) (evs l ++ evC e v')) (ho3 : v3.ownBlock = v.ownBlock ∨ v3.ownBlock = some (w2.heap.size + 1)) : Evs w3 B v3 (l ++ [(e, v')]) := by
  obtain ⟨hw, hf⟩ := h
  have s2 := hbl.size
  have s3 : w2.heap.size + 1 ≤ w3.heap.size := by have := hg3.size; simpa using this
  have lw := fun k hk => (hw.lt k hk)
  have blk2 : ∀ k, k < w2.heap.size → some k ≠ v.ownBlock → w3.heap[k]? = w2.heap[k]? := fun k hk h2 => (hg3.block k (by simp; omega) h2).trans (Below.heap_alloc w2 o k hk)
  have no3 : ∀ k, k < w2.heap.size → some k ≠ v.ownBlock → some k ≠ v3.ownBlock := fun k hk h1 h2 => by
    rcases ho3 with h | h
    · exact h1 (h2.trans h)
    · rw [h] at h2; have : k = w2.heap.size + 1 := by simpa using h2
      omega
  refine ⟨by rw [evs_snoc, List.length_append]; exact hq3, fun p hp => ?_⟩
  rcases List.mem_append.1 hp with hp | hp
  · refine ((Mem.Rd.lt (hf p hp)).step (by omega) (fun k hk hl => (blk2 k (by omega) hk.1.2).trans (hbl.block k hk.2))).mono (fun k hk => ⟨hk.1.1, no3 k (by have := hk.2; omega) hk.1.2⟩)
  · obtain rfl : p = (e, v') := by simpa using hp
    have nw : ∀ k, w.heap.size ≤ k → some k ≠ v.ownBlock := fun k hk h => by have := (lw k h.symm).2; omega
    exact ((Mem.Rd.lt hr2).step (by omega) (fun k hk hl => blk2 k hk.2 (nw k hk.1))).mono (fun k hk => ⟨by have := hk.1; omega, no3 k hk.2 (nw k hk.1)⟩)
theorem own_move {w w1 : World} {base e size n : Nat} {v : Value} {xs : List Value} (h : w.ownsRow base e size v n xs) (hm : ∀ k, v.ownBlock = some k → w1.heap[k]? = w.heap[k]?) : w1.ownsRow base e size v n xs := by
  obtain ⟨h1, h2⟩ := h
  refine ⟨h1, ?_⟩
  rcases h2 with ⟨rfl, h0⟩ | ⟨g, cap, cur, rfl, hg, hb, r⟩
  · exact .inl ⟨rfl, h0⟩
  · exact .inr ⟨g, cap, cur, rfl, hg, (hm g rfl).trans hb, r⟩
theorem Evs.below {w w1 : World} {B : Nat} {v : Value} {l : List (Evt × Value)} (h : Evs w B v l) (hb : Below w.heap.size w w1) : Evs w1 B v l :=
  ⟨own_move h.1 (fun k hk => hb.block k (h.1.lt k hk).2), fun p hp => (h.2 p hp).below hb⟩
set_option maxRecDepth 100000 in
set_option maxHeartbeats 4000000 in
theorem Refused_any (S : Nat → Prop) (b : Nat) (t : Tl) (w : World) (h : TellerAt w S b t) (hn : t.refused.length ≤ 1000) (hl : ∀ p ∈ t.refused, p.1.fields.length ≤ 100) :
    Calls Try.prog 31 #[.pointer (some ⟨b, 0, none⟩)] w fun r w' => ∃ v l, r = .returned v ∧ Evs w' w.heap.size v l ∧ l.map Prod.fst = t.refused.map (fun p => p.1.num 0 0) ∧ Below w.heap.size w w' := by
  obtain ⟨q, vw, vr, hb, hq, sb, sq, hne, hw, hr, dw, dr, hff⟩ := h
  obtain ⟨Ar, cr, rfl, hcr⟩ := Qu.q_slice hr
  have b4 := Mem.cell hb (j := 4) rfl
  rw [evs_flat] at hr
  have HR := Lib.hid (Rd_of_q hr (by simp [evRows]) (evRows_len _))
  have HF := Lib.hid hff
  have HL := Lib.hid hl
  clear hb hq hw hr dw dr hff hl
  obtain ⟨i0, hi, hz0, hz1, hz2⟩ := info_parts info_evt
  go_enter Try.func31, Try.ntmps31
  go_wp2_with fail
  go_loopw [3, 13] (fun v i wr => ∃ l : List (Evt × Value), l.length ≤ t.refused.length ∧ i = .int .i64 l.length ∧ Evs wr w.heap.size v l ∧ l.map Prod.fst = (t.refused.take l.length).map (fun p => p.1.num 0 0) ∧ Below w.heap.size w wr) (fun _ i _ => t.refused.length - (intOf i).toNat)
  case atStart => exact ⟨[], Nat.zero_le _, rfl, Evs.nil _ _, rfl, Below.refl _ _⟩
  case round =>
    obtain ⟨l, hk, rfl, hev, hmap, hbel⟩ := hrel
    by_cases hlt : l.length < t.refused.length
    · obtain ⟨⟨e, vf⟩, hp⟩ : ∃ p, t.refused[l.length]? = some p := ⟨_, List.getElem?_eq_getElem hlt⟩
      obtain ⟨g, o, rfl, hg, hgl, hrow⟩ := (Mem.Rd.below HR.out hbel).row (k := l.length) (r := evC e vf) (by rw [evRows, List.getElem?_map, hp]; rfl)
      have hel := HL.out (e, vf) (List.mem_of_getElem? hp)
      have her : EvR w _ e vf := HF.out (e, vf) (.inr (List.mem_of_getElem? hp))
      obtain ⟨Af, cf, rfl⟩ := her.slice
      have c0 : wr.cell? ⟨g, o + l.length * 5, none⟩ = some (.int .i64 e.session) := hrow 0 _ rfl
      have c1 : wr.cell? ⟨g, o + l.length * 5 + 1, none⟩ = some (.int .i64 e.seq) := hrow 1 _ rfl
      have c2 : wr.cell? ⟨g, o + l.length * 5 + 2, none⟩ = some (.int .i64 e.stamp) := hrow 2 _ rfl
      have c3 : wr.cell? ⟨g, o + l.length * 5 + 3, none⟩ = some (.string e.kind) := hrow 3 _ rfl
      have c4 : wr.cell? ⟨g, o + l.length * 5 + 4, none⟩ = some (.slice Af e.fields.length cf) := hrow 4 _ rfl
      have HE := Lib.hid (And.intro her (And.intro hev hbel))
      have HM := Lib.hid (And.intro hmap hp)
      clear her hev hbel hmap hp hrow
      go_wp2_with (first
        | (go_at_call 42
           refine (copied_any (e.num 0 0) _ _ _ ((HE.out.1.below HE.out.2.2).below ((Below.refl _ _).alloc (Nat.le_refl _) _)) hel).mono ?_
           rintro _ w2 ⟨v', rfl, hr2, hb2⟩
           have hb0 := ((Below.refl wr.heap.size wr).alloc (Nat.le_refl _) (Obj.cells #[Value.int IntKind.i64 0, Value.int IntKind.i64 0, Value.int IntKind.i64 e.stamp, Value.string e.kind, Value.slice Af e.fields.length cf] 31)).trans (hb2.mono (by simp))
           have hs0 := HE.out.2.2.size
           have hs1 := hb0.size)
        | (at_builtin
           refine Mem.append_one rfl (.tmp 19) (.tmp 22) 77 rfl w.heap.size 31 i0 _ 5 64 Try.underlying77 hi hz0 hz1 hz2 rfl (by decide) w2 _ l.length (evs l) (by rfl) (Evs.below HE.out.2.1 hb0).1 [.int .i64 (e.num 0 0).session, .int .i64 (e.num 0 0).seq, .int .i64 (e.num 0 0).stamp, .string (e.num 0 0).kind, v'] rfl (by intro u hu; simp only [List.mem_cons, List.not_mem_nil, or_false] at hu; rcases hu with rfl | rfl | rfl | rfl | rfl <;> first | rfl | (obtain ⟨A2, cap2, rfl⟩ := hr2.slice; rfl)) (by rfl) (by unfold maxLen; omega) (by omega) (by omega) ?_
           intro v3 w3 hown3 hg3 ho3))
      go_roundw
      case rel =>
        refine ⟨l ++ [(e.num 0 0, v')], by simp; omega, by simp, Evs.added HE.out.2.1 HE.out.2.2.size hb0 (hr2.mono (fun k hk => by simp at hk; omega)) hg3 hown3 ho3, ?_, ?_⟩
        · obtain ⟨hmap, hp⟩ := HM.out
          rw [List.map_append, hmap, List.length_append, List.length_singleton, List.take_add_one, hp, List.map_append]
          rfl
        · exact Below.grown ((HE.out.2.2.trans (hb0.mono HE.out.2.2.size)).alloc (by omega) _) hg3 (by simp; omega) (fun k hk => (HE.out.2.1.1.lt k hk).1)
      case measure => simp [intOf]; try omega
    · have hk' : l.length = t.refused.length := by omega
      have HE := Lib.hid (And.intro hev (And.intro hmap hbel))
      clear hev hmap hbel
      go_wp2_with fail
      go_ret
      obtain ⟨hev, hmap, hbel⟩ := HE.out
      exact ⟨_, l, rfl, hev, by rw [hmap, hk', List.take_length], hbel⟩
end Go.Proofs.Ytbiicflcjipeeaa
