/- What a reader got, as a row of one's own. -/
import Derived.Test.YtbiicflcjipeeaaRd3
namespace Go.Proofs.Ytbiicflcjipeeaa
open Go.RowKit
set_option linter.unusedSimpArgs false
set_option linter.unusedVariables false
attribute [local go_sem] Mem.run_store_float Mem.After.cell
/-- A match's number and its picks. -/
def gv (p : Int × Value × List Int) : Int × List Int := (p.1, p.2.2)
/-- Matches of one's own: the row and each one's picks lie from B on. -/
def Gots (w : World) (B : Nat) (v : Value) (l : List (Int × Value × List Int)) : Prop := Qu.QRow w B 72 2 v l.length (gots l) ∧ ∀ p ∈ l, IntsR w (fun k => B ≤ k ∧ some k ≠ v.ownBlock) p.2.1 p.2.2
theorem Gots.nil (w : World) (B : Nat) : Gots w B (.slice none 0 0) [] := ⟨Qu.q_of_own (World.ownsRow_nil _ _ _ _), fun p hp => by simp at hp⟩
theorem Gots.below {w w1 : World} {B : Nat} {v : Value} {l : List (Int × Value × List Int)} (h : Gots w B v l) (hb : Below w.heap.size w w1) : Gots w1 B v l := ⟨Qu.q_move h.1 (fun k hk => hb.block k (Qu.q_lt h.1 k hk)), fun p hp => (h.2 p hp).below hb⟩
theorem Gots.added {w w2 w3 : World} {B : Nat} {v v3 v' : Value} {l : List (Int × Value × List Int)} {n : Int} {pl : List Int} {o : Obj} (h : Gots w B v l) (hB : B ≤ w.heap.size) (hbl : Below w.heap.size w w2) (hr2 : IntsR w2 (fun k => w.heap.size ≤ k) v' pl)
    (hg3 : (w2.alloc o).grownBy w3 v.ownBlock) (hq3 : Qu.QRow w3 B 72 2 v3 (l.length + 1) (gots l ++ gotC (n, v', pl))) (ho3 : v3.ownBlock = v.ownBlock ∨ ∃ b, v3.ownBlock = some b ∧ (w2.alloc o).heap.size ≤ b) : Gots w3 B v3 (l ++ [(n, v', pl)]) := by
  obtain ⟨hw, hf⟩ := h
  have s2 := hbl.size
  have s3 : w2.heap.size + 1 ≤ w3.heap.size := by have := hg3.size; simpa using this
  have lw : ∀ k, v.ownBlock = some k → k < w.heap.size := fun k hk => Qu.q_lt hw k hk
  have blk2 : ∀ k, k < w2.heap.size → some k ≠ v.ownBlock → w3.heap[k]? = w2.heap[k]? := fun k hk h2 => (hg3.block k (by simp; omega) h2).trans (Below.heap_alloc w2 o k hk)
  have no3 : ∀ k, k < w2.heap.size → some k ≠ v.ownBlock → some k ≠ v3.ownBlock := fun k hk h1 h2 => by
    rcases ho3 with h | ⟨g, hg, hgl⟩
    · exact h1 (h2.trans h)
    · rw [hg] at h2
      have e1 : k = g := by simpa using h2
      have e2 : w2.heap.size + 1 ≤ g := by simpa using hgl
      omega
  refine ⟨by rw [gots_snoc, List.length_append]; exact hq3, fun p hp => ?_⟩
  rcases List.mem_append.1 hp with hp | hp
  · exact ((hf p hp).lt.step (by omega) (fun k hk hl => (blk2 k (by omega) hk.1.2).trans (hbl.block k hk.2))).mono (fun k hk => ⟨hk.1.1, no3 k (by have := hk.2; omega) hk.1.2⟩)
  · have : p = (n, v', pl) := by simpa using hp
    subst this
    have nv : ∀ k, w.heap.size ≤ k → some k ≠ v.ownBlock := fun k hk h => by have := lw k h.symm; omega
    exact (hr2.lt.step (by omega) (fun k hk hl => blk2 k hk.2 (nv k hk.1))).mono (fun k hk => ⟨by have := hk.1; omega, no3 k hk.2 (nv k hk.1)⟩)
set_option maxRecDepth 100000 in
set_option maxHeartbeats 4000000 in
theorem RdGot_any (S : Nat → Prop) (b : Nat) (r : Rr) (w : World) (h : ReaderAt w S b r) (hn : r.got.length ≤ 100000) :
    Calls Try.prog 26 #[.pointer (some ⟨b, 0, none⟩)] w fun e w' => ∃ v l, e = .returned v ∧ Gots w' w.heap.size v l ∧ l.map gv = r.got.map gv ∧ Below w.heap.size w w' := by
  obtain ⟨q, vg, hb, hq, sb, sq, hne, hw, dw, hff⟩ := h
  obtain ⟨Ar, cr, rfl, hcr⟩ := Qu.q_slice hw
  have b5 := Mem.cell hb (j := 5) rfl
  have hwr : Mem.Rd w _ 2 _ (r.got.map gotC) := Rd_of_q (rows := r.got.map gotC) hw (by simp) (gotC_rows r.got)
  have HR := Lib.hid hwr
  have HF := Lib.hid hff
  clear hb hq hw dw hff hwr
  obtain ⟨i0, hi, hz0, hz1, hz2⟩ := info_parts info_got
  go_enter Try.func26, Try.ntmps26
  go_wp2_with fail
  go_loopw [3, 13] (fun v i wr => ∃ l : List (Int × Value × List Int), l.length ≤ r.got.length ∧ i = .int .i64 l.length ∧ Gots wr w.heap.size v l ∧ l.map gv = (r.got.take l.length).map gv ∧ Below w.heap.size w wr) (fun _ i _ => r.got.length - (intOf i).toNat)
  case atStart => exact ⟨[], Nat.zero_le _, rfl, Gots.nil _ _, rfl, Below.refl _ _⟩
  case round =>
    obtain ⟨l, hk, rfl, hev, hmap, hbel⟩ := hrel
    by_cases hlt : l.length < r.got.length
    · obtain ⟨⟨n, pv, pl⟩, hp⟩ : ∃ p, r.got[l.length]? = some p := ⟨_, List.getElem?_eq_getElem hlt⟩
      obtain ⟨g, o, rfl, hg, hgl, hrow⟩ := (Mem.Rd.below HR.out hbel).row (k := l.length) (r := gotC (n, pv, pl)) (by rw [List.getElem?_map, hp]; rfl)
      have her : IntsR w _ pv pl := HF.out (n, pv, pl) (List.mem_of_getElem? hp)
      obtain ⟨Af, cf, rfl⟩ := her.slice
      obtain ⟨Av, cv, rfl, hcv⟩ := Qu.q_slice hev.1
      have c0 : wr.cell? ⟨g, o + l.length * 2, none⟩ = some (.int .i64 n) := hrow 0 _ rfl
      have c1 : wr.cell? ⟨g, o + l.length * 2 + 1, none⟩ = some (.slice Af pl.length cf) := hrow 1 _ rfl
      have hbX := (Below.refl wr.heap.size wr).alloc (Nat.le_refl _) (.cells #[.int .i64 n, .slice Af pl.length cf] 72)
      have hX := Mem.new wr (.cells #[.int .i64 n, .slice Af pl.length cf] 72)
      have HE := Lib.hid (And.intro her (And.intro hev hbel))
      have HM := Lib.hid (And.intro hmap hp)
      have HX := Lib.hid (And.intro hbX hX)
      have hszw := hbel.size
      clear her hev hbel hmap hp hrow hbX hX
      go_wp2_with fail
      go_region_law (first
        | (refine step_goes rfl rfl Try.func49 (by kernel_rfl) rfl #[.slice Af pl.length cf] (by simp [Act.eval]) ?_
           refine (CloneI_any pl _ _ _ ((HE.out.1.below HE.out.2.2).below (HX.out.1.trans (Below.refl _ _).drew))).mono ?_
           rintro _ w2 ⟨v', rfl, hr2, hb2⟩
           obtain ⟨A2, c2, rfl⟩ := hr2.slice
           have hb0 : Below wr.heap.size wr w2 := HX.out.1.trans (Below.trans (Below.refl _ _).drew (hb2.mono (by simp)))
           have hX2 := (hb2.block wr.heap.size (by simp)).trans HX.out.2
           have x20 := Mem.cell hX2 (j := 0) rfl
           have hs1 := hb0.size
           refine ⟨_, rfl, ?_⟩)
        | (refine step_q_append rfl (.tmp 17) (.tmp 26) 67 rfl w.heap.size 72 i0 _ 2 32 Try.underlying67 hi hz0 hz1 hz2 rfl (by decide) _ l.length (gots l) (by rfl) (Qu.q_move (Gots.below HE.out.2.1 hb0).1 (fun k hk => Below.heap_alloc w2 _ k (Qu.q_lt (Gots.below HE.out.2.1 hb0).1 k hk))) ⟨w2.heap.size, 0, none⟩ 1 1 (gotC (n, .slice A2 pl.length c2, pl)) (by rfl) rfl (World.news_of_block (Mem.new w2 _)) (by intro u hu; simp only [gotC, List.mem_cons, List.not_mem_nil, or_false] at hu; rcases hu with rfl | rfl <;> rfl) (by decide) (by unfold maxLen; omega) (by omega) (by simp; omega) ?_
           intro v3 w3 hq3 hg3 ho3))
      all_goals
        go_wp2_with fail
        go_roundw
        case rel =>
          refine ⟨l ++ [(n, .slice A2 pl.length c2, pl)], by simp; omega, by simp, Gots.added HE.out.2.1 HE.out.2.2.size hb0 (hr2.mono (fun k hk => by simp at hk; omega)) hg3 hq3 ho3, ?_, ?_⟩
          · obtain ⟨hmap, hp⟩ := HM.out
            rw [List.map_append, hmap, List.length_append, List.length_singleton, List.take_add_one, hp, List.map_append]
            rfl
          · exact Below.grown ((HE.out.2.2.trans (hb0.mono HE.out.2.2.size)).alloc (by omega) _) hg3 (by simp; omega) (fun k hk => (Qu.q_typed HE.out.2.1.1 k hk).1)
        case measure => simp [intOf]; try omega
    · have hk' : l.length = r.got.length := by omega
      have HE := Lib.hid (And.intro hev (And.intro hmap hbel))
      clear hev hmap hbel
      go_wp2_with fail
      go_ret
      obtain ⟨hev, hmap, hbel⟩ := HE.out
      exact ⟨_, l, rfl, hev, by rw [hmap, hk', List.take_length], hbel⟩
set_option maxRecDepth 100000 in
set_option maxHeartbeats 2000000 in
theorem NewReader_no (nodes most : Int) (name : ByteArray) (w : World) (hs : name.size ≤ 140737488351232) (h : (nodes < 1 ∨ 7 < nodes) ∨ (1 ≤ nodes ∧ nodes ≤ 7 ∧ wordB name = false) ∨ (1 ≤ nodes ∧ nodes ≤ 7 ∧ wordB name = true ∧ most < 1)) :
    Calls Try.prog 17 #[.int .i64 nodes, .string name, .int .i64 most] w fun e w' => e = .returned (.pointer none) ∧ Below w.heap.size w w' := by
  rcases h with h | ⟨h1, h7, hw⟩ | ⟨h1, h7, hw, hm⟩
  · have HH := Lib.hid h
    clear h
    go_enter Try.func17, Try.ntmps17
    go_wp2_with (go_at_call 38; refine (some_no nodes _ HH.out).mono ?_; rintro _ w1 ⟨rfl, rfl⟩)
    go_ret
    exact ⟨rfl, Below.refl _ _⟩
  · have HW := Lib.hid hw
    clear hw
    go_enter Try.func17, Try.ntmps17
    go_wp2_with (first
      | (go_at_call 38; refine (some_yes nodes _ h1 h7).mono ?_; rintro _ w1 ⟨rfl, rfl⟩)
      | (go_at_call 48; refine (Word_no name _ hs HW.out).mono ?_; rintro _ w2 ⟨rfl, rfl⟩))
    go_ret
    exact ⟨rfl, Below.refl _ _⟩
  · have HW := Lib.hid hw
    clear hw
    go_enter Try.func17, Try.ntmps17
    go_wp2_with (first
      | (go_at_call 38; refine (some_yes nodes _ h1 h7).mono ?_; rintro _ w1 ⟨rfl, rfl⟩)
      | (go_at_call 48; refine (Word_yes name _ hs HW.out).mono ?_; rintro _ w2 ⟨rfl, hw2⟩; have hw3 := hw2.symm; subst hw3))
    go_ret
    exact ⟨rfl, Below.refl _ _⟩
set_option maxRecDepth 100000 in
set_option maxHeartbeats 2000000 in
theorem NewReader_yes (nodes most : Int) (name : ByteArray) (w : World) (hs : name.size ≤ 140737488351232) (h1 : 1 ≤ nodes) (h7 : nodes ≤ 7) (hw : wordB name = true) (hm : 1 ≤ most) :
    Calls Try.prog 17 #[.int .i64 nodes, .string name, .int .i64 most] w fun e w' => ∃ b, e = .returned (.pointer (some ⟨b, 0, none⟩)) ∧ Below w.heap.size w w' ∧ w.heap.size ≤ b ∧ ReaderAt w' (fun k => w.heap.size ≤ k ∧ k < w'.heap.size) b ⟨nodes, 0, name, most, 0, 0, []⟩ := by
  have HW := Lib.hid hw
  clear hw
  go_enter Try.func17, Try.ntmps17
  go_wp2_with (first
    | (go_at_call 38; refine (some_yes nodes _ h1 h7).mono ?_; rintro _ w1 ⟨rfl, rfl⟩)
    | (go_at_call 48; refine (Word_yes name _ hs HW.out).mono ?_; rintro _ w2 ⟨rfl, hw2⟩; have hw3 := hw2.symm; subst hw3))
  go_ret
  refine ⟨w.heap.size + 1, rfl, ((Below.refl _ _).alloc (Nat.le_refl _) _).alloc (by simp) _, by omega, w.heap.size, .slice none 0 0, Mem.new_at _ (by simp), Mem.old (Mem.new _ _) _, ⟨by omega, by simp⟩, ⟨by omega, by simp; omega⟩, by omega, Qu.q_of_own (World.ownsRow_nil _ _ _ _), ?_, ?_⟩
  · intro k hk; simp [Value.ownBlock] at hk
  · intro p hp; simp at hp
end Go.Proofs.Ytbiicflcjipeeaa
