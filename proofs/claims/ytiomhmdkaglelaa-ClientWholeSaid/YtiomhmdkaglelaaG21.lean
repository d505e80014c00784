/- The walk of the law ClientWhole. -/
import Derived.Test.YtiomhmdkaglelaaG20
namespace Go.Proofs.Ytiomhmdkaglelaa
open Go.RowKit
set_option linter.unusedSimpArgs false
set_option linter.unusedVariables false
attribute [local go_sem] Mem.run_store_float Mem.After.cell
/-- An act, as the law reads it. -/
def WAct (r : List Value) : Prop := ∃ x le n : Int, r[0]? = some (.int .i64 x) ∧ r[8]? = some (.int .i64 le) ∧ r[9]? = some (.int .i64 n)
theorem tmod_in (a m : Int) (hm : 0 < m) : -m < a.tmod m ∧ a.tmod m < m := by
  have h := Int.natAbs_tmod a m
  have h2 : (a.tmod m).natAbs < m.natAbs := by rw [h]; exact Nat.mod_lt _ (by omega)
  omega
/-- How many matches a reader asks for. -/
theorem most_in (x : Int) : ∃ m : Nat, 1 ≤ m ∧ m ≤ 9 ∧ wrap64 (1 + (wrap64 (x.tmod 9 + 9)).tmod 9) = (m : Int) := by
  have h := tmod_in x 9 (by omega)
  have e : wrap64 (x.tmod 9 + 9) = x.tmod 9 + 9 := by unfold wrap64; omega
  rw [e]
  have h0 : (x.tmod 9 + 9).tmod 9 = (x.tmod 9 + 9) % 9 := Int.tmod_eq_emod_of_nonneg (by omega)
  rw [h0]
  exact ⟨(1 + (x.tmod 9 + 9) % 9).toNat, by omega, by omega, by unfold wrap64; omega⟩
/-- Which node hears of all. -/
theorem lead_in (x : Int) : (wrap64 (x.tmod 3 + 3)).tmod 3 = 0 ∨ (wrap64 (x.tmod 3 + 3)).tmod 3 = 1 ∨ (wrap64 (x.tmod 3 + 3)).tmod 3 = 2 := by
  have h := tmod_in x 3 (by omega)
  have e : wrap64 (x.tmod 3 + 3) = x.tmod 3 + 3 := by unfold wrap64; omega
  rw [e]
  have h0 : (x.tmod 3 + 3).tmod 3 = (x.tmod 3 + 3) % 3 := Int.tmod_eq_emod_of_nonneg (by omega)
  rw [h0]
  omega
theorem info_str : (Try.prog.info? 9).map (fun i => (i.zero, i.size, i.bytes)) = some (some (.string ⟨#[]⟩), 1, 16) := by kernel_rfl
/-- A row of one int that was just laid. -/
theorem ints_one (w : World) (n : Int) (t : TypeId) : IntsR (w.alloc (.cells #[.int .i64 n] t)) (fun _ => True) (.slice (some ⟨w.heap.size, 0, none⟩) 1 1) [n] := by
  refine ⟨⟨some ⟨w.heap.size, 0, none⟩, 1, rfl, by simp, by omega, fun _ => ⟨_, _, rfl, trivial, by simp⟩, fun g o e k i r c hr hc => ?_⟩, by simp⟩
  cases e
  have hk : k = 0 := by
    have := (List.getElem?_eq_some_iff.1 hr).1
    simp at this
    omega
  subst hk
  have hr' : intc n = r := by simpa using hr
  subst hr'
  have hi : i = 0 := by
    have := (List.getElem?_eq_some_iff.1 hc).1
    simp [intc] at this
    omega
  subst hi
  have hc' : Value.int .i64 n = c := by simpa [intc] using hc
  subst hc'
  exact ⟨by omega, Mem.cell (Mem.new w (.cells #[.int .i64 n] t)) rfl⟩
theorem wordP : wordB ⟨#[112]⟩ = true := by
  refine wordB_iff.2 ⟨fun i h => ?_, by decide, by decide⟩
  have h' : i < 1 := h
  obtain rfl : i = 0 := by omega
  exact .inl ⟨by show 97 ≤ 112; omega, by show 112 ≤ 122; omega⟩
theorem own_slice {w : World} {B n : Nat} {e : TypeId} {v : Value} {xs : List Value} (h : w.ownsRow B e 1 v n xs) : ∃ A c, v = .slice A n c := by
  rcases h.2 with ⟨rfl, rfl⟩ | ⟨g, cap, cur, rfl, _⟩
  · exact ⟨_, _, rfl⟩
  · exact ⟨_, _, rfl⟩
/-- What stands ahead of the text's writing. -/
def Tail_ (w W : World) (b nb m b1 k : Nat) (va : Value) : Prop := ∃ (S : Nat → Prop) (s : Rs) (z a : Nat) (n0 n1 n2 : Nat × Nat) (SB : Nat → Prop) (L : List (Value × List Int)), Wh w W S b nb (m : Int) s va z a n0 n1 n2 (k + 1) ∧ BookAt W SB b1 ⟨(a : Int), L⟩ ∧ (∀ j, SB j → j < W.heap.size) ∧ Std a L ∧ a + L.length = z
theorem lead_nat (x : Int) : ∃ j : Nat, j < 3 ∧ (wrap64 (x.tmod 3 + 3)).tmod 3 = (j : Int) := by
  rcases lead_in x with h | h | h
  · exact ⟨0, by omega, h⟩
  · exact ⟨1, by omega, h⟩
  · exact ⟨2, by omega, h⟩
/-- The j-th node's text. -/
theorem nd_cell {W : World} {nb j z : Nat} {n0 n1 n2 : Nat × Nat} (h : W.heap[nb]? = some (.cells (ndc n0 n1 n2) 30 (0, 0))) (hj : j < 3) (h0 : okN n0 z) (h1 : okN n1 z) (h2 : okN n2 z) : ∃ nq : Nat × Nat, okN nq z ∧ W.cell? ⟨nb, j, none⟩ = some (.string (btx nq.1 nq.2)) := by
  obtain rfl | rfl | rfl : j = 0 ∨ j = 1 ∨ j = 2 := by omega
  · exact ⟨n0, h0, Mem.cell h rfl⟩
  · exact ⟨n1, h1, Mem.cell h rfl⟩
  · exact ⟨n2, h2, Mem.cell h rfl⟩
theorem nd_set {j z : Nat} {n0 n1 n2 m : Nat × Nat} (hj : j < 3) (h0 : okN n0 z) (h1 : okN n1 z) (h2 : okN n2 z) (hm : okN m z) : ∃ m0 m1 m2 : Nat × Nat, (ndc n0 n1 n2).setIfInBounds j (.string (btx m.1 m.2)) = ndc m0 m1 m2 ∧ okN m0 z ∧ okN m1 z ∧ okN m2 z := by
  obtain rfl | rfl | rfl : j = 0 ∨ j = 1 ∨ j = 2 := by omega
  · exact ⟨m, n1, n2, rfl, hm, h1, h2⟩
  · exact ⟨n0, m, n2, rfl, h0, hm, h2⟩
  · exact ⟨n0, n1, m, rfl, h0, h1, hm⟩
theorem told_nodes (s : Rs) (L : List (Value × List Int)) (n e : Int) : (s.told L n e).nodes = s.nodes := by
  unfold Rs.told
  split
  · rfl
  · split
    · rfl
    · rfl
def WRel (w : World) (b nb m len : Nat) (va text i : Value) (wr : World) : Prop := ∃ (k : Nat) (S : Nat → Prop) (s : Rs) (z a : Nat) (n0 n1 n2 : Nat × Nat), k ≤ len ∧ k ≤ 150 ∧ i = .int .i64 (k : Int) ∧ text = .string (btx a (z - a)) ∧ Wh w wr S b nb (m : Int) s va z a n0 n1 n2 k
set_option maxRecDepth 100000 in
set_option maxHeartbeats 8000000 in
theorem whole_any (most : Int) (v : Value) (rs : List (List Value)) (w : World) (hR : Mem.Rd w (fun g => g < w.heap.size) 11 v rs) (hA : ∀ r ∈ rs, WAct r) (hl : rs.length ≤ 4611686018427387904) :
    Calls Try.prog 3 #[v, .int .i64 most] w fun r w' => r = .returned (.bool true) ∧ Below w.heap.size w w' := by
  obtain ⟨A, cap, rfl⟩ := hR.slice
  have HR := Lib.hid (And.intro hR hA)
  clear hR hA
  have hl' : ((rs.length : Nat) : Int) ≤ 4611686018427387904 := by omega
  go_enter Try.func3, Try.ntmps3
  go_wp2_with fail
  obtain ⟨m, hm1, hm9, hme⟩ := most_in most
  rw [hme]
  have HM := Lib.hid (And.intro hm1 hm9)
  clear hme hm1 hm9
  refine (NewReader_yes 3 (m : Int) ⟨#[112]⟩ _ (by decide) (by omega) (by omega) wordP (by have := HM.out; omega)).mono ?_
  rintro _ w1 ⟨b, rfl, hb1, hbb, hr1⟩
  have HR1 := Lib.hid (And.intro hb1 (And.intro hbb hr1))
  clear hb1 hbb hr1
  go_wp2_with (go_at_call 5; refine (awake_any _).mono ?_; rintro _ w2 ⟨rfl, hb2⟩)
  refine (BkNew_any _).mono ?_
  rintro _ w3 ⟨k3, rfl, hk3, hb3⟩
  go_wp2_with fail
  refine (BkText_any _ k3 0 [] _ hk3 (fun j hj => hj.2) (Std.nil _) (by simp)).mono ?_
  rintro _ w4 ⟨rfl, hb4⟩
  have hB4 : Below w1.heap.size w1 w4 := (hb2.trans (hb3.mono hb2.size)).trans (hb4.mono (by have := hb2.size; have := hb3.size; omega))
  have hW : ∃ S, Wh w (w4.alloc (.cells (ndc (0, 0) (0, 0) (0, 0)) 30)) S b w4.heap.size (m : Int) ⟨3, 0, 0, 0, []⟩ (.slice none 0 0) 0 0 (0, 0) (0, 0) (0, 0) 0 := by
    obtain ⟨hb1, hbb, hr1⟩ := HR1.out
    have hbA : Below w1.heap.size w1 (w4.alloc (.cells (ndc (0, 0) (0, 0) (0, 0)) 30)) := hB4.trans (((Below.refl _ _).alloc (Nat.le_refl _) _).mono hB4.size)
    have hz1 := hb1.size
    have hz4 := hB4.size
    exact ⟨fun k => w.heap.size ≤ k ∧ k < w1.heap.size, ⟨by show (1 : Int) ≤ 3; omega, by show (3 : Int) ≤ 7; omega, by show (0 : Int) ≤ 0; omega, by show (0 : Int) < 3; omega, by show (0 : Int) ≤ 0; omega, by show (0 : Int) ≤ 0; omega, by show (0 : Int) ≤ _; omega, by simp⟩, rfl, ⟨[], hr1.below hbA, rfl⟩,
      fun j hj => ⟨hj.1, by simp; omega, by omega, by simp [Value.ownBlock]⟩, Mem.new _ _, by omega, by simp [Value.ownBlock], World.ownsRow_nil _ _ _ _, Nat.le_refl _, Nat.le_refl _, by omega, ⟨by simp, by simp⟩, ⟨by simp, by simp⟩, ⟨by simp, by simp⟩, ⟨by show (0 : Int) ≤ 0; omega, by simp, by simp⟩, hb1.trans (hbA.mono hz1)⟩
  have HW := Lib.hid hW
  clear hW hB4 hb4 hb3 hk3 hb2 HR1
  go_wp2_with fail
  obtain ⟨S0, hW0⟩ := HW.out
  have HW0 := Lib.hid hW0
  clear hW0 HW
  obtain ⟨nb, hnb⟩ : ∃ nb, w4.heap.size = nb := ⟨_, rfl⟩
  have hB0 := HW0.out.bl
  rw [hnb] at HW0 ⊢
  clear hnb hB0
  go_loopw [6, 7, 9] (fun va text i wr => WRel w b nb m rs.length va text i wr) (fun _ _ i _ => rs.length - (intOf i).toNat)
  case atStart => exact ⟨0, S0, _, 0, 0, _, _, _, Nat.zero_le _, Nat.zero_le _, rfl, rfl, HW0.out⟩
  case round =>
    obtain ⟨k, S, s, z, a, n0, n1, n2, hk, hk2, rfl, rfl, hw⟩ := hrel
    obtain ⟨Aq, cq, rfl⟩ := own_slice hw.own
    have HX := Lib.hid hw
    clear hw
    by_cases hlt : k < rs.length
    · by_cases hlt3 : k < 150
      · obtain ⟨r, hr⟩ : ∃ r, rs[k]? = some r := ⟨_, List.getElem?_eq_getElem hlt⟩
        obtain ⟨g, o, rfl, hgB, hgl, hrow⟩ := HR.out.1.row hr
        obtain ⟨x, le, n, r0, r8, r9⟩ := HR.out.2 r (List.mem_of_getElem? hr)
        have hlt' : (k : Int) < (rs.length : Int) := by omega
        have hlt3' : (k : Int) < 150 := by omega
        have q0 := hrow 0 _ r0
        have q8 := hrow 8 _ r8
        have q9 := hrow 9 _ r9
        have hcl := fun (W : World) (hW : Below w.heap.size w W) => And.intro ((hW.cell (p := ⟨g, o + k * 11 + 0, none⟩) hgB).trans q0) (And.intro ((hW.cell (p := ⟨g, o + k * 11 + 8, none⟩) hgB).trans q8) ((hW.cell (p := ⟨g, o + k * 11 + 9, none⟩) hgB).trans q9))
        have HC := Lib.hid hcl
        clear hrow q0 q8 q9 r0 r8 r9 hr hcl
        have hload := BkLoad_any a (z - a) wr (by have := HX.out.az; have := HX.out.zk; omega) HX.out.zc
        have HLd := Lib.hid hload
        clear hload
        go_wp2_with fail
        refine HLd.out.mono ?_
        rintro _ W1 ⟨p, rfl, b1, v1, L1, rfl, hBO, hstd, hLl, hbl⟩
        have hX1 := HX.out.below hbl
        obtain ⟨c0', c8, c9⟩ := HC.out W1 hX1.bl
        have c0 : W1.cell? ⟨g, o + k * 11, none⟩ = some (.int .i64 x) := c0'
        clear c0'
        have H1 := Lib.hid (And.intro hX1 (And.intro hBO (And.intro hstd (And.intro hLl hbl))))
        clear hX1 hBO hstd hLl hbl HLd
        have hx : (x ≠ 0 ∧ x ≠ 1 ∧ x ≠ 2 ∧ x ≠ 3 ∧ x ≠ 4) ∨ x = 0 ∨ x = 1 ∨ x = 4 ∨ x = 2 ∨ x = 3 := by omega
        have hbk1 := H1.out.2.1.at_
        have hz1 := H1.out.2.2.2.2.size
        have hal : a + L1.length = z := by have := H1.out.2.2.2.1; have := H1.out.1.az; omega
        have hz150 : z ≤ 150 := by have := H1.out.1.zk; omega
        have HB1 := Lib.hid (And.intro hbk1 (And.intro hz1 (And.intro hal hz150)))
        clear hbk1 hz1 hal hz150
        rcases hx with ⟨x0, x1, x2, x3, x4⟩ | rfl | rfl | rfl | hx23
        case' inl =>
          have y0 : (x == 0) = false := by simpa using x0
          have y1 : (x == 1) = false := by simpa using x1
          have y2 : (x == 2) = false := by simpa using x2
          have y3 : (x == 3) = false := by simpa using x3
          have y4 : (x == 4) = false := by simpa using x4
          clear x0 x1 x2 x3 x4
          go_wp2_with fail
          have HT : Hid (Tail_ w W1 b nb m b1 k (.slice Aq z cq)) := Lib.hid ⟨_, _, _, _, _, _, _, _, _, H1.out.1.more, HB1.out.1, fun j hj => hj.2, H1.out.2.2.1, HB1.out.2.2.1⟩
          generalize W1 = W9 at HT ⊢
        case' inr.inl =>
          go_wp2_with fail
          have hlx := (Below.refl W1.heap.size W1).alloc (Nat.le_refl _) (.cells #[.int .i64 (z : Int)] 3)
          refine (BkPut_any wr.heap.size b1 a 1 z (some ⟨W1.heap.size, 0, none⟩) (fun _ => True) v1 L1 _ (H1.out.2.1.below hlx) H1.out.2.2.1 (by have := H1.out.2.2.2.1; have := H1.out.1.zc; omega) HB1.out.2.2.1 (by have := HB1.out.2.2.2; omega) (by have := HB1.out.2.1; simp; omega) (ints_one W1 (z : Int) 3)).mono ?_
          rintro _ W2 ⟨rfl, k', L2, hbk2, hstd2, hlen2, hl64, hbel2⟩
          have hb2w : Below wr.heap.size wr W2 := (H1.out.2.2.2.2.trans (hlx.mono HB1.out.2.1)).trans hbel2
          have H2 := Lib.hid (And.intro hb2w (And.intro hbk2 (And.intro hstd2 (And.intro hlen2 hl64))))
          have hown2 := (HX.out.below hb2w).own
          have HO2 := Lib.hid hown2
          clear hb2w hbk2 hstd2 hlen2 hl64 hbel2 hlx hown2
          obtain ⟨i0, hi, hz0, hz1, hz2⟩ := info_parts info_str
          go_wp2_with (at_builtin; refine wpList_append_own_at _ rfl (.tmp 70) (.tmp 71) 26 rfl w.heap.size 9 i0 (.string ⟨#[]⟩) 1 16 Try.underlying26 hi hz0 hz1 hz2 rfl (by decide) _ z (List.replicate z (.string ⟨#[]⟩)) rfl (HO2.out.kept (World.grownBy_alloc W2 _ none) (by cases hv : (Value.slice Aq z cq).ownBlock <;> simp)) ⟨W2.heap.size, 0, none⟩ 1 1 [.string ⟨#[]⟩] rfl rfl (cell_one_new _ _ _) (by simp [Value.oneCell']) (by unfold maxLen; have := HB1.out.2.2.2; omega) (by have := HB1.out.2.2.2; omega) (by have := HX.out.bl.size; have := H2.out.1.size; simp; omega) ?_; intro va' W3 hown3 hg3 _ ho3)
          have hck := HX.out.more.came H2.out.1 hg3 hown3 (by rcases ho3 with h | h; exact .inl h; exact .inr ⟨_, h, by simp⟩) (.inr trivial) (by have := HX.out.zk; omega) (a' := a + k') (by have := H2.out.2.2.2.1; omega) (by have := H2.out.2.2.2.1; have := H2.out.2.2.2.2; omega)
          have hs3 : W2.heap.size ≤ W3.heap.size := by have := hg3.size; simp at this; omega
          have hbk3 : BookAt W3 (fun j => wr.heap.size ≤ j ∧ j < W2.heap.size) b1 ⟨((a + k' : Nat) : Int), L2⟩ := H2.out.2.1.step hs3 (fun j hj hl => (hg3.block j (by simp; omega) (fun e => by have := (HX.out.own.lt j e.symm).2; have := hj.1; omega)).trans (Below.heap_alloc _ _ _ hl)) (fun _ h => h)
          have HT : Hid (Tail_ w W3 b nb m b1 k va') := Lib.hid ⟨_, _, _, _, _, _, _, _, _, hck, hbk3, fun j hj => by have := hj.2; omega, H2.out.2.2.1, H2.out.2.2.2.1⟩
          clear hown3 hg3 ho3 hck hbk3 hs3
          generalize W3 = W9 at HT ⊢
        case' inr.inr.inl =>
          obtain ⟨j, hj3, hje⟩ := lead_nat le
          have hj3' : (j : Int) < 3 := by omega
          have hok : okN (a, z - a) z := ⟨by show a + (z - a) ≤ z; have := HX.out.az; omega, HX.out.zc⟩
          obtain ⟨nq, hnq, dq⟩ := nd_cell H1.out.1.nd hj3 H1.out.1.o0 H1.out.1.o1 H1.out.1.o2
          obtain ⟨m0, m1, m2, hms, ho0, ho1, ho2⟩ := nd_set hj3 H1.out.1.o0 H1.out.1.o1 H1.out.1.o2 hok
          have ef := Mem.free (j := j) H1.out.1.nd
          have c8' : W1.cell? ⟨g, o + k * 11 + 8, none⟩ = some (.int .i64 le) := c8
          have HOK := Lib.hid (And.intro hms (And.intro ho0 (And.intro ho1 ho2)))
          clear hok hnq hms ho0 ho1 ho2
          go_wp2_with fail
          have hw9 := H1.out.1.more.node (j := j) (t := .string (btx a (z - a))) HOK.out.1 HOK.out.2.1 HOK.out.2.2.1 HOK.out.2.2.2
          have hbk9 : BookAt (W1.setCell ⟨nb, j, none⟩ (.string (btx a (z - a)))) (fun i => wr.heap.size ≤ i ∧ i < W1.heap.size) b1 ⟨(a : Int), L1⟩ := HB1.out.1.step (by simp [World.setCell]) (fun i hi _ => Below.heap_setCell _ _ _ i (by show i ≠ nb; have := Mem.lt HX.out.nd; have := hi.1; omega)) (fun _ h => h)
          have HT : Hid (Tail_ w (W1.setCell ⟨nb, j, none⟩ (.string (btx a (z - a)))) b nb m b1 k (.slice Aq z cq)) := Lib.hid ⟨_, _, _, _, _, _, _, _, _, hw9, hbk9, fun i hi => by have := hi.2; simp [World.setCell]; exact this, H1.out.2.2.1, HB1.out.2.2.1⟩
          clear hw9 hbk9
          generalize W1.setCell ⟨nb, j, none⟩ (.string (btx a (z - a))) = W9 at HT ⊢
        case' inr.inr.inr.inl =>
          have c9' : W1.cell? ⟨g, o + k * 11 + 9, none⟩ = some (.int .i64 n) := c9
          go_wp2_with fail
          refine (BkForget_any _ b1 a n L1 W1 HB1.out.1 (fun j hj => hj.2) (by have := HX.out.az; have := HB1.out.2.2.2; omega) (by have := HB1.out.2.2; omega)).mono ?_
          rintro _ W2 ⟨e9, rfl, k', hk', hbk2, hch2⟩
          go_wp2_with fail
          have hb2w : Below wr.heap.size wr W2 := H1.out.2.2.2.2.trans (hch2.below (fun j h1 h2 => by have h3 : j = b1 := h2; have := H1.out.2.1.hB; omega) HB1.out.2.1)
          have hHT := (HX.out.below hb2w).more.text (a' := a + k') (by have := HB1.out.2.2.1; omega) (by have := HX.out.zc; omega)
          have HT : Hid (Tail_ w W2 b nb m b1 k (.slice Aq z cq)) := Lib.hid ⟨_, _, _, _, _, _, _, _, _, hHT, hbk2, fun j hj => by have := hj.2; have := hch2.size; omega, H1.out.2.2.1.drop k', by rw [List.length_drop]; have := HB1.out.2.2.1; omega⟩
          clear hb2w hHT hbk2 hch2
          generalize W2 = W9 at HT ⊢
        case' inr.inr.inr.inr =>
          obtain ⟨lg, hra, hlg⟩ := H1.out.1.pr
          have c23 : (x == 2 || x == 3) = true := by rcases hx23 with rfl | rfl <;> rfl
          obtain ⟨f, hf⟩ : ∃ f : Nat, s.at_ = (f : Int) := ⟨s.at_.toNat, by have := H1.out.1.inv.g0; have := H1.out.1.inv.g1; omega⟩
          obtain ⟨q, hq, hq3⟩ : ∃ q : Nat, s.to = (q : Int) ∧ q < 3 := ⟨s.to.toNat, by have := H1.out.1.inv.t0; omega, by have := H1.out.1.inv.t0; have := H1.out.1.inv.t1; have := H1.out.1.n3; omega⟩
          have hask := RdAsk_any S b _ W1 hra
          dsimp only at hask
          rw [hf, hq] at hask
          have hf150 : f ≤ 150 := by have := H1.out.1.good.fit; have := HB1.out.2.2.2; omega
          have HAK := Lib.hid hask
          have HFQ := Lib.hid (And.intro hf hf150)
          clear hask hra hlg hf hq hf150
          rcases hx23 with rfl | rfl
          case' inr.inr.inr.inr.inr =>
            go_wp2_with fail
            refine HAK.out.mono ?_
            rintro _ W2 ⟨rfl, hb2⟩
            have hX2 := HX.out.below (H1.out.2.2.2.2.trans (hb2.mono HB1.out.2.1))
            obtain ⟨nq, hnq, dq⟩ := nd_cell hX2.nd hq3 hX2.o0 hX2.o1 hX2.o2
            have dq' : ∀ o, (W2.alloc o).cell? ⟨nb, q, none⟩ = some (.string (btx nq.1 nq.2)) := fun o => (Below.cell ((Below.refl _ W2).alloc (Nat.le_refl _) o) (p := ⟨nb, q, none⟩) (Mem.lt hX2.nd)).trans dq
            have hq0' : ¬ (q : Int) < 0 := by omega
            have hq2' : ¬ (2 : Int) < (q : Int) := by omega
            have hq3' : (q : Int) < 3 := by omega
            have HX2 := Lib.hid (And.intro hX2 hb2)
            have HNQ := Lib.hid hnq
            clear hX2 hb2 hnq dq
            go_wp2_with fail
            refine (BkLoad_any _ _ _ (by have := HNQ.out.1; have := HB1.out.2.2.2; omega) HNQ.out.2).mono ?_
            rintro _ W5 ⟨p2, rfl, b2, v2, L2, rfl, hBO2, hstd2, hLl2, hbl2⟩
            have hgen : ∃ a2 c2 : Nat, BookO W5 _ b2 (a2 : Int) v2 L2 ∧ Std a2 L2 ∧ L2.length = c2 ∧ a2 + c2 ≤ z ∧ c2 ≤ 64 := ⟨_, _, hBO2, hstd2, hLl2, HNQ.out.1, HNQ.out.2⟩
            have hY5 := (hbl2.block W2.heap.size (by simp)).trans (Mem.new W2 _)
            have y3 := Mem.cell hY5 (j := 3) rfl
            have y4 := Mem.cell hY5 (j := 4) rfl
            have hb25 : Below W2.heap.size W2 W5 := ((Below.refl _ W2).alloc (Nat.le_refl _) _).trans (hbl2.mono (by simp))
            have hb15 : Below W1.heap.size W1 W5 := HX2.out.2.trans (hb25.mono HX2.out.2.size)
            have hb5 : Below wr.heap.size wr W5 := H1.out.2.2.2.2.trans (hb15.mono HB1.out.2.1)
            clear hBO2 hstd2 hLl2 hbl2 hY5
            obtain ⟨a2, c2, hBO2, hstd2, hLl2, hac2, hc64⟩ := hgen
            have hX5 := HX.out.below hb5
            have c05 : W5.cell? ⟨g, o + k * 11, none⟩ = some (.int .i64 3) := (HC.out W5 hX5.bl).1
            have H5 := Lib.hid (And.intro hX5 (And.intro hb5 (And.intro hBO2 (And.intro hstd2 (And.intro hLl2 (And.intro hac2 (And.intro hc64 hb15)))))))
            clear hX5 hb5 hBO2 hstd2 hLl2 hac2 hc64 hb25 hb15 dq' HX2
            go_wp2_with fail
            refine (late_pr H5.out.1.pr H5.out.1.inv).mono ?_
            rintro _ W6 ⟨rfl, hc6, hp6⟩
            have h6 := HX.out.act H5.out.2.1 hc6 hp6 (fun j hj => .inl hj) HX.out.inv.late HX.out.n3 HX.out.good.late
            have H6 := Lib.hid h6
            clear hc6 hp6 h6
            go_wp2_with fail
            go_roundw
            case rel => exact ⟨k + 1, S, s.late, z, a, n0, n1, n2, by omega, by omega, by go_num, rfl, H6.out⟩
            case measure => simp [intOf]; omega
          case' inr.inr.inr.inr.inl =>
            go_wp2_with fail
            refine HAK.out.mono ?_
            rintro _ W2 ⟨rfl, hb2⟩
            have hX2 := HX.out.below (H1.out.2.2.2.2.trans (hb2.mono HB1.out.2.1))
            obtain ⟨nq, hnq, dq⟩ := nd_cell hX2.nd hq3 hX2.o0 hX2.o1 hX2.o2
            have dq' : ∀ o, (W2.alloc o).cell? ⟨nb, q, none⟩ = some (.string (btx nq.1 nq.2)) := fun o => (Below.cell ((Below.refl _ W2).alloc (Nat.le_refl _) o) (p := ⟨nb, q, none⟩) (Mem.lt hX2.nd)).trans dq
            have hq0' : ¬ (q : Int) < 0 := by omega
            have hq2' : ¬ (2 : Int) < (q : Int) := by omega
            have hq3' : (q : Int) < 3 := by omega
            have HX2 := Lib.hid (And.intro hX2 hb2)
            have HNQ := Lib.hid hnq
            clear hX2 hb2 hnq dq
            go_wp2_with fail
            refine (BkLoad_any _ _ _ (by have := HNQ.out.1; have := HB1.out.2.2.2; omega) HNQ.out.2).mono ?_
            rintro _ W5 ⟨p2, rfl, b2, v2, L2, rfl, hBO2, hstd2, hLl2, hbl2⟩
            have hgen : ∃ a2 c2 : Nat, BookO W5 _ b2 (a2 : Int) v2 L2 ∧ Std a2 L2 ∧ L2.length = c2 ∧ a2 + c2 ≤ z ∧ c2 ≤ 64 := ⟨_, _, hBO2, hstd2, hLl2, HNQ.out.1, HNQ.out.2⟩
            have hY5 := (hbl2.block W2.heap.size (by simp)).trans (Mem.new W2 _)
            have y3 := Mem.cell hY5 (j := 3) rfl
            have y4 := Mem.cell hY5 (j := 4) rfl
            have hb25 : Below W2.heap.size W2 W5 := ((Below.refl _ W2).alloc (Nat.le_refl _) _).trans (hbl2.mono (by simp))
            have hb15 : Below W1.heap.size W1 W5 := HX2.out.2.trans (hb25.mono HX2.out.2.size)
            have hb5 : Below wr.heap.size wr W5 := H1.out.2.2.2.2.trans (hb15.mono HB1.out.2.1)
            clear hBO2 hstd2 hLl2 hbl2 hY5
            obtain ⟨a2, c2, hBO2, hstd2, hLl2, hac2, hc64⟩ := hgen
            have hX5 := HX.out.below hb5
            have c05 : W5.cell? ⟨g, o + k * 11, none⟩ = some (.int .i64 2) := (HC.out W5 hX5.bl).1
            have H5 := Lib.hid (And.intro hX5 (And.intro hb5 (And.intro hBO2 (And.intro hstd2 (And.intro hLl2 (And.intro hac2 (And.intro hc64 hb15)))))))
            clear hX5 hb5 hBO2 hstd2 hLl2 hac2 hc64 hb25 hb15 dq' HX2
            go_wp2_with fail
            by_cases hfa : f < a2
            case' pos =>
              refine (BkRead_gone _ b2 (a2 : Int) (f : Int) (m : Int) L2 W5 H5.out.2.2.1.at_ (by omega) (by omega) (by omega)).mono ?_
              rintro _ W6 ⟨rfl, hb6⟩
              have hw6 := HX.out.below (H5.out.2.1.trans (hb6.mono H5.out.2.1.size))
              have htold := told_pr (okL := fun _ => False) (a2 : Int) 180 hw6.pr hw6.inv (by omega) (fun j hj => (hw6.sS j hj).2.1) (Pks.nil W6 _) (fun _ h _ => h) (by simp) (by have := H5.out.2.2.2.2.2.1; have := HB1.out.2.2.2; omega)
              have hgood : Good (s.told [] (a2 : Int) 180) z := HX.out.good.gone (by have := HFQ.out.1; omega) (by have := H5.out.2.2.2.2.2.1; omega)
              have hinv : RInv (s.told [] (a2 : Int) 180) (k + 1) := HX.out.inv.told [] _ _ (by simp) (by have := H5.out.2.2.2.2.2.1; have := HB1.out.2.2.2; omega)
              have hnn : (s.told [] (a2 : Int) 180).nodes = 3 := (told_nodes _ _ _ _).trans HX.out.n3
              have H6 := Lib.hid (And.intro hb6 (And.intro htold (And.intro hgood (And.intro hinv hnn))))
              clear hb6 hw6 htold hgood hinv hnn
              generalize s.told [] (a2 : Int) 180 = s6 at H6
            case' neg =>
              refine (BkRead_ok _ b2 a2 f m L2 W5 H5.out.2.2.1.at_ (fun j hj => hj.2) H5.out.2.2.2.1 (by have := H5.out.2.2.2.2; omega) (by omega) (by have := HFQ.out.2; omega) (by have := HM.out; omega)).mono ?_
              rintro _ W6 ⟨v6, M6, rfl, hPk6, hstd6, hM6, hfit6, hb6⟩
              obtain ⟨A6, c6, rfl⟩ := hPk6.slice
              have hw6 := HX.out.below (H5.out.2.1.trans (hb6.mono H5.out.2.1.size))
              have hMz : M6 = [] ∨ f + M6.length ≤ z := by
                rcases hfit6 with h | h
                · exact .inl h
                · exact .inr (by have := H5.out.2.2.2.2; omega)
              have hM20 : M6.length ≤ 20 := by have := HM.out; omega
              have hn63 : (f : Int) + (M6.length : Int) ≤ 9223372036854775807 := by have := HFQ.out.2; omega
              have htold := told_pr (okL := fun j => W5.heap.size ≤ j) ((f : Int) + (M6.length : Int)) 0 hw6.pr hw6.inv (by omega) (fun j hj => (hw6.sS j hj).2.1) hPk6 (fun j hj hS => by have := (H5.out.1.sS j hS).2.1; omega) hM20 hn63
              have hgood : Good (s.told M6 ((f : Int) + (M6.length : Int)) 0) z := HX.out.good.told HFQ.out.1 hstd6 hMz
              have hinv : RInv (s.told M6 ((f : Int) + (M6.length : Int)) 0) (k + 1) := HX.out.inv.told M6 _ _ hM20 hn63
              have hnn : (s.told M6 ((f : Int) + (M6.length : Int)) 0).nodes = 3 := (told_nodes _ _ _ _).trans HX.out.n3
              have H6 := Lib.hid (And.intro hb6 (And.intro htold (And.intro hgood (And.intro hinv hnn))))
              clear hb6 hw6 htold hgood hinv hnn hPk6 hstd6 hM6 hfit6 hMz hM20 hn63
              generalize s.told M6 ((f : Int) + (M6.length : Int)) 0 = s6 at H6
            all_goals
              go_wp2_with fail
              refine H6.out.2.1.mono ?_
              rintro _ W7 ⟨rfl, hc7, hp7⟩
              go_wp2_with fail
              have hb6w : Below wr.heap.size wr W6 := H5.out.2.1.trans (H6.out.1.mono H5.out.2.1.size)
              have h7 := HX.out.act hb6w hc7 hp7 (fun j hj => hj) H6.out.2.2.2.1 H6.out.2.2.2.2 H6.out.2.2.1
              have hbk7 : BookAt W7 (fun j => wr.heap.size ≤ j ∧ j < W1.heap.size) b1 ⟨(a : Int), L1⟩ := HB1.out.1.step (Nat.le_trans (H5.out.2.2.2.2.2.2.2.size) (Nat.le_trans H6.out.1.size hc7.size)) (fun j hj hl => (hc7.block j (by have := H5.out.2.2.2.2.2.2.2.size; have := H6.out.1.size; omega) (fun hS => by have := (HX.out.sS j hS).2.1; have := hj.1; omega)).trans ((H6.out.1.block j (by have := H5.out.2.2.2.2.2.2.2.size; omega)).trans (H5.out.2.2.2.2.2.2.2.block j hl))) (fun _ h => h)
              have HT : Hid (Tail_ w W7 b nb m b1 k (.slice Aq z cq)) := Lib.hid ⟨_, _, _, _, _, _, _, _, _, h7, hbk7, fun j hj => by have := hj.2; have := H5.out.2.2.2.2.2.2.2.size; have := H6.out.1.size; have := hc7.size; omega, H1.out.2.2.1, HB1.out.2.2.1⟩
              clear hc7 hp7 hb6w h7 hbk7 H6
              generalize W7 = W9 at HT ⊢
        all_goals
          obtain ⟨S9, s9, z9, a9, m0, m1, m2, SB, L9, hw9, hbk9, hSB, hst9, hl9⟩ := HT.out
          have hz9 : z9 ≤ 151 := by have := hw9.zk; omega
          have e9 : L9.length = z9 - a9 := by omega
          have htx := BkText_any SB b1 a9 L9 _ hbk9 hSB hst9 (by omega)
          rw [e9] at htx
          have H9 := Lib.hid (And.intro hw9 htx)
          clear hw9 hbk9 hSB hst9 hl9 hz9 e9 htx HT
          refine H9.out.2.mono ?_
          rintro _ W10 ⟨rfl, hb10⟩
          go_wp2_with fail
          go_roundw
          case rel => exact ⟨k + 1, S9, s9, z9, a9, m0, m1, m2, by omega, by omega, by go_num, rfl, H9.out.1.below hb10⟩
          case measure => simp [intOf]; omega
      · have hlt3' : ¬ (k : Int) < 150 := by omega
        have hlt' : (k : Int) < (rs.length : Int) := by omega
        -- the end
        obtain ⟨lg, hra, hlg⟩ := HX.out.pr
        have hlen : lg.length ≤ 20 * k := by have := HX.out.inv.len; rw [← hlg, List.length_map] at this; exact this
        have HRA := Lib.hid (And.intro hra hlg)
        have hlg2 : lg.length ≤ 3000 := by omega
        clear hra hlg hlen
        go_wp2_with fail
        refine (RdGot_any S b _ _ HRA.out.1 (by show lg.length ≤ 100000; omega)).mono ?_
        rintro _ w7 ⟨vq, lq, rfl, hE, hlq, hb7⟩
        obtain ⟨Aq7, cq7, rfl, hcq7⟩ := Qu.q_slice hE.1
        have hql : lq.length ≤ 3000 := by have := congrArg List.length hlq; simp only [List.length_map] at this; omega
        have hall : lq.map gv = s.got := by rw [hlq]; exact HRA.out.2
        have HRA7 := Lib.hid (HRA.out.1.below hb7)
        have HE := Lib.hid (And.intro hE (And.intro hall (And.intro hb7 hql)))
        have hat : s.at_ ≤ 150 := by have := HX.out.good.fit; have := HX.out.zk; omega
        clear hE hall hb7 hlq
        go_wp2_with fail
        go_loopw [20, 21, 22] (fun at_ ms i wq => ∃ (j : Nat) (tt mm : Int), j ≤ lq.length ∧ i = .int .i64 (j : Int) ∧ at_ = .int .i64 tt ∧ ms = .int .i64 mm ∧ mm = tt - (j : Int) ∧ 0 ≤ tt ∧ Ris tt (s.got.drop j) s.at_ ∧ Below w7.heap.size w7 wq) (fun _ _ i _ => lq.length - (intOf i).toNat)
        case atStart => exact ⟨0, 0, 0, Nat.zero_le _, rfl, rfl, rfl, by simp, by omega, by rw [List.drop_zero]; exact HX.out.good.ris, Below.refl _ _⟩
        case round =>
          obtain ⟨j, tt, mm, hj, rfl, rfl, rfl, hmm, htt, hris, hbel⟩ := hrel
          by_cases hltj : j < lq.length
          · obtain ⟨⟨pn, pv, pl⟩, hp⟩ : ∃ p, lq[j]? = some p := ⟨_, List.getElem?_eq_getElem hltj⟩
            have hgj : s.got[j]? = some (pn, pl) := by rw [← HE.out.2.1, List.getElem?_map, hp]; rfl
            have hdr : s.got.drop j = (pn, pl) :: s.got.drop (j + 1) := by
              obtain ⟨hl0, he0⟩ := List.getElem?_eq_some_iff.1 hgj
              rw [List.drop_eq_getElem_cons hl0, he0]
            rw [hdr] at hris
            obtain ⟨hr1, hr2, hr3⟩ := hris
            have hr1' : tt ≤ pn := hr1
            have hpl : pl = [pn] := hr2
            subst hpl
            have hpn : pn + 1 ≤ s.at_ := hr3.le
            have hqr := Rd_of_q (rows := lq.map gotC) (by have := HE.out.1.1; exact this) (by simp) (gotC_rows lq)
            obtain ⟨gq, oq, rfl, hgq, hgql, hrowq⟩ := (hqr.below hbel).row (k := j) (r := gotC (pn, pv, [pn])) (by rw [List.getElem?_map, hp]; rfl)
            have hpi := (HE.out.1.2 (pn, pv, [pn]) (List.mem_of_getElem? hp)).below hbel
            obtain ⟨Ap, cp, hpv⟩ := hpi.slice
            dsimp only at hpv hpi
            subst hpv
            obtain ⟨gp, op, rfl, _, hgpl, hrowp⟩ := hpi.1.row (k := 0) (r := intc pn) rfl
            have a0 : wr.cell? ⟨gq, oq + j * 2, none⟩ = some (.int .i64 pn) := hrowq 0 _ rfl
            have a1 : wr.cell? ⟨gq, oq + j * 2 + 1, none⟩ = some (.slice (some ⟨gp, op, none⟩) 1 cp) := hrowq 1 _ rfl
            have b0 : wr.cell? ⟨gp, op, none⟩ = some (.int .i64 pn) := by have := hrowp 0 _ rfl; simpa [intc] using this
            have hltj' : (j : Int) < (lq.length : Int) := by omega
            have hnt : ¬ pn < tt := by omega
            have hw1 : wrap64 (mm + pn) = mm + pn := by unfold wrap64; omega
            have hw2 : wrap64 (mm + pn - tt) = mm + pn - tt := by unfold wrap64; omega
            have hw3 : wrap64 (pn + 1) = pn + 1 := by unfold wrap64; omega
            have HJ := Lib.hid (And.intro hbel (And.intro hr3 (And.intro hmm (And.intro htt hr1'))))
            clear hrowq hrowp hpi hqr hp hgj hdr hbel hr1 hr1' hr2 hr3 hmm htt
            go_wp2_with fail
            go_quiet (fail)
            go_wp2_with fail
            go_roundw
            case rel => exact ⟨j + 1, pn + 1, mm + pn - tt, by omega, by go_num, by first | rfl | rw [hw3], by first | rfl | rw [hw2] | rw [hw1, hw2], by have := HJ.out.2.2.1; push_cast; omega, by have := HJ.out.2.2.2; omega, HJ.out.2.1, by first | exact HJ.out.1 | exact Mem.bdrewN HJ.out.1 _⟩
            case measure => simp [intOf]; omega
          · have hltj' : ¬ (j : Int) < (lq.length : Int) := by omega
            have hjl : j = lq.length := by omega
            have hgl : s.got.length = lq.length := by rw [← HE.out.2.1, List.length_map]
            have hr0 : tt ≤ s.at_ := hris.le
            have hcnt := HX.out.good.cnt
            have hfit := HX.out.good.fit
            have hgo : mm ≤ s.gone := by omega
            have hsum : wrap64 ((lq.length : Int) + s.gone) = s.at_ := by have := HX.out.inv.g0; have := HX.out.inv.g1; unfold wrap64; omega
            have HJ := Lib.hid (And.intro hbel hsum)
            have hra := fun (W : World) (hW : Below w7.heap.size w7 W) => HRA7.out.below hW
            have HRW := Lib.hid hra
            have hn1 : ¬ s.at_ < tt := by omega
            clear hris hmm htt hcnt hbel hra hgl hjl
            go_wp2_with fail
            refine (RdAt_any S b _ _ (HRW.out _ HJ.out.1)).mono ?_
            rintro _ u1 ⟨rfl, hu1⟩
            have HU1 := Lib.hid (HJ.out.1.trans (hu1.mono HJ.out.1.size))
            clear hu1
            go_wp2_with fail
            refine (RdAt_any S b _ _ (HRW.out _ HU1.out)).mono ?_
            rintro _ u2 ⟨rfl, hu2⟩
            have HU2 := Lib.hid (HU1.out.trans (hu2.mono HU1.out.size))
            clear hu2
            go_wp2_with fail
            refine (RdGone_any S b _ _ (HRW.out _ HU2.out)).mono ?_
            rintro _ u3 ⟨rfl, hu3⟩
            have HU3 := Lib.hid (HU2.out.trans (hu3.mono HU2.out.size))
            clear hu3
            go_wp2_with fail
            refine (RdGone_any S b _ _ (HRW.out _ HU3.out)).mono ?_
            rintro _ u4 ⟨rfl, hu4⟩
            have HU4 := Lib.hid (HU3.out.trans (hu4.mono HU3.out.size))
            clear hu4
            go_wp2_with fail
            refine (RdAt_any S b _ _ (HRW.out _ HU4.out)).mono ?_
            rintro _ u5 ⟨rfl, hu5⟩
            go_wp2_with fail
            go_ret
            refine ⟨Mem.ret_bool ?_, HX.out.bl.trans ((HE.out.2.2.1.trans ((HU4.out.trans (hu5.mono HU4.out.size)).mono HE.out.2.2.1.size)).mono HX.out.bl.size)⟩
            simp [HJ.out.2]
    · have hlt' : ¬ (k : Int) < (rs.length : Int) := by omega
      -- the end
      obtain ⟨lg, hra, hlg⟩ := HX.out.pr
      have hlen : lg.length ≤ 20 * k := by have := HX.out.inv.len; rw [← hlg, List.length_map] at this; exact this
      have HRA := Lib.hid (And.intro hra hlg)
      have hlg2 : lg.length ≤ 3000 := by omega
      clear hra hlg hlen
      go_wp2_with fail
      refine (RdGot_any S b _ _ HRA.out.1 (by show lg.length ≤ 100000; omega)).mono ?_
      rintro _ w7 ⟨vq, lq, rfl, hE, hlq, hb7⟩
      obtain ⟨Aq7, cq7, rfl, hcq7⟩ := Qu.q_slice hE.1
      have hql : lq.length ≤ 3000 := by have := congrArg List.length hlq; simp only [List.length_map] at this; omega
      have hall : lq.map gv = s.got := by rw [hlq]; exact HRA.out.2
      have HRA7 := Lib.hid (HRA.out.1.below hb7)
      have HE := Lib.hid (And.intro hE (And.intro hall (And.intro hb7 hql)))
      have hat : s.at_ ≤ 150 := by have := HX.out.good.fit; have := HX.out.zk; omega
      clear hE hall hb7 hlq
      go_wp2_with fail
      go_loopw [20, 21, 22] (fun at_ ms i wq => ∃ (j : Nat) (tt mm : Int), j ≤ lq.length ∧ i = .int .i64 (j : Int) ∧ at_ = .int .i64 tt ∧ ms = .int .i64 mm ∧ mm = tt - (j : Int) ∧ 0 ≤ tt ∧ Ris tt (s.got.drop j) s.at_ ∧ Below w7.heap.size w7 wq) (fun _ _ i _ => lq.length - (intOf i).toNat)
      case atStart => exact ⟨0, 0, 0, Nat.zero_le _, rfl, rfl, rfl, by simp, by omega, by rw [List.drop_zero]; exact HX.out.good.ris, Below.refl _ _⟩
      case round =>
        obtain ⟨j, tt, mm, hj, rfl, rfl, rfl, hmm, htt, hris, hbel⟩ := hrel
        by_cases hltj : j < lq.length
        · obtain ⟨⟨pn, pv, pl⟩, hp⟩ : ∃ p, lq[j]? = some p := ⟨_, List.getElem?_eq_getElem hltj⟩
          have hgj : s.got[j]? = some (pn, pl) := by rw [← HE.out.2.1, List.getElem?_map, hp]; rfl
          have hdr : s.got.drop j = (pn, pl) :: s.got.drop (j + 1) := by
            obtain ⟨hl0, he0⟩ := List.getElem?_eq_some_iff.1 hgj
            rw [List.drop_eq_getElem_cons hl0, he0]
          rw [hdr] at hris
          obtain ⟨hr1, hr2, hr3⟩ := hris
          have hr1' : tt ≤ pn := hr1
          have hpl : pl = [pn] := hr2
          subst hpl
          have hpn : pn + 1 ≤ s.at_ := hr3.le
          have hqr := Rd_of_q (rows := lq.map gotC) (by have := HE.out.1.1; exact this) (by simp) (gotC_rows lq)
          obtain ⟨gq, oq, rfl, hgq, hgql, hrowq⟩ := (hqr.below hbel).row (k := j) (r := gotC (pn, pv, [pn])) (by rw [List.getElem?_map, hp]; rfl)
          have hpi := (HE.out.1.2 (pn, pv, [pn]) (List.mem_of_getElem? hp)).below hbel
          obtain ⟨Ap, cp, hpv⟩ := hpi.slice
          dsimp only at hpv hpi
          subst hpv
          obtain ⟨gp, op, rfl, _, hgpl, hrowp⟩ := hpi.1.row (k := 0) (r := intc pn) rfl
          have a0 : wr.cell? ⟨gq, oq + j * 2, none⟩ = some (.int .i64 pn) := hrowq 0 _ rfl
          have a1 : wr.cell? ⟨gq, oq + j * 2 + 1, none⟩ = some (.slice (some ⟨gp, op, none⟩) 1 cp) := hrowq 1 _ rfl
          have b0 : wr.cell? ⟨gp, op, none⟩ = some (.int .i64 pn) := by have := hrowp 0 _ rfl; simpa [intc] using this
          have hltj' : (j : Int) < (lq.length : Int) := by omega
          have hnt : ¬ pn < tt := by omega
          have hw1 : wrap64 (mm + pn) = mm + pn := by unfold wrap64; omega
          have hw2 : wrap64 (mm + pn - tt) = mm + pn - tt := by unfold wrap64; omega
          have hw3 : wrap64 (pn + 1) = pn + 1 := by unfold wrap64; omega
          have HJ := Lib.hid (And.intro hbel (And.intro hr3 (And.intro hmm (And.intro htt hr1'))))
          clear hrowq hrowp hpi hqr hp hgj hdr hbel hr1 hr1' hr2 hr3 hmm htt
          go_wp2_with fail
          go_quiet (fail)
          go_wp2_with fail
          go_roundw
          case rel => exact ⟨j + 1, pn + 1, mm + pn - tt, by omega, by go_num, by first | rfl | rw [hw3], by first | rfl | rw [hw2] | rw [hw1, hw2], by have := HJ.out.2.2.1; push_cast; omega, by have := HJ.out.2.2.2; omega, HJ.out.2.1, by first | exact HJ.out.1 | exact Mem.bdrewN HJ.out.1 _⟩
          case measure => simp [intOf]; omega
        · have hltj' : ¬ (j : Int) < (lq.length : Int) := by omega
          have hjl : j = lq.length := by omega
          have hgl : s.got.length = lq.length := by rw [← HE.out.2.1, List.length_map]
          have hr0 : tt ≤ s.at_ := hris.le
          have hcnt := HX.out.good.cnt
          have hfit := HX.out.good.fit
          have hgo : mm ≤ s.gone := by omega
          have hsum : wrap64 ((lq.length : Int) + s.gone) = s.at_ := by have := HX.out.inv.g0; have := HX.out.inv.g1; unfold wrap64; omega
          have HJ := Lib.hid (And.intro hbel hsum)
          have hra := fun (W : World) (hW : Below w7.heap.size w7 W) => HRA7.out.below hW
          have HRW := Lib.hid hra
          have hn1 : ¬ s.at_ < tt := by omega
          clear hris hmm htt hcnt hbel hra hgl hjl
          go_wp2_with fail
          refine (RdAt_any S b _ _ (HRW.out _ HJ.out.1)).mono ?_
          rintro _ u1 ⟨rfl, hu1⟩
          have HU1 := Lib.hid (HJ.out.1.trans (hu1.mono HJ.out.1.size))
          clear hu1
          go_wp2_with fail
          refine (RdAt_any S b _ _ (HRW.out _ HU1.out)).mono ?_
          rintro _ u2 ⟨rfl, hu2⟩
          have HU2 := Lib.hid (HU1.out.trans (hu2.mono HU1.out.size))
          clear hu2
          go_wp2_with fail
          refine (RdGone_any S b _ _ (HRW.out _ HU2.out)).mono ?_
          rintro _ u3 ⟨rfl, hu3⟩
          have HU3 := Lib.hid (HU2.out.trans (hu3.mono HU2.out.size))
          clear hu3
          go_wp2_with fail
          refine (RdGone_any S b _ _ (HRW.out _ HU3.out)).mono ?_
          rintro _ u4 ⟨rfl, hu4⟩
          have HU4 := Lib.hid (HU3.out.trans (hu4.mono HU3.out.size))
          clear hu4
          go_wp2_with fail
          refine (RdAt_any S b _ _ (HRW.out _ HU4.out)).mono ?_
          rintro _ u5 ⟨rfl, hu5⟩
          go_wp2_with fail
          go_ret
          refine ⟨Mem.ret_bool ?_, HX.out.bl.trans ((HE.out.2.2.1.trans ((HU4.out.trans (hu5.mono HU4.out.size)).mono HE.out.2.2.1.size)).mono HX.out.bl.size)⟩
          simp [HJ.out.2]
end Go.Proofs.Ytiomhmdkaglelaa
