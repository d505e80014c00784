/- DiskPrefix: the walk (printed by tools/gen_prefix.py). -/
import Derived.Test.YtpdceondgbgpkaaDoorDskX4b
import Derived.Test.YtpdceondgbgpkaaDoorDsk9
import Derived.StillTailTactics
import Derived.Deep.RegionHeld3
namespace Go.Proofs.YtpdceondgbgpkaaDoor.Dsk
open Go.RowKit Go.Maps
set_option linter.unusedSimpArgs false
set_option linter.unusedVariables false
theorem Same_or (a b : List (ByteArray × ByteArray)) (va vb : Value) (ok1 ok2 : Nat → Prop) (w : World) (ha : Mem.Rd w ok1 2 va (a.map fc)) (hb : Mem.Rd w ok2 2 vb (b.map fc)) :
    Calls Tryd.prog 12 #[va, vb] w fun r w' => ∃ y : Bool, r = .returned (.bool y) ∧ (y = true → a = b) ∧ (a = b → y = true) ∧ Below w.heap.size w w' := by
  refine (Same_any a b va vb ok1 ok2 w ha hb).mono ?_
  rintro _ w' ⟨rfl, h⟩
  exact ⟨_, rfl, fun h => of_decide_eq_true h, fun h => decide_eq_true h, h⟩
theorem i_small {i n : Nat} (h : i < n) (hn : n ≤ 30) : i < 60 ∧ i < 1000000000 ∧ i ≤ 1000000000 ∧ i + 1 ≤ 1000000000 ∧ i ≤ 900000 := by omega
theorem int_lt {a b : Nat} (h : a < b) : (a : Int) < (b : Int) := by omega
theorem int_not {a b : Nat} (h : ¬ a < b) : ¬ (a : Int) < (b : Int) := by omega
theorem keep4 {W : World} {b : Nat} {t : TypeId} {x0 x1 x2 x3 : Value} {P : Prop} (h : W.heap[b]? = some (.cells #[x0, x1, x2, x3] t (0, 0))) (hp : P) : W.cell? ⟨b, 0, none⟩ = some x0 ∧ W.cell? ⟨b, 1, none⟩ = some x1 ∧ W.cell? ⟨b, 2, none⟩ = some x2 ∧ W.cell? ⟨b, 3, none⟩ = some x3 ∧ P :=
  ⟨Mem.cell h rfl, Mem.cell h rfl, Mem.cell h rfl, Mem.cell h rfl, hp⟩
theorem to_next {P : Nat → Prop} {m : Nat} (h : ∀ q, q < m → P q) (hm : P m) : ∀ q, q < m + 1 → P q := fun q hq => by
  by_cases e : q = m
  · rw [e]; exact hm
  · exact h q (by omega)
theorem wrap_big {m n : Nat} (h : m < n) (hn : n ≤ 3000) : wrap64 ((m : Int) + 1) = (m : Int) + 1 := by unfold wrap64; omega
theorem keep3 {w W : World} {g a b c : Nat} {x y z : Value} (hg : g < w.heap.size) (h1 : w.cell? ⟨g, a, none⟩ = some x) (h2 : w.cell? ⟨g, b, none⟩ = some y) (h3 : w.cell? ⟨g, c, none⟩ = some z) (hb : Below w.heap.size w W) : W.cell? ⟨g, a, none⟩ = some x ∧ W.cell? ⟨g, b, none⟩ = some y ∧ W.cell? ⟨g, c, none⟩ = some z ∧ Below w.heap.size w W :=
  ⟨(hb.cell hg).trans h1, (hb.cell hg).trans h2, (hb.cell hg).trans h3, hb⟩
theorem bel_put {w W : World} {g j : Nat} {u : Value} (h : Below w.heap.size w W) (hg : w.heap.size ≤ g) : Below w.heap.size w (W.setCell ⟨g, j, none⟩ u) := Mem.Ch.below (S := fun k => w.heap.size ≤ k) ((Mem.Ch.of_below h).set (.inr hg)) (fun k hk hS => absurd hk (by omega)) (Nat.le_refl _)
theorem se_no {E0 E1 M b g : Nat} (h : M ≤ g ∧ g < b) (hE : E1 ≤ M) : ¬ Se E0 E1 b g := fun hs => by have := h.1; have := h.2; rcases hs with hs | hs <;> omega
theorem act_rowsX (l : List Act) : ∀ r ∈ l.map Act.cells, r.length = 5 := by
  intro r hr
  obtain ⟨x, _, rfl⟩ := List.mem_map.1 hr
  rfl
theorem rd_in {w : World} {ok : Nat → Prop} {sz : Nat} {v : Value} {rows : List (List Value)} (h : Mem.Rd w ok sz v rows) : Mem.Rd w (fun k => ok k ∧ k < w.heap.size) sz v rows := by
  obtain ⟨A, cap, e, h1, h2, h3, h4⟩ := h
  exact ⟨A, cap, e, h1, h2, fun hr => by obtain ⟨g, o, ea, hg, hl⟩ := h3 hr; exact ⟨g, o, ea, ⟨hg, hl⟩, hl⟩, h4⟩
theorem rd_gap {B E M a : Nat} {w w1 : World} {sz : Nat} {v : Value} {rows : List (List Value)} (h : Mem.Rd w (fun k => a ≤ k ∧ k < M) sz v rows) (ha : E ≤ a) (hc : Mem.Ch (Off B E M) w w1) : Mem.Rd w1 (fun k => a ≤ k ∧ k < M) sz v rows :=
  h.step hc.size (fun k hk hl => hc.block k hl (fun ho => by rcases ho.2 with h | h <;> omega))
theorem wrap_x {j : Nat} (h : j < 60) : wrap64 ((j : Int) + 1) = (j : Int) + 1 := by unfold wrap64; omega
theorem bytes_x {n : Nat} (h : n < 30) : n + 1 ≤ maxLen ∧ (n + 1) * 56 ≤ 140737488355328 := by unfold maxLen; omega
theorem measX {n k : Nat} (h : k < n) : n - (intOf (.int .i64 ((k : Int) + 1))).toNat < n - (intOf (.int .i64 (k : Int))).toNat := by
  show n - ((k : Int) + 1).toNat < n - ((k : Int)).toNat; omega
theorem actC_one (l : List Act) (k na nm : Int) (name st : ByteArray) : actC (l ++ [⟨k, name, na, nm, st⟩]) = actC l ++ [.int .i64 k, .string name, .int .i64 na, .int .i64 nm, .string st] := by unfold actC; rw [List.flatMap_append]; rfl
set_option maxRecDepth 100000 in
set_option maxHeartbeats 16000000 in
theorem DiskPrefix_any (l : List Act) (v : Value) (k : Int) (ok : Nat → Prop) (w : World) (h : Mem.Rd w ok 5 v (l.map Act.cells)) (hl : ∀ x ∈ l, x.fit) (hk : -9223372036854775808 ≤ k ∧ k ≤ 9223372036854775807) :
    Calls Tryd.prog 3 #[v, .int .i64 k] w fun r w' => r = .returned (.bool true) ∧ Below w.heap.size w w' := by
  have tokN : True := trivial
  obtain ⟨A0, cap0, rfl⟩ := h.slice
  have hll : (l.map Act.cells).length = l.length := List.length_map _
  rw [hll] at h ⊢
  obtain ⟨i0, hi, hz0, hz1, hz2⟩ := info_parts info_act
  have HR := Lib.hid h
  have HL := Lib.hid (And.intro hl hk)
  clear h hl hll hk
  go_enter Tryd.func3, Tryd.ntmps3
  go_wp2_with (first
    | (go_at_call 5; have _t := tokN; refine (New_any _).mono ?_; rintro _ w1 ⟨p, rfl, hb1, hD1⟩; clear tokN)
    | (go_at_call 5; refine (New_any _).mono ?_; rintro _ w2 ⟨p2, rfl, hb2, hE2⟩; have hD2 := hD1.below hb2; have hb12 := hb1.trans (hb2.mono hb1.size))
    | (go_at_call 6; refine (awake_any _).mono ?_; rintro _ w3 ⟨rfl, hb3⟩; have hD3 := hD2.below hb3; have hE3 := hE2.below hb3; have hb13 := hb12.trans (hb3.mono hb12.size))
    | (go_at_call 7; refine (most_small l _ ok _ (HR.out.below hb13)).mono ?_; rintro _ w5 ⟨vm, out, rfl, hown, hmem, hlen, hb5⟩; refine Hid.out ?_))
  obtain ⟨Av, cv, rfl, hcv⟩ := Qu.q_slice (Qu.q_of_own hown)
  have hD5 := hD3.below hb5
  have hE5 := hE3.below hb5
  have hb15 := hb13.trans (hb5.mono hb13.size)
  have hRd := rd_in (Mem.Rd.of_owns (rows := out.map Act.cells) hown (List.length_map _).symm (act_rowsX out))
  have z01 := hb1.size
  have z12 := hb2.size
  have z23 := hb3.size
  have z35 := hb5.size
  have z01' : w.heap.size ≤ w1.heap.size := z01
  have zE : w1.heap.size ≤ w5.heap.size := by omega
  have zM : w1.heap.size ≤ w3.heap.size := by omega
  have zN : w2.heap.size ≤ w5.heap.size := by omega
  have HI := Lib.hid (show P1 w5 w5 w.heap.size w1.heap.size w5.heap.size p 0 Dk.new (.slice none 0 0) [] [] from ⟨Mem.Ch.refl _ _, hD5.mono (fun k hk => ⟨⟨hk.1, .inl hk.2⟩, by simp [Value.ownBlock]⟩), World.ownsRow_nil _ _ _ _, ⟨Dk.inv_new, rfl, rfl, show (-1 : Int) < 0 by decide⟩, canAll_nil, rfl, rfl, rfl, fun x hx => by cases hx⟩)
  have HE := Lib.hid (And.intro hE5 hb15)
  have HD := Lib.hid hRd
  clear hb1 hD1 hb2 hE2 hD2 hb12 hb3 hD3 hE3 hb13 hown hb5 hD5 hE5 hb15 hRd z01 z12 z23 z35
  refine Lib.hid ?_
  go_wp2_with fail
  go_loopw [7, 9] (fun v i wr => ∃ (j : Nat) (d : Dk) (dn : List Act), j ≤ out.length ∧ dn.length ≤ 30 ∧ i = .int .i64 (j : Int) ∧ P1 w5 wr w.heap.size w1.heap.size w5.heap.size p j d v dn dn) (fun _ i _ => out.length - (intOf i).toNat)
  case atStart => exact ⟨0, _, [], Nat.zero_le _, Nat.zero_le _, rfl, HI.out⟩
  case round =>
    obtain ⟨j, d, dn, hj, hdn, rfl, hr⟩ := hrel
    obtain ⟨Ad, cd, rfl, hcd⟩ := Qu.q_slice (Qu.q_of_own hr.own)
    by_cases hin : j < out.length ∧ dn.length < 30
    · obtain ⟨hlt, h30⟩ := hin
      have hlt' : (j : Int) < (out.length : Int) := by omega
      have h30' : (dn.length : Int) < 30 := by omega
      have j60 : j < 60 := by omega
      have jB : j < 1000000000 := by omega
      have hby := bytes_x h30
      have HK := Lib.hid (wrap_x j60)
      obtain ⟨x, hx⟩ : ∃ x, out[j]? = some x := ⟨_, List.getElem?_eq_getElem hlt⟩
      obtain ⟨g, o, rfl, hg, hgl, hrow⟩ := HD.out.row (k := j) (r := x.cells) (by rw [List.getElem?_map, hx]; rfl)
      obtain ⟨hxl, hx3⟩ := hmem x (List.mem_of_getElem? hx)
      have hfit := HL.out.1 x hxl
      have hno : ¬ Off w.heap.size w1.heap.size w5.heap.size g := fun hh => by have := hg.1; have := hg.2; rcases hh.2 with h | h <;> omega
      obtain ⟨kind, name, na, nm, st⟩ := x
      have k0 : w5.cell? ⟨g, o + j * 5, none⟩ = some (.int .i64 kind) := hrow 0 _ rfl
      have k1 : w5.cell? ⟨g, o + j * 5 + 1, none⟩ = some (.string name) := hrow 1 _ rfl
      have k2 : w5.cell? ⟨g, o + j * 5 + 2, none⟩ = some (.int .i64 na) := hrow 2 _ rfl
      have k3 : w5.cell? ⟨g, o + j * 5 + 3, none⟩ = some (.int .i64 nm) := hrow 3 _ rfl
      have k4 : w5.cell? ⟨g, o + j * 5 + 4, none⟩ = some (.string st) := hrow 4 _ rfl
      have c0_1 : wr.cell? ⟨g, o + j * 5, none⟩ = some (.int .i64 kind) := (ch_cell hr.ch hgl hno).trans k0; have c1_1 : wr.cell? ⟨g, o + j * 5 + 1, none⟩ = some (.string name) := (ch_cell hr.ch hgl hno).trans k1; have c2_1 : wr.cell? ⟨g, o + j * 5 + 2, none⟩ = some (.int .i64 na) := (ch_cell hr.ch hgl hno).trans k2; have c3_1 : wr.cell? ⟨g, o + j * 5 + 3, none⟩ = some (.int .i64 nm) := (ch_cell hr.ch hgl hno).trans k3; have c4_1 : wr.cell? ⟨g, o + j * 5 + 4, none⟩ = some (.string st) := (ch_cell hr.ch hgl hno).trans k4
      have HX := Lib.hid hr
      clear hrow hx hr hxl hg
      by_cases hkk : 0 ≤ kind ∧ kind ≤ 3
      · obtain ⟨hk0, hk3⟩ := hkk
        have hdo := HX.out.does ⟨kind, name, na, nm, st⟩ hfit hx3 ⟨hk0, hk3⟩ jB (Nat.le_refl _) zE z01'
        have HH := Lib.hid (And.intro hfit (And.intro hx3 hno))
        clear hfit hx3 hno
        go_wp2_with (go_at_call 8; refine hdo.mono ?_; rintro _ w6 ⟨e6, rfl, h6⟩; refine Hid.out ?_)
        rcases h6 with ⟨rfl, h6⟩ | ⟨he6, h6⟩
        · have hc6 := h6.ch
          have c0_6 : w6.cell? ⟨g, o + j * 5, none⟩ = some (.int .i64 kind) := (ch_cell hc6 hgl HH.out.2.2).trans k0; have c1_6 : w6.cell? ⟨g, o + j * 5 + 1, none⟩ = some (.string name) := (ch_cell hc6 hgl HH.out.2.2).trans k1; have c2_6 : w6.cell? ⟨g, o + j * 5 + 2, none⟩ = some (.int .i64 na) := (ch_cell hc6 hgl HH.out.2.2).trans k2; have c3_6 : w6.cell? ⟨g, o + j * 5 + 3, none⟩ = some (.int .i64 nm) := (ch_cell hc6 hgl HH.out.2.2).trans k3; have c4_6 : w6.cell? ⟨g, o + j * 5 + 4, none⟩ = some (.string st) := (ch_cell hc6 hgl HH.out.2.2).trans k4
          have H6 := Lib.hid h6
          clear h6 hc6
          refine Lib.hid ?_
          go_wp2_with (at_builtin; refine Mem.append_one rfl (.tmp 63) (.tmp 68) 22 rfl w5.heap.size 28 i0 _ 5 56 Tryd.underlying22 hi hz0 hz1 hz2 rfl (by decide) w6 _ dn.length (actC dn) (by rfl) H6.out.own [.int .i64 kind, .string name, .int .i64 na, .int .i64 nm, .string st] rfl (by intro u hu; simp only [List.mem_cons, List.not_mem_nil, or_false] at hu; rcases hu with rfl | rfl | rfl | rfl | rfl <;> rfl) (by rfl) hby.1 hby.2 H6.out.ch.size ?_; intro v7 w7 hown7 hg7 ho7)
          go_roundw
          case rel => exact ⟨j + 1, d.push _, dn ++ [⟨kind, name, na, nm, st⟩], hlt, by rw [List.length_append]; exact h30, by go_num, H6.out.appended hg7 ho7 (by rw [List.length_append, actC_one]; exact hown7) (Nat.le_refl _) z01' zE⟩
          case measure => first | exact measX hlt | (rw [HK.out]; exact measX hlt)
        · have H6 := Lib.hid h6
          clear h6
          refine Lib.hid ?_
          go_wp2_with fail
          go_roundw
          case rel => exact ⟨j + 1, d, dn, hlt, hdn, by go_num, H6.out⟩
          case measure => first | exact measX hlt | (rw [HK.out]; exact measX hlt)
      · have hkk' : ¬ (0 : Int) ≤ kind ∨ ((0 : Int) ≤ kind ∧ ¬ kind ≤ 3) := by
          rcases Int.lt_or_le kind 0 with h | h
          · exact .inl (by omega)
          · exact .inr ⟨h, fun h3 => hkk ⟨h, h3⟩⟩
        clear hkk hfit hx3 hno
        rcases hkk' with hkk | ⟨hkk, hkk3⟩
        · go_wp2_with fail
          go_roundw
          case rel => exact ⟨j + 1, d, dn, hlt, hdn, by go_num, HX.out.more (Nat.le_succ j)⟩
          case measure => first | exact measX hlt | (rw [HK.out]; exact measX hlt)
        · go_wp2_with fail
          go_roundw
          case rel => exact ⟨j + 1, d, dn, hlt, hdn, by go_num, HX.out.more (Nat.le_succ j)⟩
          case measure => first | exact measX hlt | (rw [HK.out]; exact measX hlt)
    · have hex : ¬ ((j : Int) < (out.length : Int)) ∨ ((j : Int) < (out.length : Int) ∧ ¬ ((dn.length : Int) < 30)) := by
        rcases Nat.lt_or_ge j out.length with h | h
        · exact .inr ⟨by omega, by omega⟩
        · exact .inl (by omega)
      have jM : j ≤ 1000000000 := by omega
      have DN30 : dn.length ≤ 30 := hdn
      have hkS : ∀ q, (Value.slice Ad dn.length cd).ownBlock = some q → q < wr.heap.size := own_lt hr.own
      have A0e : dn.length < 1000000000 := by omega
      have hnvA := hr.can.nv dn.length
      rw [List.take_length] at hnvA
      have hfi := Files_up _ p j d wr hr.D hr.st.up jM
      have jF : j < 1073741824 := by omega
      have HX := Lib.hid hr
      have HS := Lib.hid hkS
      clear hr hkS hj hdn
      have HG0 := Lib.hid hmem
      clear hmem
      obtain ⟨A, hA⟩ : ∃ A, A = play (fun _ => none) (dn.map Act.chg) := ⟨_, rfl⟩
      obtain ⟨G, hG⟩ : ∃ G, G = fallen (fun _ => none) (dn.map Act.chg) k := ⟨_, rfl⟩
      have hnvG : NV G := by
        rw [hG]
        rcases fallen_is (fun _ => none) (dn.map Act.chg) k with ⟨i, hi, e⟩ | ⟨i, n, s, a, m, hi, hm, e⟩
        · rw [e, ← List.map_take]
          exact HX.out.can.nv i
        · rw [e, ← List.map_take]
          refine (HX.out.can.nv i).does ?_
          have := HX.out.can.nc _ (List.mem_of_getElem? hi)
          exact this
      have hAG : 200000 < k → G = A := fun h => by rw [hG, hA]; exact fits_all (fun x hx => (HX.out.all x hx).2.1) DN30 h
      have hdf : (d.fail k).now = G := by
        unfold Dk.fail
        rw [if_neg (by rw [HX.out.st.up]; decide)]
        show fallen d.sure d.row k = G
        rw [HX.out.sure, HX.out.row, hG]
      have HP := Lib.hid (And.intro hA (And.intro hG (And.intro hnvG (And.intro hAG (And.intro hdf hnvA)))))
      clear hA hG hnvG hAG hdf hnvA
      rcases hex with hex | ⟨hex1, hex⟩
      · go_wp2_with (first
          | (go_at_call 9; refine hfi.mono ?_; rintro _ w6 ⟨vw, lw, rfl, hlw, hRw, hb6⟩; refine Hid.out ?_))
        have E6 := HX.out.wants hb6
        have R6 := rdIn hRw
        have hfl := E6.fail k HL.out.2.2 jF (Nat.le_refl _) zE z01'
        clear hRw hb6
        refine Lib.hid ?_
        go_wp2_with (first
          | (go_at_call 10; refine hfl.mono ?_; rintro _ w7 ⟨rfl, hc7, E7⟩; have R7 := rd_wait R6 hc7; have hwk := E7.wake (Nat.le_refl _) zE z01'; clear hfl R6 E6)
          | (go_at_call 11; refine hwk.mono ?_; rintro _ w8 ⟨rfl, hc8, E8⟩; have R8 := rd_wait R7 hc8; have hfg := Files_up _ p j _ w8 E8.D rfl jM; clear hwk R7 E7)
          | (go_at_call 9; refine hfg.mono ?_; rintro _ w9 ⟨vg, lg, rfl, hlg, hRg, hb9⟩; refine Hid.out ?_))
        have hnw : (d.fail k).woken.now = G := HP.out.2.2.2.2.1
        rw [pairs_eq (d := (d.fail k).woken) hlg rfl (by rw [hnw]; exact HP.out.2.2.1), hnw] at hRg
        rw [hnw] at hlg
        rw [pairs_eq hlw HX.out.st.up (by rw [HX.out.now]; exact HP.out.2.2.2.2.2), HX.out.now, ← HP.out.1] at R8
        rw [HX.out.now, ← HP.out.1] at hlw
        have R9 := R8.below hb9
        have Z9 := E8.made hb9 hRg HE.out.1 HE.out.2 rfl zN z01'
        have tokS : True := trivial
        clear hfg R8 E8 hb9 hc7 hc8
        by_cases hk2 : (200000 : Int) < k
        · have hsame : pairsF G lg = pairsF A lw := (pairs_same hlw hlg (HP.out.2.2.2.1 hk2)).symm
          refine Lib.hid ?_
          go_wp2_with (first
            | (go_at_call 12; have _t := tokS; refine (Same_any (pairsF G lg) (pairsF A lw) _ _ _ _ _ hRg R9).mono ?_; rw [decide_eq_true hsame]; rintro _ w10 ⟨rfl, hb10⟩; have Z10 := Z9.on hb10; clear tokS)
            | (go_at_call 12; refine (Same_or (pairsF G lg) [] _ _ _ _ _ Z10.got (Mem.Rd.nil _ (fun _ => True) _)).mono ?_; rintro _ w11 ⟨y, rfl, hy1, hy2, hb11⟩; have Z := Z10.on hb11; refine Hid.out ?_))
          clear R9 hRg Z9 Z10
          cases y
          · have hne : G ≠ fun _ => none := pairs_none hlg (fun h => absurd (hy2 h) (by decide))
            have HN := Lib.hid hne
            have Q0 := Z.start
            clear hy1 hy2 hne
            refine Lib.hid ?_
            go_wp2_with fail
            go_loopw [12] (fun q wr2 => ∃ (i : Nat) (e : Dk), i ≤ dn.length ∧ q = .int .i64 (i : Int) ∧ P2 w11 wr2 w1.heap.size w2.heap.size p2 i e (St dn i) ∧ Miss dn G i) (fun q _ => dn.length - (intOf q).toNat)
            case atStart => exact ⟨0, _, Nat.zero_le _, rfl, Q0, miss_zero _ _⟩
            case round =>
              obtain ⟨i, e, hile, rfl, hq, hmi⟩ := hrel
              by_cases hlt : i < dn.length
              · have hlt' := int_lt hlt
                have iS := i_small hlt DN30
                have HK := Lib.hid (wrap_x iS.1)
                obtain ⟨x, hx⟩ : ∃ x, dn[i]? = some x := ⟨_, List.getElem?_eq_getElem hlt⟩
                obtain ⟨hfit, hx3, hkd⟩ := HX.out.all x (List.mem_of_getElem? hx)
                have hcan : Can (St dn i) x := HX.out.can i x hx
                obtain ⟨g, o, rfl, hg, hgl, hrow⟩ := Z.acts.row (k := i) (r := x.cells) (by rw [List.getElem?_map, hx]; rfl)
                have hno := se_no (E0 := w1.heap.size) hg Z.em
                obtain ⟨kind, name, na, nm, st⟩ := x
                have k0 : w11.cell? ⟨g, o + i * 5, none⟩ = some (.int .i64 kind) := hrow 0 _ rfl
                have k1 : w11.cell? ⟨g, o + i * 5 + 1, none⟩ = some (.string name) := hrow 1 _ rfl
                have k2 : w11.cell? ⟨g, o + i * 5 + 2, none⟩ = some (.int .i64 na) := hrow 2 _ rfl
                have k3 : w11.cell? ⟨g, o + i * 5 + 3, none⟩ = some (.int .i64 nm) := hrow 3 _ rfl
                have k4 : w11.cell? ⟨g, o + i * 5 + 4, none⟩ = some (.string st) := hrow 4 _ rfl
                have d0_2 : wr.cell? ⟨g, o + i * 5, none⟩ = some (.int .i64 kind) := (ch_cell hq.ch hgl hno).trans k0; have d1_2 : wr.cell? ⟨g, o + i * 5 + 1, none⟩ = some (.string name) := (ch_cell hq.ch hgl hno).trans k1; have d2_2 : wr.cell? ⟨g, o + i * 5 + 2, none⟩ = some (.int .i64 na) := (ch_cell hq.ch hgl hno).trans k2; have d3_2 : wr.cell? ⟨g, o + i * 5 + 3, none⟩ = some (.int .i64 nm) := (ch_cell hq.ch hgl hno).trans k3; have d4_2 : wr.cell? ⟨g, o + i * 5 + 4, none⟩ = some (.string st) := (ch_cell hq.ch hgl hno).trans k4
                have HF := Lib.hid (And.intro hfit (And.intro hkd (And.intro hcan (And.intro hno (And.intro hx hmi)))))
                have HQ := Lib.hid hq
                clear hrow hx hmi hq hg hno hfit hcan
                by_cases hkz : kind = 0
                · subst hkz
                  go_wp2_with fail
                  go_loopw [13] (fun q wq => ∃ m : Nat, m ≤ st.size ∧ q = .int .i64 (m : Int) ∧ P2 w11 wq w1.heap.size w2.heap.size p2 i e (St dn i) ∧ ∀ q, q < m → G ≠ Torn dn i ⟨0, name, na, nm, st⟩ q) (fun q _ => st.size - (intOf q).toNat)
                  case atStart => exact ⟨0, Nat.zero_le _, rfl, HQ.out, fun q hq => absurd hq (Nat.not_lt_zero q)⟩
                  case round =>
                    obtain ⟨m, hmle, rfl, hq2, hto⟩ := hrel
                    have d0_3 : wr.cell? ⟨g, o + i * 5, none⟩ = some (.int .i64 0) := (ch_cell hq2.ch hgl HF.out.2.2.2.1).trans k0; have d1_3 : wr.cell? ⟨g, o + i * 5 + 1, none⟩ = some (.string name) := (ch_cell hq2.ch hgl HF.out.2.2.2.1).trans k1; have d2_3 : wr.cell? ⟨g, o + i * 5 + 2, none⟩ = some (.int .i64 na) := (ch_cell hq2.ch hgl HF.out.2.2.2.1).trans k2; have d3_3 : wr.cell? ⟨g, o + i * 5 + 3, none⟩ = some (.int .i64 nm) := (ch_cell hq2.ch hgl HF.out.2.2.2.1).trans k3; have d4_3 : wr.cell? ⟨g, o + i * 5 + 4, none⟩ = some (.string st) := (ch_cell hq2.ch hgl HF.out.2.2.2.1).trans k4
                    by_cases hml : m < st.size
                    · have hml' := int_lt hml
                      go_wp2_with fail
                      have hgr := Nat.lt_of_lt_of_le hgl hq2.ch.size
                      have B0 : Below wr.heap.size wr wr.drew := (Below.refl _ _).drew
                      go_region_held3 (fun W => W.cell? ⟨g, o + i * 5 + 1, none⟩ = some (.string name) ∧ W.cell? ⟨g, o + i * 5 + 2, none⟩ = some (.int .i64 na) ∧ W.cell? ⟨g, o + i * 5 + 4, none⟩ = some (.string st) ∧ Below wr.heap.size wr W)
                        (first
                          | exact ⟨d1_3, d2_3, d4_3, B0⟩
                          | exact keep3 hgr d1_3 d2_3 d4_3 (B0.alloc (Nat.le_refl _) _)
                          | exact keep3 hgr d1_3 d2_3 d4_3 (bel_put (bel_put (bel_put (bel_put (B0.alloc (Nat.le_refl _) _) (Nat.le_refl _)) (Nat.le_refl _)) (Nat.le_refl _)) (Nat.le_refl _)))
                        (first | fail)
                      have x30 : (wr.alloc (.cells #[.int .i64 0, .string name, .int .i64 na, .string (st.extract 0 m)] 36)).drew.heap[wr.heap.size]? = some (.cells #[.int .i64 0, .string name, .int .i64 na, .string (st.extract 0 m)] 36 (0, 0)) := Mem.new wr _
                      have m30 := hq2.on (((Below.refl wr.heap.size wr).alloc (Nat.le_refl _) (.cells #[.int .i64 0, .string name, .int .i64 na, .string (st.extract 0 m)] 36)).drew)
                      have m30d := m30.on (Below.refl _ _).drew
                      have HT := Lib.hid hto
                      have HMM := Lib.hid hml
                      have HGR := Lib.hid (And.intro hgr hq2)
                      clear hto hml hgr hq2 B0 d0_3 d1_3 d2_3 d3_3 d4_3
                      refine Lib.hid ?_
                      go_wp2_with fail
                      go_region_held3 (fun W => W.cell? ⟨wr.heap.size, 0, none⟩ = some (.int .i64 0) ∧ W.cell? ⟨wr.heap.size, 1, none⟩ = some (.string name) ∧ W.cell? ⟨wr.heap.size, 2, none⟩ = some (.int .i64 na) ∧ W.cell? ⟨wr.heap.size, 3, none⟩ = some (.string (st.extract 0 m)) ∧ P2 w11 W w1.heap.size w2.heap.size p2 i e (St dn i))
                        (first | exact keep4 x33 m33 | exact keep4 x32 m32 | exact keep4 x31 m31 | exact keep4 x30 m30d | exact keep4 x30 m30)
                        (first
                          | (go_at_call 9; refine (m30d.files iS.2.2.1).mono ?_; rintro _ w31 ⟨v31, l31, rfl, hl31, hn31, hR31, hb31⟩; have m31 := m30d.on hb31; have x31 := (hb31.block wr.heap.size (Mem.lt x30)).trans x30)
                          | (go_at_call 13; refine (m31.torn HF.out.1 rfl HF.out.2.2.1 HMM.out hl31 (Nat.le_trans hn31 iS.2.2.2.2) hR31).mono ?_; rintro _ w32 ⟨v32, fl32, rfl, hR32, hb32, hfl32⟩; have m32 := m31.on hb32; have x32 := (hb32.block wr.heap.size (Mem.lt x31)).trans x31; have G32 := Z.gotAt m32.ch)
                          | (go_at_call 12; refine (Same_or fl32 (pairsF G lg) _ _ _ _ _ hR32 G32).mono ?_; rintro _ w33 ⟨y3, rfl, ht1, ht2, hb33⟩; have m33 := m32.on hb33; have x33 := (hb33.block wr.heap.size (Mem.lt x32)).trans x32))
                      cases y3
                      · have HM := Lib.hid (to_next HT.out (fun e => absurd (ht2 (hfl32 lg G hlg e)) (by decide)))
                        have HMR := Lib.hid m33
                        clear ht1 ht2 hfl32 x31 x32 x33 m30 m30d m31 m32 m33 hR31 hR32 G32 hl31 hb31 hb32 hb33
                        go_wp2_with fail
                        go_roundw
                        case rel => exact ⟨m + 1, HMM.out, by go_num, HMR.out, HM.out⟩
                        case measure => first | exact measX HMM.out | (rw [wrap_big HMM.out hx3]; exact measX HMM.out)
                      · have HMR := Lib.hid m33
                        clear ht1 ht2 hfl32 x31 x32 x33 m30 m30d m31 m32 m33 hR31 hR32 G32 hl31 hb31 hb32 hb33
                        go_wp2_with fail
                        go_ret
                        exact ⟨rfl, Z.done HMR.out.ch⟩
                    · have hml' := int_not hml
                      have hms := Nat.le_antisymm hmle (Nat.le_of_not_lt hml)
                      have HT := Lib.hid (show ∀ q, q < st.size → G ≠ Torn dn i ⟨0, name, na, nm, st⟩ q by rw [← hms]; exact hto)
                      clear hto hms
                      have hdo := (hq2).does ⟨0, name, na, nm, st⟩ HF.out.1 HF.out.2.1 HF.out.2.2.1 iS.2.1
                      rw [← St_next HF.out.2.2.2.2.1] at hdo
                      go_wp2_with (first
                        | (go_at_call 8; refine hdo.mono ?_; rintro _ w20 ⟨r0, rfl, q20⟩; have hfs := q20.files iS.2.2.2.1; have G20 := Z.gotAt q20.ch)
                        | (go_at_call 9; refine hfs.mono ?_; rintro _ w21 ⟨v21, l21, rfl, hl21, hn21, hR21, hb21⟩; have G21 := G20.below hb21)
                        | (go_at_call 12; refine (Same_or (pairsF (St dn (i + 1)) l21) (pairsF G lg) _ _ _ _ _ hR21 G21).mono ?_; rintro _ w22 ⟨y2, rfl, hs1, hs2, hb22⟩; refine Hid.out ?_))
                      cases y2
                      · have HM := Lib.hid (HF.out.2.2.2.2.2.next HF.out.2.2.2.2.1 (fun _ => HT.out) (fun e => absurd (hs2 (pairs_same hl21 hlg e)) (by decide)))
                        clear hs1 hs2
                        refine Lib.hid ?_
                        go_wp2_with fail
                        go_roundw
                        case rel => exact ⟨i + 1, _, hlt, by go_num, (q20.on hb21).on hb22, HM.out⟩
                        case measure => first | exact measX hlt | (rw [HK.out]; exact measX hlt)
                      · refine Lib.hid ?_
                        go_wp2_with fail
                        go_ret
                        exact ⟨rfl, Z.done ((q20.on hb21).on hb22).ch⟩
                · have HT := Lib.hid (show kind = 0 → ∀ q, q < st.size → G ≠ Torn dn i ⟨kind, name, na, nm, st⟩ q from fun h => absurd h hkz)
                  have hdo := (HQ.out).does ⟨kind, name, na, nm, st⟩ HF.out.1 HF.out.2.1 HF.out.2.2.1 iS.2.1
                  rw [← St_next HF.out.2.2.2.2.1] at hdo
                  go_wp2_with (first
                    | (go_at_call 8; refine hdo.mono ?_; rintro _ w20 ⟨r0, rfl, q20⟩; have hfs := q20.files iS.2.2.2.1; have G20 := Z.gotAt q20.ch)
                    | (go_at_call 9; refine hfs.mono ?_; rintro _ w21 ⟨v21, l21, rfl, hl21, hn21, hR21, hb21⟩; have G21 := G20.below hb21)
                    | (go_at_call 12; refine (Same_or (pairsF (St dn (i + 1)) l21) (pairsF G lg) _ _ _ _ _ hR21 G21).mono ?_; rintro _ w22 ⟨y2, rfl, hs1, hs2, hb22⟩; refine Hid.out ?_))
                  cases y2
                  · have HM := Lib.hid (HF.out.2.2.2.2.2.next HF.out.2.2.2.2.1 HT.out (fun e => absurd (hs2 (pairs_same hl21 hlg e)) (by decide)))
                    clear hs1 hs2
                    refine Lib.hid ?_
                    go_wp2_with fail
                    go_roundw
                    case rel => exact ⟨i + 1, _, hlt, by go_num, (q20.on hb21).on hb22, HM.out⟩
                    case measure => first | exact measX hlt | (rw [HK.out]; exact measX hlt)
                  · refine Lib.hid ?_
                    go_wp2_with fail
                    go_ret
                    exact ⟨rfl, Z.done ((q20.on hb21).on hb22).ch⟩
              · have hge := int_not hlt
                have hil := Nat.le_antisymm hile (Nat.le_of_not_lt hlt)
                subst hil
                exact (hmi.never HP.out.2.1 HN.out).elim
          · refine Lib.hid ?_
            go_wp2_with fail
            go_ret
            exact ⟨rfl, Z.bel⟩
        · refine Lib.hid ?_
          go_wp2_with (first
            | (go_at_call 12; refine (Same_or (pairsF G lg) [] _ _ _ _ _ Z9.got (Mem.Rd.nil _ (fun _ => True) _)).mono ?_; rintro _ w11 ⟨y, rfl, hy1, hy2, hb11⟩; have Z := Z9.on hb11; refine Hid.out ?_))
          clear R9 hRg Z9
          cases y
          · have hne : G ≠ fun _ => none := pairs_none hlg (fun h => absurd (hy2 h) (by decide))
            have HN := Lib.hid hne
            have Q0 := Z.start
            clear hy1 hy2 hne
            refine Lib.hid ?_
            go_wp2_with fail
            go_loopw [12] (fun q wr2 => ∃ (i : Nat) (e : Dk), i ≤ dn.length ∧ q = .int .i64 (i : Int) ∧ P2 w11 wr2 w1.heap.size w2.heap.size p2 i e (St dn i) ∧ Miss dn G i) (fun q _ => dn.length - (intOf q).toNat)
            case atStart => exact ⟨0, _, Nat.zero_le _, rfl, Q0, miss_zero _ _⟩
            case round =>
              obtain ⟨i, e, hile, rfl, hq, hmi⟩ := hrel
              by_cases hlt : i < dn.length
              · have hlt' := int_lt hlt
                have iS := i_small hlt DN30
                have HK := Lib.hid (wrap_x iS.1)
                obtain ⟨x, hx⟩ : ∃ x, dn[i]? = some x := ⟨_, List.getElem?_eq_getElem hlt⟩
                obtain ⟨hfit, hx3, hkd⟩ := HX.out.all x (List.mem_of_getElem? hx)
                have hcan : Can (St dn i) x := HX.out.can i x hx
                obtain ⟨g, o, rfl, hg, hgl, hrow⟩ := Z.acts.row (k := i) (r := x.cells) (by rw [List.getElem?_map, hx]; rfl)
                have hno := se_no (E0 := w1.heap.size) hg Z.em
                obtain ⟨kind, name, na, nm, st⟩ := x
                have k0 : w11.cell? ⟨g, o + i * 5, none⟩ = some (.int .i64 kind) := hrow 0 _ rfl
                have k1 : w11.cell? ⟨g, o + i * 5 + 1, none⟩ = some (.string name) := hrow 1 _ rfl
                have k2 : w11.cell? ⟨g, o + i * 5 + 2, none⟩ = some (.int .i64 na) := hrow 2 _ rfl
                have k3 : w11.cell? ⟨g, o + i * 5 + 3, none⟩ = some (.int .i64 nm) := hrow 3 _ rfl
                have k4 : w11.cell? ⟨g, o + i * 5 + 4, none⟩ = some (.string st) := hrow 4 _ rfl
                have d0_2 : wr.cell? ⟨g, o + i * 5, none⟩ = some (.int .i64 kind) := (ch_cell hq.ch hgl hno).trans k0; have d1_2 : wr.cell? ⟨g, o + i * 5 + 1, none⟩ = some (.string name) := (ch_cell hq.ch hgl hno).trans k1; have d2_2 : wr.cell? ⟨g, o + i * 5 + 2, none⟩ = some (.int .i64 na) := (ch_cell hq.ch hgl hno).trans k2; have d3_2 : wr.cell? ⟨g, o + i * 5 + 3, none⟩ = some (.int .i64 nm) := (ch_cell hq.ch hgl hno).trans k3; have d4_2 : wr.cell? ⟨g, o + i * 5 + 4, none⟩ = some (.string st) := (ch_cell hq.ch hgl hno).trans k4
                have HF := Lib.hid (And.intro hfit (And.intro hkd (And.intro hcan (And.intro hno (And.intro hx hmi)))))
                have HQ := Lib.hid hq
                clear hrow hx hmi hq hg hno hfit hcan
                by_cases hkz : kind = 0
                · subst hkz
                  go_wp2_with fail
                  go_loopw [13] (fun q wq => ∃ m : Nat, m ≤ st.size ∧ q = .int .i64 (m : Int) ∧ P2 w11 wq w1.heap.size w2.heap.size p2 i e (St dn i) ∧ ∀ q, q < m → G ≠ Torn dn i ⟨0, name, na, nm, st⟩ q) (fun q _ => st.size - (intOf q).toNat)
                  case atStart => exact ⟨0, Nat.zero_le _, rfl, HQ.out, fun q hq => absurd hq (Nat.not_lt_zero q)⟩
                  case round =>
                    obtain ⟨m, hmle, rfl, hq2, hto⟩ := hrel
                    have d0_3 : wr.cell? ⟨g, o + i * 5, none⟩ = some (.int .i64 0) := (ch_cell hq2.ch hgl HF.out.2.2.2.1).trans k0; have d1_3 : wr.cell? ⟨g, o + i * 5 + 1, none⟩ = some (.string name) := (ch_cell hq2.ch hgl HF.out.2.2.2.1).trans k1; have d2_3 : wr.cell? ⟨g, o + i * 5 + 2, none⟩ = some (.int .i64 na) := (ch_cell hq2.ch hgl HF.out.2.2.2.1).trans k2; have d3_3 : wr.cell? ⟨g, o + i * 5 + 3, none⟩ = some (.int .i64 nm) := (ch_cell hq2.ch hgl HF.out.2.2.2.1).trans k3; have d4_3 : wr.cell? ⟨g, o + i * 5 + 4, none⟩ = some (.string st) := (ch_cell hq2.ch hgl HF.out.2.2.2.1).trans k4
                    by_cases hml : m < st.size
                    · have hml' := int_lt hml
                      go_wp2_with fail
                      have hgr := Nat.lt_of_lt_of_le hgl hq2.ch.size
                      have B0 : Below wr.heap.size wr wr.drew := (Below.refl _ _).drew
                      go_region_held3 (fun W => W.cell? ⟨g, o + i * 5 + 1, none⟩ = some (.string name) ∧ W.cell? ⟨g, o + i * 5 + 2, none⟩ = some (.int .i64 na) ∧ W.cell? ⟨g, o + i * 5 + 4, none⟩ = some (.string st) ∧ Below wr.heap.size wr W)
                        (first
                          | exact ⟨d1_3, d2_3, d4_3, B0⟩
                          | exact keep3 hgr d1_3 d2_3 d4_3 (B0.alloc (Nat.le_refl _) _)
                          | exact keep3 hgr d1_3 d2_3 d4_3 (bel_put (bel_put (bel_put (bel_put (B0.alloc (Nat.le_refl _) _) (Nat.le_refl _)) (Nat.le_refl _)) (Nat.le_refl _)) (Nat.le_refl _)))
                        (first | fail)
                      have x30 : (wr.alloc (.cells #[.int .i64 0, .string name, .int .i64 na, .string (st.extract 0 m)] 36)).drew.heap[wr.heap.size]? = some (.cells #[.int .i64 0, .string name, .int .i64 na, .string (st.extract 0 m)] 36 (0, 0)) := Mem.new wr _
                      have m30 := hq2.on (((Below.refl wr.heap.size wr).alloc (Nat.le_refl _) (.cells #[.int .i64 0, .string name, .int .i64 na, .string (st.extract 0 m)] 36)).drew)
                      have m30d := m30.on (Below.refl _ _).drew
                      have HT := Lib.hid hto
                      have HMM := Lib.hid hml
                      have HGR := Lib.hid (And.intro hgr hq2)
                      clear hto hml hgr hq2 B0 d0_3 d1_3 d2_3 d3_3 d4_3
                      refine Lib.hid ?_
                      go_wp2_with fail
                      go_region_held3 (fun W => W.cell? ⟨wr.heap.size, 0, none⟩ = some (.int .i64 0) ∧ W.cell? ⟨wr.heap.size, 1, none⟩ = some (.string name) ∧ W.cell? ⟨wr.heap.size, 2, none⟩ = some (.int .i64 na) ∧ W.cell? ⟨wr.heap.size, 3, none⟩ = some (.string (st.extract 0 m)) ∧ P2 w11 W w1.heap.size w2.heap.size p2 i e (St dn i))
                        (first | exact keep4 x33 m33 | exact keep4 x32 m32 | exact keep4 x31 m31 | exact keep4 x30 m30d | exact keep4 x30 m30)
                        (first
                          | (go_at_call 9; refine (m30d.files iS.2.2.1).mono ?_; rintro _ w31 ⟨v31, l31, rfl, hl31, hn31, hR31, hb31⟩; have m31 := m30d.on hb31; have x31 := (hb31.block wr.heap.size (Mem.lt x30)).trans x30)
                          | (go_at_call 13; refine (m31.torn HF.out.1 rfl HF.out.2.2.1 HMM.out hl31 (Nat.le_trans hn31 iS.2.2.2.2) hR31).mono ?_; rintro _ w32 ⟨v32, fl32, rfl, hR32, hb32, hfl32⟩; have m32 := m31.on hb32; have x32 := (hb32.block wr.heap.size (Mem.lt x31)).trans x31; have G32 := Z.gotAt m32.ch)
                          | (go_at_call 12; refine (Same_or fl32 (pairsF G lg) _ _ _ _ _ hR32 G32).mono ?_; rintro _ w33 ⟨y3, rfl, ht1, ht2, hb33⟩; have m33 := m32.on hb33; have x33 := (hb33.block wr.heap.size (Mem.lt x32)).trans x32))
                      cases y3
                      · have HM := Lib.hid (to_next HT.out (fun e => absurd (ht2 (hfl32 lg G hlg e)) (by decide)))
                        have HMR := Lib.hid m33
                        clear ht1 ht2 hfl32 x31 x32 x33 m30 m30d m31 m32 m33 hR31 hR32 G32 hl31 hb31 hb32 hb33
                        go_wp2_with fail
                        go_roundw
                        case rel => exact ⟨m + 1, HMM.out, by go_num, HMR.out, HM.out⟩
                        case measure => first | exact measX HMM.out | (rw [wrap_big HMM.out hx3]; exact measX HMM.out)
                      · have HMR := Lib.hid m33
                        clear ht1 ht2 hfl32 x31 x32 x33 m30 m30d m31 m32 m33 hR31 hR32 G32 hl31 hb31 hb32 hb33
                        go_wp2_with fail
                        go_ret
                        exact ⟨rfl, Z.done HMR.out.ch⟩
                    · have hml' := int_not hml
                      have hms := Nat.le_antisymm hmle (Nat.le_of_not_lt hml)
                      have HT := Lib.hid (show ∀ q, q < st.size → G ≠ Torn dn i ⟨0, name, na, nm, st⟩ q by rw [← hms]; exact hto)
                      clear hto hms
                      have hdo := (hq2).does ⟨0, name, na, nm, st⟩ HF.out.1 HF.out.2.1 HF.out.2.2.1 iS.2.1
                      rw [← St_next HF.out.2.2.2.2.1] at hdo
                      go_wp2_with (first
                        | (go_at_call 8; refine hdo.mono ?_; rintro _ w20 ⟨r0, rfl, q20⟩; have hfs := q20.files iS.2.2.2.1; have G20 := Z.gotAt q20.ch)
                        | (go_at_call 9; refine hfs.mono ?_; rintro _ w21 ⟨v21, l21, rfl, hl21, hn21, hR21, hb21⟩; have G21 := G20.below hb21)
                        | (go_at_call 12; refine (Same_or (pairsF (St dn (i + 1)) l21) (pairsF G lg) _ _ _ _ _ hR21 G21).mono ?_; rintro _ w22 ⟨y2, rfl, hs1, hs2, hb22⟩; refine Hid.out ?_))
                      cases y2
                      · have HM := Lib.hid (HF.out.2.2.2.2.2.next HF.out.2.2.2.2.1 (fun _ => HT.out) (fun e => absurd (hs2 (pairs_same hl21 hlg e)) (by decide)))
                        clear hs1 hs2
                        refine Lib.hid ?_
                        go_wp2_with fail
                        go_roundw
                        case rel => exact ⟨i + 1, _, hlt, by go_num, (q20.on hb21).on hb22, HM.out⟩
                        case measure => first | exact measX hlt | (rw [HK.out]; exact measX hlt)
                      · refine Lib.hid ?_
                        go_wp2_with fail
                        go_ret
                        exact ⟨rfl, Z.done ((q20.on hb21).on hb22).ch⟩
                · have HT := Lib.hid (show kind = 0 → ∀ q, q < st.size → G ≠ Torn dn i ⟨kind, name, na, nm, st⟩ q from fun h => absurd h hkz)
                  have hdo := (HQ.out).does ⟨kind, name, na, nm, st⟩ HF.out.1 HF.out.2.1 HF.out.2.2.1 iS.2.1
                  rw [← St_next HF.out.2.2.2.2.1] at hdo
                  go_wp2_with (first
                    | (go_at_call 8; refine hdo.mono ?_; rintro _ w20 ⟨r0, rfl, q20⟩; have hfs := q20.files iS.2.2.2.1; have G20 := Z.gotAt q20.ch)
                    | (go_at_call 9; refine hfs.mono ?_; rintro _ w21 ⟨v21, l21, rfl, hl21, hn21, hR21, hb21⟩; have G21 := G20.below hb21)
                    | (go_at_call 12; refine (Same_or (pairsF (St dn (i + 1)) l21) (pairsF G lg) _ _ _ _ _ hR21 G21).mono ?_; rintro _ w22 ⟨y2, rfl, hs1, hs2, hb22⟩; refine Hid.out ?_))
                  cases y2
                  · have HM := Lib.hid (HF.out.2.2.2.2.2.next HF.out.2.2.2.2.1 HT.out (fun e => absurd (hs2 (pairs_same hl21 hlg e)) (by decide)))
                    clear hs1 hs2
                    refine Lib.hid ?_
                    go_wp2_with fail
                    go_roundw
                    case rel => exact ⟨i + 1, _, hlt, by go_num, (q20.on hb21).on hb22, HM.out⟩
                    case measure => first | exact measX hlt | (rw [HK.out]; exact measX hlt)
                  · refine Lib.hid ?_
                    go_wp2_with fail
                    go_ret
                    exact ⟨rfl, Z.done ((q20.on hb21).on hb22).ch⟩
              · have hge := int_not hlt
                have hil := Nat.le_antisymm hile (Nat.le_of_not_lt hlt)
                subst hil
                exact (hmi.never HP.out.2.1 HN.out).elim
          · refine Lib.hid ?_
            go_wp2_with fail
            go_ret
            exact ⟨rfl, Z.bel⟩
      · go_wp2_with (first
          | (go_at_call 9; refine hfi.mono ?_; rintro _ w6 ⟨vw, lw, rfl, hlw, hRw, hb6⟩; refine Hid.out ?_))
        have E6 := HX.out.wants hb6
        have R6 := rdIn hRw
        have hfl := E6.fail k HL.out.2.2 jF (Nat.le_refl _) zE z01'
        clear hRw hb6
        refine Lib.hid ?_
        go_wp2_with (first
          | (go_at_call 10; refine hfl.mono ?_; rintro _ w7 ⟨rfl, hc7, E7⟩; have R7 := rd_wait R6 hc7; have hwk := E7.wake (Nat.le_refl _) zE z01'; clear hfl R6 E6)
          | (go_at_call 11; refine hwk.mono ?_; rintro _ w8 ⟨rfl, hc8, E8⟩; have R8 := rd_wait R7 hc8; have hfg := Files_up _ p j _ w8 E8.D rfl jM; clear hwk R7 E7)
          | (go_at_call 9; refine hfg.mono ?_; rintro _ w9 ⟨vg, lg, rfl, hlg, hRg, hb9⟩; refine Hid.out ?_))
        have hnw : (d.fail k).woken.now = G := HP.out.2.2.2.2.1
        rw [pairs_eq (d := (d.fail k).woken) hlg rfl (by rw [hnw]; exact HP.out.2.2.1), hnw] at hRg
        rw [hnw] at hlg
        rw [pairs_eq hlw HX.out.st.up (by rw [HX.out.now]; exact HP.out.2.2.2.2.2), HX.out.now, ← HP.out.1] at R8
        rw [HX.out.now, ← HP.out.1] at hlw
        have R9 := R8.below hb9
        have Z9 := E8.made hb9 hRg HE.out.1 HE.out.2 rfl zN z01'
        have tokS : True := trivial
        clear hfg R8 E8 hb9 hc7 hc8
        by_cases hk2 : (200000 : Int) < k
        · have hsame : pairsF G lg = pairsF A lw := (pairs_same hlw hlg (HP.out.2.2.2.1 hk2)).symm
          refine Lib.hid ?_
          go_wp2_with (first
            | (go_at_call 12; have _t := tokS; refine (Same_any (pairsF G lg) (pairsF A lw) _ _ _ _ _ hRg R9).mono ?_; rw [decide_eq_true hsame]; rintro _ w10 ⟨rfl, hb10⟩; have Z10 := Z9.on hb10; clear tokS)
            | (go_at_call 12; refine (Same_or (pairsF G lg) [] _ _ _ _ _ Z10.got (Mem.Rd.nil _ (fun _ => True) _)).mono ?_; rintro _ w11 ⟨y, rfl, hy1, hy2, hb11⟩; have Z := Z10.on hb11; refine Hid.out ?_))
          clear R9 hRg Z9 Z10
          cases y
          · have hne : G ≠ fun _ => none := pairs_none hlg (fun h => absurd (hy2 h) (by decide))
            have HN := Lib.hid hne
            have Q0 := Z.start
            clear hy1 hy2 hne
            refine Lib.hid ?_
            go_wp2_with fail
            go_loopw [12] (fun q wr2 => ∃ (i : Nat) (e : Dk), i ≤ dn.length ∧ q = .int .i64 (i : Int) ∧ P2 w11 wr2 w1.heap.size w2.heap.size p2 i e (St dn i) ∧ Miss dn G i) (fun q _ => dn.length - (intOf q).toNat)
            case atStart => exact ⟨0, _, Nat.zero_le _, rfl, Q0, miss_zero _ _⟩
            case round =>
              obtain ⟨i, e, hile, rfl, hq, hmi⟩ := hrel
              by_cases hlt : i < dn.length
              · have hlt' := int_lt hlt
                have iS := i_small hlt DN30
                have HK := Lib.hid (wrap_x iS.1)
                obtain ⟨x, hx⟩ : ∃ x, dn[i]? = some x := ⟨_, List.getElem?_eq_getElem hlt⟩
                obtain ⟨hfit, hx3, hkd⟩ := HX.out.all x (List.mem_of_getElem? hx)
                have hcan : Can (St dn i) x := HX.out.can i x hx
                obtain ⟨g, o, rfl, hg, hgl, hrow⟩ := Z.acts.row (k := i) (r := x.cells) (by rw [List.getElem?_map, hx]; rfl)
                have hno := se_no (E0 := w1.heap.size) hg Z.em
                obtain ⟨kind, name, na, nm, st⟩ := x
                have k0 : w11.cell? ⟨g, o + i * 5, none⟩ = some (.int .i64 kind) := hrow 0 _ rfl
                have k1 : w11.cell? ⟨g, o + i * 5 + 1, none⟩ = some (.string name) := hrow 1 _ rfl
                have k2 : w11.cell? ⟨g, o + i * 5 + 2, none⟩ = some (.int .i64 na) := hrow 2 _ rfl
                have k3 : w11.cell? ⟨g, o + i * 5 + 3, none⟩ = some (.int .i64 nm) := hrow 3 _ rfl
                have k4 : w11.cell? ⟨g, o + i * 5 + 4, none⟩ = some (.string st) := hrow 4 _ rfl
                have d0_2 : wr.cell? ⟨g, o + i * 5, none⟩ = some (.int .i64 kind) := (ch_cell hq.ch hgl hno).trans k0; have d1_2 : wr.cell? ⟨g, o + i * 5 + 1, none⟩ = some (.string name) := (ch_cell hq.ch hgl hno).trans k1; have d2_2 : wr.cell? ⟨g, o + i * 5 + 2, none⟩ = some (.int .i64 na) := (ch_cell hq.ch hgl hno).trans k2; have d3_2 : wr.cell? ⟨g, o + i * 5 + 3, none⟩ = some (.int .i64 nm) := (ch_cell hq.ch hgl hno).trans k3; have d4_2 : wr.cell? ⟨g, o + i * 5 + 4, none⟩ = some (.string st) := (ch_cell hq.ch hgl hno).trans k4
                have HF := Lib.hid (And.intro hfit (And.intro hkd (And.intro hcan (And.intro hno (And.intro hx hmi)))))
                have HQ := Lib.hid hq
                clear hrow hx hmi hq hg hno hfit hcan
                by_cases hkz : kind = 0
                · subst hkz
                  go_wp2_with fail
                  go_loopw [13] (fun q wq => ∃ m : Nat, m ≤ st.size ∧ q = .int .i64 (m : Int) ∧ P2 w11 wq w1.heap.size w2.heap.size p2 i e (St dn i) ∧ ∀ q, q < m → G ≠ Torn dn i ⟨0, name, na, nm, st⟩ q) (fun q _ => st.size - (intOf q).toNat)
                  case atStart => exact ⟨0, Nat.zero_le _, rfl, HQ.out, fun q hq => absurd hq (Nat.not_lt_zero q)⟩
                  case round =>
                    obtain ⟨m, hmle, rfl, hq2, hto⟩ := hrel
                    have d0_3 : wr.cell? ⟨g, o + i * 5, none⟩ = some (.int .i64 0) := (ch_cell hq2.ch hgl HF.out.2.2.2.1).trans k0; have d1_3 : wr.cell? ⟨g, o + i * 5 + 1, none⟩ = some (.string name) := (ch_cell hq2.ch hgl HF.out.2.2.2.1).trans k1; have d2_3 : wr.cell? ⟨g, o + i * 5 + 2, none⟩ = some (.int .i64 na) := (ch_cell hq2.ch hgl HF.out.2.2.2.1).trans k2; have d3_3 : wr.cell? ⟨g, o + i * 5 + 3, none⟩ = some (.int .i64 nm) := (ch_cell hq2.ch hgl HF.out.2.2.2.1).trans k3; have d4_3 : wr.cell? ⟨g, o + i * 5 + 4, none⟩ = some (.string st) := (ch_cell hq2.ch hgl HF.out.2.2.2.1).trans k4
                    by_cases hml : m < st.size
                    · have hml' := int_lt hml
                      go_wp2_with fail
                      have hgr := Nat.lt_of_lt_of_le hgl hq2.ch.size
                      have B0 : Below wr.heap.size wr wr.drew := (Below.refl _ _).drew
                      go_region_held3 (fun W => W.cell? ⟨g, o + i * 5 + 1, none⟩ = some (.string name) ∧ W.cell? ⟨g, o + i * 5 + 2, none⟩ = some (.int .i64 na) ∧ W.cell? ⟨g, o + i * 5 + 4, none⟩ = some (.string st) ∧ Below wr.heap.size wr W)
                        (first
                          | exact ⟨d1_3, d2_3, d4_3, B0⟩
                          | exact keep3 hgr d1_3 d2_3 d4_3 (B0.alloc (Nat.le_refl _) _)
                          | exact keep3 hgr d1_3 d2_3 d4_3 (bel_put (bel_put (bel_put (bel_put (B0.alloc (Nat.le_refl _) _) (Nat.le_refl _)) (Nat.le_refl _)) (Nat.le_refl _)) (Nat.le_refl _)))
                        (first | fail)
                      have x30 : (wr.alloc (.cells #[.int .i64 0, .string name, .int .i64 na, .string (st.extract 0 m)] 36)).drew.heap[wr.heap.size]? = some (.cells #[.int .i64 0, .string name, .int .i64 na, .string (st.extract 0 m)] 36 (0, 0)) := Mem.new wr _
                      have m30 := hq2.on (((Below.refl wr.heap.size wr).alloc (Nat.le_refl _) (.cells #[.int .i64 0, .string name, .int .i64 na, .string (st.extract 0 m)] 36)).drew)
                      have m30d := m30.on (Below.refl _ _).drew
                      have HT := Lib.hid hto
                      have HMM := Lib.hid hml
                      have HGR := Lib.hid (And.intro hgr hq2)
                      clear hto hml hgr hq2 B0 d0_3 d1_3 d2_3 d3_3 d4_3
                      refine Lib.hid ?_
                      go_wp2_with fail
                      go_region_held3 (fun W => W.cell? ⟨wr.heap.size, 0, none⟩ = some (.int .i64 0) ∧ W.cell? ⟨wr.heap.size, 1, none⟩ = some (.string name) ∧ W.cell? ⟨wr.heap.size, 2, none⟩ = some (.int .i64 na) ∧ W.cell? ⟨wr.heap.size, 3, none⟩ = some (.string (st.extract 0 m)) ∧ P2 w11 W w1.heap.size w2.heap.size p2 i e (St dn i))
                        (first | exact keep4 x33 m33 | exact keep4 x32 m32 | exact keep4 x31 m31 | exact keep4 x30 m30d | exact keep4 x30 m30)
                        (first
                          | (go_at_call 9; refine (m30d.files iS.2.2.1).mono ?_; rintro _ w31 ⟨v31, l31, rfl, hl31, hn31, hR31, hb31⟩; have m31 := m30d.on hb31; have x31 := (hb31.block wr.heap.size (Mem.lt x30)).trans x30)
                          | (go_at_call 13; refine (m31.torn HF.out.1 rfl HF.out.2.2.1 HMM.out hl31 (Nat.le_trans hn31 iS.2.2.2.2) hR31).mono ?_; rintro _ w32 ⟨v32, fl32, rfl, hR32, hb32, hfl32⟩; have m32 := m31.on hb32; have x32 := (hb32.block wr.heap.size (Mem.lt x31)).trans x31; have G32 := Z.gotAt m32.ch)
                          | (go_at_call 12; refine (Same_or fl32 (pairsF G lg) _ _ _ _ _ hR32 G32).mono ?_; rintro _ w33 ⟨y3, rfl, ht1, ht2, hb33⟩; have m33 := m32.on hb33; have x33 := (hb33.block wr.heap.size (Mem.lt x32)).trans x32))
                      cases y3
                      · have HM := Lib.hid (to_next HT.out (fun e => absurd (ht2 (hfl32 lg G hlg e)) (by decide)))
                        have HMR := Lib.hid m33
                        clear ht1 ht2 hfl32 x31 x32 x33 m30 m30d m31 m32 m33 hR31 hR32 G32 hl31 hb31 hb32 hb33
                        go_wp2_with fail
                        go_roundw
                        case rel => exact ⟨m + 1, HMM.out, by go_num, HMR.out, HM.out⟩
                        case measure => first | exact measX HMM.out | (rw [wrap_big HMM.out hx3]; exact measX HMM.out)
                      · have HMR := Lib.hid m33
                        clear ht1 ht2 hfl32 x31 x32 x33 m30 m30d m31 m32 m33 hR31 hR32 G32 hl31 hb31 hb32 hb33
                        go_wp2_with fail
                        go_ret
                        exact ⟨rfl, Z.done HMR.out.ch⟩
                    · have hml' := int_not hml
                      have hms := Nat.le_antisymm hmle (Nat.le_of_not_lt hml)
                      have HT := Lib.hid (show ∀ q, q < st.size → G ≠ Torn dn i ⟨0, name, na, nm, st⟩ q by rw [← hms]; exact hto)
                      clear hto hms
                      have hdo := (hq2).does ⟨0, name, na, nm, st⟩ HF.out.1 HF.out.2.1 HF.out.2.2.1 iS.2.1
                      rw [← St_next HF.out.2.2.2.2.1] at hdo
                      go_wp2_with (first
                        | (go_at_call 8; refine hdo.mono ?_; rintro _ w20 ⟨r0, rfl, q20⟩; have hfs := q20.files iS.2.2.2.1; have G20 := Z.gotAt q20.ch)
                        | (go_at_call 9; refine hfs.mono ?_; rintro _ w21 ⟨v21, l21, rfl, hl21, hn21, hR21, hb21⟩; have G21 := G20.below hb21)
                        | (go_at_call 12; refine (Same_or (pairsF (St dn (i + 1)) l21) (pairsF G lg) _ _ _ _ _ hR21 G21).mono ?_; rintro _ w22 ⟨y2, rfl, hs1, hs2, hb22⟩; refine Hid.out ?_))
                      cases y2
                      · have HM := Lib.hid (HF.out.2.2.2.2.2.next HF.out.2.2.2.2.1 (fun _ => HT.out) (fun e => absurd (hs2 (pairs_same hl21 hlg e)) (by decide)))
                        clear hs1 hs2
                        refine Lib.hid ?_
                        go_wp2_with fail
                        go_roundw
                        case rel => exact ⟨i + 1, _, hlt, by go_num, (q20.on hb21).on hb22, HM.out⟩
                        case measure => first | exact measX hlt | (rw [HK.out]; exact measX hlt)
                      · refine Lib.hid ?_
                        go_wp2_with fail
                        go_ret
                        exact ⟨rfl, Z.done ((q20.on hb21).on hb22).ch⟩
                · have HT := Lib.hid (show kind = 0 → ∀ q, q < st.size → G ≠ Torn dn i ⟨kind, name, na, nm, st⟩ q from fun h => absurd h hkz)
                  have hdo := (HQ.out).does ⟨kind, name, na, nm, st⟩ HF.out.1 HF.out.2.1 HF.out.2.2.1 iS.2.1
                  rw [← St_next HF.out.2.2.2.2.1] at hdo
                  go_wp2_with (first
                    | (go_at_call 8; refine hdo.mono ?_; rintro _ w20 ⟨r0, rfl, q20⟩; have hfs := q20.files iS.2.2.2.1; have G20 := Z.gotAt q20.ch)
                    | (go_at_call 9; refine hfs.mono ?_; rintro _ w21 ⟨v21, l21, rfl, hl21, hn21, hR21, hb21⟩; have G21 := G20.below hb21)
                    | (go_at_call 12; refine (Same_or (pairsF (St dn (i + 1)) l21) (pairsF G lg) _ _ _ _ _ hR21 G21).mono ?_; rintro _ w22 ⟨y2, rfl, hs1, hs2, hb22⟩; refine Hid.out ?_))
                  cases y2
                  · have HM := Lib.hid (HF.out.2.2.2.2.2.next HF.out.2.2.2.2.1 HT.out (fun e => absurd (hs2 (pairs_same hl21 hlg e)) (by decide)))
                    clear hs1 hs2
                    refine Lib.hid ?_
                    go_wp2_with fail
                    go_roundw
                    case rel => exact ⟨i + 1, _, hlt, by go_num, (q20.on hb21).on hb22, HM.out⟩
                    case measure => first | exact measX hlt | (rw [HK.out]; exact measX hlt)
                  · refine Lib.hid ?_
                    go_wp2_with fail
                    go_ret
                    exact ⟨rfl, Z.done ((q20.on hb21).on hb22).ch⟩
              · have hge := int_not hlt
                have hil := Nat.le_antisymm hile (Nat.le_of_not_lt hlt)
                subst hil
                exact (hmi.never HP.out.2.1 HN.out).elim
          · refine Lib.hid ?_
            go_wp2_with fail
            go_ret
            exact ⟨rfl, Z.bel⟩
        · refine Lib.hid ?_
          go_wp2_with (first
            | (go_at_call 12; refine (Same_or (pairsF G lg) [] _ _ _ _ _ Z9.got (Mem.Rd.nil _ (fun _ => True) _)).mono ?_; rintro _ w11 ⟨y, rfl, hy1, hy2, hb11⟩; have Z := Z9.on hb11; refine Hid.out ?_))
          clear R9 hRg Z9
          cases y
          · have hne : G ≠ fun _ => none := pairs_none hlg (fun h => absurd (hy2 h) (by decide))
            have HN := Lib.hid hne
            have Q0 := Z.start
            clear hy1 hy2 hne
            refine Lib.hid ?_
            go_wp2_with fail
            go_loopw [12] (fun q wr2 => ∃ (i : Nat) (e : Dk), i ≤ dn.length ∧ q = .int .i64 (i : Int) ∧ P2 w11 wr2 w1.heap.size w2.heap.size p2 i e (St dn i) ∧ Miss dn G i) (fun q _ => dn.length - (intOf q).toNat)
            case atStart => exact ⟨0, _, Nat.zero_le _, rfl, Q0, miss_zero _ _⟩
            case round =>
              obtain ⟨i, e, hile, rfl, hq, hmi⟩ := hrel
              by_cases hlt : i < dn.length
              · have hlt' := int_lt hlt
                have iS := i_small hlt DN30
                have HK := Lib.hid (wrap_x iS.1)
                obtain ⟨x, hx⟩ : ∃ x, dn[i]? = some x := ⟨_, List.getElem?_eq_getElem hlt⟩
                obtain ⟨hfit, hx3, hkd⟩ := HX.out.all x (List.mem_of_getElem? hx)
                have hcan : Can (St dn i) x := HX.out.can i x hx
                obtain ⟨g, o, rfl, hg, hgl, hrow⟩ := Z.acts.row (k := i) (r := x.cells) (by rw [List.getElem?_map, hx]; rfl)
                have hno := se_no (E0 := w1.heap.size) hg Z.em
                obtain ⟨kind, name, na, nm, st⟩ := x
                have k0 : w11.cell? ⟨g, o + i * 5, none⟩ = some (.int .i64 kind) := hrow 0 _ rfl
                have k1 : w11.cell? ⟨g, o + i * 5 + 1, none⟩ = some (.string name) := hrow 1 _ rfl
                have k2 : w11.cell? ⟨g, o + i * 5 + 2, none⟩ = some (.int .i64 na) := hrow 2 _ rfl
                have k3 : w11.cell? ⟨g, o + i * 5 + 3, none⟩ = some (.int .i64 nm) := hrow 3 _ rfl
                have k4 : w11.cell? ⟨g, o + i * 5 + 4, none⟩ = some (.string st) := hrow 4 _ rfl
                have d0_2 : wr.cell? ⟨g, o + i * 5, none⟩ = some (.int .i64 kind) := (ch_cell hq.ch hgl hno).trans k0; have d1_2 : wr.cell? ⟨g, o + i * 5 + 1, none⟩ = some (.string name) := (ch_cell hq.ch hgl hno).trans k1; have d2_2 : wr.cell? ⟨g, o + i * 5 + 2, none⟩ = some (.int .i64 na) := (ch_cell hq.ch hgl hno).trans k2; have d3_2 : wr.cell? ⟨g, o + i * 5 + 3, none⟩ = some (.int .i64 nm) := (ch_cell hq.ch hgl hno).trans k3; have d4_2 : wr.cell? ⟨g, o + i * 5 + 4, none⟩ = some (.string st) := (ch_cell hq.ch hgl hno).trans k4
                have HF := Lib.hid (And.intro hfit (And.intro hkd (And.intro hcan (And.intro hno (And.intro hx hmi)))))
                have HQ := Lib.hid hq
                clear hrow hx hmi hq hg hno hfit hcan
                by_cases hkz : kind = 0
                · subst hkz
                  go_wp2_with fail
                  go_loopw [13] (fun q wq => ∃ m : Nat, m ≤ st.size ∧ q = .int .i64 (m : Int) ∧ P2 w11 wq w1.heap.size w2.heap.size p2 i e (St dn i) ∧ ∀ q, q < m → G ≠ Torn dn i ⟨0, name, na, nm, st⟩ q) (fun q _ => st.size - (intOf q).toNat)
                  case atStart => exact ⟨0, Nat.zero_le _, rfl, HQ.out, fun q hq => absurd hq (Nat.not_lt_zero q)⟩
                  case round =>
                    obtain ⟨m, hmle, rfl, hq2, hto⟩ := hrel
                    have d0_3 : wr.cell? ⟨g, o + i * 5, none⟩ = some (.int .i64 0) := (ch_cell hq2.ch hgl HF.out.2.2.2.1).trans k0; have d1_3 : wr.cell? ⟨g, o + i * 5 + 1, none⟩ = some (.string name) := (ch_cell hq2.ch hgl HF.out.2.2.2.1).trans k1; have d2_3 : wr.cell? ⟨g, o + i * 5 + 2, none⟩ = some (.int .i64 na) := (ch_cell hq2.ch hgl HF.out.2.2.2.1).trans k2; have d3_3 : wr.cell? ⟨g, o + i * 5 + 3, none⟩ = some (.int .i64 nm) := (ch_cell hq2.ch hgl HF.out.2.2.2.1).trans k3; have d4_3 : wr.cell? ⟨g, o + i * 5 + 4, none⟩ = some (.string st) := (ch_cell hq2.ch hgl HF.out.2.2.2.1).trans k4
                    by_cases hml : m < st.size
                    · have hml' := int_lt hml
                      go_wp2_with fail
                      have hgr := Nat.lt_of_lt_of_le hgl hq2.ch.size
                      have B0 : Below wr.heap.size wr wr.drew := (Below.refl _ _).drew
                      go_region_held3 (fun W => W.cell? ⟨g, o + i * 5 + 1, none⟩ = some (.string name) ∧ W.cell? ⟨g, o + i * 5 + 2, none⟩ = some (.int .i64 na) ∧ W.cell? ⟨g, o + i * 5 + 4, none⟩ = some (.string st) ∧ Below wr.heap.size wr W)
                        (first
                          | exact ⟨d1_3, d2_3, d4_3, B0⟩
                          | exact keep3 hgr d1_3 d2_3 d4_3 (B0.alloc (Nat.le_refl _) _)
                          | exact keep3 hgr d1_3 d2_3 d4_3 (bel_put (bel_put (bel_put (bel_put (B0.alloc (Nat.le_refl _) _) (Nat.le_refl _)) (Nat.le_refl _)) (Nat.le_refl _)) (Nat.le_refl _)))
                        (first | fail)
                      have x30 : (wr.alloc (.cells #[.int .i64 0, .string name, .int .i64 na, .string (st.extract 0 m)] 36)).drew.heap[wr.heap.size]? = some (.cells #[.int .i64 0, .string name, .int .i64 na, .string (st.extract 0 m)] 36 (0, 0)) := Mem.new wr _
                      have m30 := hq2.on (((Below.refl wr.heap.size wr).alloc (Nat.le_refl _) (.cells #[.int .i64 0, .string name, .int .i64 na, .string (st.extract 0 m)] 36)).drew)
                      have m30d := m30.on (Below.refl _ _).drew
                      have HT := Lib.hid hto
                      have HMM := Lib.hid hml
                      have HGR := Lib.hid (And.intro hgr hq2)
                      clear hto hml hgr hq2 B0 d0_3 d1_3 d2_3 d3_3 d4_3
                      refine Lib.hid ?_
                      go_wp2_with fail
                      go_region_held3 (fun W => W.cell? ⟨wr.heap.size, 0, none⟩ = some (.int .i64 0) ∧ W.cell? ⟨wr.heap.size, 1, none⟩ = some (.string name) ∧ W.cell? ⟨wr.heap.size, 2, none⟩ = some (.int .i64 na) ∧ W.cell? ⟨wr.heap.size, 3, none⟩ = some (.string (st.extract 0 m)) ∧ P2 w11 W w1.heap.size w2.heap.size p2 i e (St dn i))
                        (first | exact keep4 x33 m33 | exact keep4 x32 m32 | exact keep4 x31 m31 | exact keep4 x30 m30d | exact keep4 x30 m30)
                        (first
                          | (go_at_call 9; refine (m30d.files iS.2.2.1).mono ?_; rintro _ w31 ⟨v31, l31, rfl, hl31, hn31, hR31, hb31⟩; have m31 := m30d.on hb31; have x31 := (hb31.block wr.heap.size (Mem.lt x30)).trans x30)
                          | (go_at_call 13; refine (m31.torn HF.out.1 rfl HF.out.2.2.1 HMM.out hl31 (Nat.le_trans hn31 iS.2.2.2.2) hR31).mono ?_; rintro _ w32 ⟨v32, fl32, rfl, hR32, hb32, hfl32⟩; have m32 := m31.on hb32; have x32 := (hb32.block wr.heap.size (Mem.lt x31)).trans x31; have G32 := Z.gotAt m32.ch)
                          | (go_at_call 12; refine (Same_or fl32 (pairsF G lg) _ _ _ _ _ hR32 G32).mono ?_; rintro _ w33 ⟨y3, rfl, ht1, ht2, hb33⟩; have m33 := m32.on hb33; have x33 := (hb33.block wr.heap.size (Mem.lt x32)).trans x32))
                      cases y3
                      · have HM := Lib.hid (to_next HT.out (fun e => absurd (ht2 (hfl32 lg G hlg e)) (by decide)))
                        have HMR := Lib.hid m33
                        clear ht1 ht2 hfl32 x31 x32 x33 m30 m30d m31 m32 m33 hR31 hR32 G32 hl31 hb31 hb32 hb33
                        go_wp2_with fail
                        go_roundw
                        case rel => exact ⟨m + 1, HMM.out, by go_num, HMR.out, HM.out⟩
                        case measure => first | exact measX HMM.out | (rw [wrap_big HMM.out hx3]; exact measX HMM.out)
                      · have HMR := Lib.hid m33
                        clear ht1 ht2 hfl32 x31 x32 x33 m30 m30d m31 m32 m33 hR31 hR32 G32 hl31 hb31 hb32 hb33
                        go_wp2_with fail
                        go_ret
                        exact ⟨rfl, Z.done HMR.out.ch⟩
                    · have hml' := int_not hml
                      have hms := Nat.le_antisymm hmle (Nat.le_of_not_lt hml)
                      have HT := Lib.hid (show ∀ q, q < st.size → G ≠ Torn dn i ⟨0, name, na, nm, st⟩ q by rw [← hms]; exact hto)
                      clear hto hms
                      have hdo := (hq2).does ⟨0, name, na, nm, st⟩ HF.out.1 HF.out.2.1 HF.out.2.2.1 iS.2.1
                      rw [← St_next HF.out.2.2.2.2.1] at hdo
                      go_wp2_with (first
                        | (go_at_call 8; refine hdo.mono ?_; rintro _ w20 ⟨r0, rfl, q20⟩; have hfs := q20.files iS.2.2.2.1; have G20 := Z.gotAt q20.ch)
                        | (go_at_call 9; refine hfs.mono ?_; rintro _ w21 ⟨v21, l21, rfl, hl21, hn21, hR21, hb21⟩; have G21 := G20.below hb21)
                        | (go_at_call 12; refine (Same_or (pairsF (St dn (i + 1)) l21) (pairsF G lg) _ _ _ _ _ hR21 G21).mono ?_; rintro _ w22 ⟨y2, rfl, hs1, hs2, hb22⟩; refine Hid.out ?_))
                      cases y2
                      · have HM := Lib.hid (HF.out.2.2.2.2.2.next HF.out.2.2.2.2.1 (fun _ => HT.out) (fun e => absurd (hs2 (pairs_same hl21 hlg e)) (by decide)))
                        clear hs1 hs2
                        refine Lib.hid ?_
                        go_wp2_with fail
                        go_roundw
                        case rel => exact ⟨i + 1, _, hlt, by go_num, (q20.on hb21).on hb22, HM.out⟩
                        case measure => first | exact measX hlt | (rw [HK.out]; exact measX hlt)
                      · refine Lib.hid ?_
                        go_wp2_with fail
                        go_ret
                        exact ⟨rfl, Z.done ((q20.on hb21).on hb22).ch⟩
                · have HT := Lib.hid (show kind = 0 → ∀ q, q < st.size → G ≠ Torn dn i ⟨kind, name, na, nm, st⟩ q from fun h => absurd h hkz)
                  have hdo := (HQ.out).does ⟨kind, name, na, nm, st⟩ HF.out.1 HF.out.2.1 HF.out.2.2.1 iS.2.1
                  rw [← St_next HF.out.2.2.2.2.1] at hdo
                  go_wp2_with (first
                    | (go_at_call 8; refine hdo.mono ?_; rintro _ w20 ⟨r0, rfl, q20⟩; have hfs := q20.files iS.2.2.2.1; have G20 := Z.gotAt q20.ch)
                    | (go_at_call 9; refine hfs.mono ?_; rintro _ w21 ⟨v21, l21, rfl, hl21, hn21, hR21, hb21⟩; have G21 := G20.below hb21)
                    | (go_at_call 12; refine (Same_or (pairsF (St dn (i + 1)) l21) (pairsF G lg) _ _ _ _ _ hR21 G21).mono ?_; rintro _ w22 ⟨y2, rfl, hs1, hs2, hb22⟩; refine Hid.out ?_))
                  cases y2
                  · have HM := Lib.hid (HF.out.2.2.2.2.2.next HF.out.2.2.2.2.1 HT.out (fun e => absurd (hs2 (pairs_same hl21 hlg e)) (by decide)))
                    clear hs1 hs2
                    refine Lib.hid ?_
                    go_wp2_with fail
                    go_roundw
                    case rel => exact ⟨i + 1, _, hlt, by go_num, (q20.on hb21).on hb22, HM.out⟩
                    case measure => first | exact measX hlt | (rw [HK.out]; exact measX hlt)
                  · refine Lib.hid ?_
                    go_wp2_with fail
                    go_ret
                    exact ⟨rfl, Z.done ((q20.on hb21).on hb22).ch⟩
              · have hge := int_not hlt
                have hil := Nat.le_antisymm hile (Nat.le_of_not_lt hlt)
                subst hil
                exact (hmi.never HP.out.2.1 HN.out).elim
          · refine Lib.hid ?_
            go_wp2_with fail
            go_ret
            exact ⟨rfl, Z.bel⟩
end Go.Proofs.YtpdceondgbgpkaaDoor.Dsk
