/- DiskRoom: the walk. -/
import Derived.Test.YtpdceondgbgpkaaDoorDskR1
import Derived.Test.YtpdceondgbgpkaaDoorDsk10
import Derived.Test.YtpdceondgbgpkaaDoorDsk9
namespace Go.Proofs.YtpdceondgbgpkaaDoor.Dsk
open Go.RowKit Go.Maps
set_option linter.unusedSimpArgs false
set_option linter.unusedVariables false
theorem act_rows' (l : List Act) : ∀ r ∈ l.map Act.cells, r.length = 5 := by
  intro r hr
  obtain ⟨x, _, rfl⟩ := List.mem_map.1 hr
  rfl
theorem Rd_in' {w : World} {ok : Nat → Prop} {sz : Nat} {v : Value} {rows : List (List Value)} (h : Mem.Rd w ok sz v rows) : Mem.Rd w (fun k => ok k ∧ k < w.heap.size) sz v rows := by
  obtain ⟨A, cap, e, h1, h2, h3, h4⟩ := h
  exact ⟨A, cap, e, h1, h2, fun hr => by obtain ⟨g, o, ea, hg, hl⟩ := h3 hr; exact ⟨g, o, ea, ⟨hg, hl⟩, hl⟩, h4⟩
theorem Rd_off' {B M0 M1 : Nat} {w w1 : World} {sz : Nat} {v : Value} {rows : List (List Value)} (h : Mem.Rd w (fun k => M0 ≤ k ∧ k < M1) sz v rows) (hc : Mem.Ch (Off B M0 M1) w w1) : Mem.Rd w1 (fun k => M0 ≤ k ∧ k < M1) sz v rows :=
  h.step hc.size (fun k hk hl => hc.block k hl (fun ho => by rcases ho.2 with h | h <;> omega))
theorem tm_in (a : Int) : -5000 < a.tmod 5000 ∧ a.tmod 5000 < 5000 := by
  have h := Int.natAbs_tmod a 5000
  rw [show (5000 : Int).natAbs = 5000 from rfl] at h
  omega
theorem wrap_one {j : Nat} (h : j < 60) : wrap64 ((j : Int) + 1) = (j : Int) + 1 := by unfold wrap64; omega
theorem off2_no {B M0 M1 a b g : Nat} (hg : M0 ≤ g ∧ g < M1) : ¬ Off2 B M0 M1 a b g := fun h => by rcases h.1.2 with h | h <;> omega
theorem rd_keep {B M0 M1 a b sz : Nat} {w w1 : World} {v : Value} {rows : List (List Value)} (h : Mem.Rd w (fun k => a ≤ k ∧ k < b) sz v rows) (hc : Mem.Ch (Off2 B M0 M1 a b) w w1) : Mem.Rd w1 (fun k => a ≤ k ∧ k < b) sz v rows :=
  Mem.Rd.ch h hc (fun k hk hS => by have := hk.1; have := hk.2; rcases hS.2 with h | h <;> omega)
theorem not_over {u n : Nat} (h : u ≤ n) : ¬ (n : Int) < (u : Int) := by omega
theorem le_big {u n : Nat} (h : u ≤ n) (hn : n ≤ 5000) : u ≤ 9223372036854775807 := by omega
theorem Rn.next {w5 w7 W : World} {B M0 M1 p N n a b : Nat} {d : Dk} (hc : Mem.Ch (Off B M0 M1) w5 w7) (hD : DiskAt w7 (Off2 B M0 M1 a b) p N d) (hb : Below w7.heap.size w7 W) (hr : Rm n d) : Rn w5 W B M0 M1 p N n d :=
  ⟨hc.trans' (Mem.Ch.of_below' hb), (hD.below hb).mono (fun k hk => hk.1), hr⟩
set_option maxRecDepth 100000 in
set_option maxHeartbeats 16000000 in
theorem DiskRoom_any (l : List Act) (v : Value) (n0 : Int) (ok : Nat → Prop) (w : World) (h : Mem.Rd w ok 5 v (l.map Act.cells)) (hl : ∀ x ∈ l, x.fit) (hn0 : -9223372036854775808 ≤ n0 ∧ n0 ≤ 9223372036854775807) :
    Calls Tryd.prog 4 #[v, .int .i64 n0] w fun r w' => r = .returned (.bool true) ∧ Below w.heap.size w w' := by
  have tokF : True := trivial
  have tokD : True := trivial
  obtain ⟨A0, cap0, rfl⟩ := h.slice
  have hll : (l.map Act.cells).length = l.length := List.length_map _
  rw [hll] at h ⊢
  have HR := Lib.hid h
  have HL := Lib.hid hl
  clear h hl hll
  obtain ⟨t, ht, ht1, ht2⟩ : ∃ t : Int, n0.tmod 5000 = t ∧ -5000 < t ∧ t < 5000 := ⟨_, rfl, (tm_in n0).1, (tm_in n0).2⟩
  obtain ⟨n, hn, hn1⟩ : ∃ n : Nat, (t + 5000).tmod 5000 = (n : Int) ∧ n < 5000 := ⟨((t + 5000).tmod 5000).toNat, by have := Int.tmod_nonneg 5000 (show 0 ≤ t + 5000 by omega); omega, by have := (tm_in (t + 5000)).2; omega⟩
  have hn5 : n ≤ 5000 := by omega
  have hwt : wrap64 (t + 5000) = t + 5000 := by unfold wrap64; omega
  go_enter Tryd.func4, Tryd.ntmps4
  go_wp2_with (first
    | (go_at_call 5; refine (New_any _).mono ?_; rintro _ w1 ⟨p, rfl, hb1, hD1⟩; have hX1 := hD1.mono (S' := fun k => w.heap.size ≤ k) (fun k hk => hk.1))
    | (go_at_call 6; refine (awake_any _).mono ?_; rintro _ w2 ⟨rfl, hb2⟩; have hX2 := hX1.below hb2; have hb12 := hb1.trans (hb2.mono hb1.size))
    | (go_at_call 14; refine (Room_any _ p 0 Dk.new _ _ hX2).mono ?_; rintro _ w3 ⟨rfl, hc3, hX3⟩; have hb13 := hb12.trans (hc3.below (B := w.heap.size) (fun k hk hS => by have : w.heap.size ≤ k := hS; omega) hb12.size))
    | (go_at_call 7; refine (most_any l _ ok _ (HR.out.below hb13)).mono ?_; rintro _ w5 ⟨vm, out, rfl, hown, hmem, hlen, hb5⟩; have hb15 := hb13.trans (hb5.mono hb13.size)))
  obtain ⟨Av, cv, rfl, hcv⟩ := Qu.q_slice (Qu.q_of_own hown)
  have hRd := Rd_in' (Mem.Rd.of_owns (rows := out.map Act.cells) hown (List.length_map _).symm (act_rows' out))
  have hD5 : DiskAt w5 (Off w.heap.size w3.heap.size w5.heap.size) p 0 _ := ((at_kept hX3).below hb5).mono (fun k hk => ⟨hk.1, .inl hk.2⟩)
  have h45 := hb5.size
  have h04 := hb13.size
  have HB := Lib.hid hb15
  have HI := Lib.hid (show Rn w5 w5 w.heap.size w3.heap.size w5.heap.size p 0 n _ from ⟨Mem.Ch.refl _ _, hD5, room_set rfl⟩)
  have HD := Lib.hid hRd
  clear hb1 hD1 hX1 hb2 hX2 hb12 hc3 hX3 hb13 hb5 hb15 hown hRd hD5 ht ht1 ht2 hn hwt
  go_loopw [7] (fun i wr => ∃ (j : Nat) (d : Dk), j ≤ out.length ∧ i = .int .i64 (j : Int) ∧ Rn w5 wr w.heap.size w3.heap.size w5.heap.size p j n d) (fun i _ => out.length - (intOf i).toNat)
  case atStart => exact ⟨0, _, Nat.zero_le _, rfl, HI.out⟩
  case round =>
    obtain ⟨j, d, hj, rfl, hr⟩ := hrel
    have hsz := hr.ch.size
    by_cases hlt : j < out.length
    · obtain ⟨x, hx⟩ : ∃ x, out[j]? = some x := ⟨_, List.getElem?_eq_getElem hlt⟩
      obtain ⟨g, o, rfl, hg, hgl, hrow⟩ := (Rd_off' HD.out hr.ch).row (k := j) (r := x.cells) (by rw [List.getElem?_map, hx]; rfl)
      have c0 : wr.cell? ⟨g, o + j * 5, none⟩ = some (.int .i64 x.kind) := hrow 0 _ rfl
      have c1 : wr.cell? ⟨g, o + j * 5 + 1, none⟩ = some (.string x.name) := hrow 1 _ rfl
      have c2 : wr.cell? ⟨g, o + j * 5 + 2, none⟩ = some (.int .i64 x.n) := hrow 2 _ rfl
      have c3 : wr.cell? ⟨g, o + j * 5 + 3, none⟩ = some (.int .i64 x.m) := hrow 3 _ rfl
      have c4 : wr.cell? ⟨g, o + j * 5 + 4, none⟩ = some (.string x.s) := hrow 4 _ rfl
      have hlt' : (j : Int) < (out.length : Int) := by omega
      have j60 : j < 60 := by omega
      have jA : j ≤ 1000000000 := by omega
      have jB : j < 1000000000 := by omega
      have jC : j + 1 ≤ 1000000000 := by omega
      have HK := Lib.hid (wrap_one j60)
      have hfit := HL.out x (hmem x (List.mem_of_getElem? hx))
      have HX := Lib.hid hr
      have hno : ∀ a b, ¬ Off2 w.heap.size w3.heap.size w5.heap.size a b g := fun a b => off2_no hg
      have HF := Lib.hid (And.intro hfit hno)
      clear hrow hx hfit hno hr
      obtain ⟨kind, name, n1, m1, st⟩ := x
      dsimp only at c0 c1 c2 c3 c4
      by_cases k8 : kind = 8
      · subst k8
        go_wp2_with fail
        go_roundw
        case rel => exact ⟨j + 1, d, hlt, by go_num, ⟨HX.out.ch, HX.out.D.more (Nat.le_succ j), HX.out.rm⟩⟩
        case measure => first | exact measR hlt | (rw [HK.out]; exact measR hlt)
      · have hfl := Files_any _ p j d wr HX.out.D jA
        go_wp2_with (first
          | (go_at_call 9; refine hfl.mono ?_; rintro _ w6 ⟨vw, fl, rfl, hfo, hRw, hb6⟩; have c06 := (hb6.cell (p := ⟨g, o + j * 5, none⟩) hgl).trans c0; have c16 := (hb6.cell (p := ⟨g, o + j * 5 + 1, none⟩) hgl).trans c1; have c26 := (hb6.cell (p := ⟨g, o + j * 5 + 2, none⟩) hgl).trans c2; have c36 := (hb6.cell (p := ⟨g, o + j * 5 + 3, none⟩) hgl).trans c3; have c46 := (hb6.cell (p := ⟨g, o + j * 5 + 4, none⟩) hgl).trans c4; have D6 : DiskAt w6 (Off2 w.heap.size w3.heap.size w5.heap.size wr.heap.size w6.heap.size) p j d := ((at_kept HX.out.D).below hb6).mono (fun k hk => ⟨hk.1, .inl hk.2⟩); have s6 := hb6.size)
          | (go_at_call 15; refine (Down_any _ p j d _ D6).mono ?_; rintro _ w6' ⟨rfl, rfl⟩)
          | (go_at_call 8; refine (Does_rm n hn5 _ p j d ⟨kind, name, n1, m1, st⟩ _ D6 HX.out.rm HF.out.1 k8 jB).mono ?_; rintro _ w7 ⟨e7, d7, rfl, hc7, hD7, hR7, he7⟩; refine Hid.out ?_))
        have D7 := hD7.mono (off2S (Nat.le_trans hsz s6) h45 h04 (Nat.le_refl _))
        have hgl6 := Nat.lt_of_lt_of_le hgl s6
        have c07 := (ch_cell (j := o + j * 5) hc7 hgl6 (HF.out.2 _ _)).trans c06
        have R7 := rd_keep hRw hc7
        have HC : Mem.Ch (Off w.heap.size w3.heap.size w5.heap.size) w5 w7 := (HX.out.ch.trans' (Mem.Ch.of_below' hb6)).trans' (hc7.mono (fun k _ hk => hk.1))
        have HN := Lib.hid (And.intro hfo (And.intro HC hR7))
        clear hfo HC hD7 hc7 hRw
        by_cases h7 : e7 = 7
        · subst h7
          obtain ⟨k0, rfl⟩ := he7 rfl
          subst k0
          have hfl2 := Files_any _ p (j + 1) d7 w7 D7 jC
          obtain ⟨u, hu, hun⟩ := hR7.now
          have hun' := not_over hun
          cases hdn : d7.down
          · refine Lib.hid ?_
            go_wp2_with (first
              | (go_at_call 9; refine hfl2.mono ?_; rintro _ w8 ⟨vn, fl2, rfl, hfo2, hRn, hb8⟩; have R8 := R7.below hb8; have D8 := D7.below hb8; have hfe := FilesOf.one HN.out.1 hfo2; subst hfe)
              | (go_at_call 12; refine (Same_any fl fl _ _ _ _ _ R8 hRn).mono ?_; rw [decide_eq_true rfl]; rintro _ w9 ⟨rfl, hb9⟩; have D9 := D8.below hb9)
              | (go_at_call 15; refine (Down_any _ p (j + 1) d7 _ D9).mono ?_; rw [hdn]; rintro _ w9' ⟨rfl, rfl⟩)
              | (go_at_call 16; refine (Used_up _ p (j + 1) d7 u _ D9 hdn hu (le_big hun hn5)).mono ?_; rintro _ w10 ⟨rfl, hb10⟩))
            go_roundw
            case rel => exact ⟨j + 1, d7, hlt, by go_num, Rn.next HN.out.2.1 D7 ((hb8.trans (hb9.mono hb8.size)).trans (hb10.mono (Nat.le_trans hb8.size hb9.size))) HN.out.2.2⟩
            case measure => first | exact measR hlt | (rw [HK.out]; exact measR hlt)
          · refine Lib.hid ?_
            go_wp2_with (first
              | (go_at_call 9; refine hfl2.mono ?_; rintro _ w8 ⟨vn, fl2, rfl, hfo2, hRn, hb8⟩; have R8 := R7.below hb8; have D8 := D7.below hb8; have hfe := FilesOf.one HN.out.1 hfo2; subst hfe)
              | (go_at_call 12; refine (Same_any fl fl _ _ _ _ _ R8 hRn).mono ?_; rw [decide_eq_true rfl]; rintro _ w9 ⟨rfl, hb9⟩; have D9 := D8.below hb9))
            go_roundw
            case rel => exact ⟨j + 1, d7, hlt, by go_num, Rn.next HN.out.2.1 D7 (hb8.trans (hb9.mono hb8.size)) HN.out.2.2⟩
            case measure => first | exact measR hlt | (rw [HK.out]; exact measR hlt)
        · clear he7
          obtain ⟨u, hu, hun⟩ := hR7.now
          have hun' := not_over hun
          cases hdn : d.down
          · cases hdn7 : d7.down
            · refine Lib.hid ?_
              go_wp2_with (first
                | (go_at_call 15; refine (Down_any _ p (j + 1) d7 _ D7).mono ?_; rw [hdn7]; rintro _ w9' ⟨rfl, rfl⟩)
                | (go_at_call 16; refine (Used_up _ p (j + 1) d7 u _ D7 hdn7 hu (le_big hun hn5)).mono ?_; rintro _ w10 ⟨rfl, hb10⟩))
              go_roundw
              case rel => exact ⟨j + 1, d7, hlt, by go_num, Rn.next HN.out.2.1 D7 hb10 HN.out.2.2⟩
              case measure => first | exact measR hlt | (rw [HK.out]; exact measR hlt)
            · refine Lib.hid ?_
              go_wp2_with (first
                | (go_at_call 15; refine (Down_any _ p (j + 1) d7 _ D7).mono ?_; rw [hdn7]; rintro _ w9' ⟨rfl, rfl⟩))
              go_roundw
              case rel => exact ⟨j + 1, d7, hlt, by go_num, Rn.next HN.out.2.1 D7 (Below.refl _ _) HN.out.2.2⟩
              case measure => first | exact measR hlt | (rw [HK.out]; exact measR hlt)
          · refine Lib.hid ?_
            go_wp2_with fail
            go_roundw
            case rel => exact ⟨j + 1, d7, hlt, by go_num, Rn.next HN.out.2.1 D7 (Below.refl _ _) HN.out.2.2⟩
            case measure => first | exact measR hlt | (rw [HK.out]; exact measR hlt)
    · have hge : ¬ (j : Int) < (out.length : Int) := by omega
      go_wp2_with fail
      go_ret
      exact ⟨rfl, HB.out.trans (hr.ch.below (fun k hk hS => absurd hS.1 (Nat.not_le_of_lt hk)) (Nat.le_trans h04 h45))⟩
end Go.Proofs.YtpdceondgbgpkaaDoor.Dsk
