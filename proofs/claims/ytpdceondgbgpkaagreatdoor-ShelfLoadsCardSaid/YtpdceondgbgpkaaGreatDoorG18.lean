/- shelf: the law's example: awake: the walk. · ShelfLoads: what holds of its disk. · ShelfLoads: the walk (printed by tools/gen_loads.py). · ShelfLoads's argument: files, as its data say them. -/
import Derived.Test.YtpdceondgbgpkaaGreatDoorG12
import Derived.Test.YtpdceondgbgpkaaGreatDoorG16
import Derived.Test.YtpdceondgbgpkaaGreatDoorG17
import Derived.Test.YtpdceondgbgpkaaGreatDoorG11
import Derived.Test.YtpdceondgbgpkaaGreatDoorG1
namespace Go.Proofs.YtpdceondgbgpkaaGreatDoor
open Go.RowKit
set_option linter.unusedSimpArgs false
set_option linter.unusedVariables false
open Dsk (DiskAt Dk Gr)
open Shf
theorem save3 {w W : World} {S : Nat → Prop} {p : Nat} (hS : ∀ k, W.heap.size ≤ k → S k) (h : DiskAt W S p 0 Dk.new) : Calls Tryz.prog 30 #[.pointer (some ⟨p, 0, none⟩), .agg #[.int .i64 3, .int .i64 1]] W fun r w' => r = .returned (.int .i64 0) ∧ Mem.Ch S W w' ∧ DiskAt w' S p 3 d3 := by
  refine (saveV_by p v3 t3 0 (fun W' w' => Mem.Ch S W' w' ∧ DiskAt w' S p 3 d3) (by unfold IsI64 v3; decide) text3 W (fun W' hW => ?_)).mono ?_
  · exact save_new S p _ rfl W' (fun k hk => hS k (Nat.le_trans hW.size hk)) (h.below hW)
  · rintro _ w' ⟨rfl, W', hb, h1, h2⟩
    exact ⟨rfl, (Mem.Ch.of_below' hb).trans' h1, h2⟩
abbrev vz : Obj := .cells #[.int .i64 0, .int .i64 (-1)] 33
abbrev sz : Obj := .cells #[.int .i64 0, .int .i64 0, .int .i64 0, .string ⟨#[]⟩] 40
abbrev v31 : Obj := .cells #[.int .i64 3, .int .i64 1] 33
set_option maxRecDepth 100000 in
set_option maxHeartbeats 4000000 in
theorem awake7_any (w : World) : Calls Tryz.prog 13 #[] w fun r w' => r = .returned (.bool true) ∧ Below w.heap.size w w' := by
  have tok1 : True := trivial
  go_enter Tryz.func13, Tryz.ntmps13
  go_wp2_with (first
    | (go_at_call 4; refine (Dsk.New_any _).mono ?_; rintro _ w1 ⟨p, rfl, hb1, hD1⟩)
    | (go_at_call 9; have _t := tok1; refine (loadV_new hD1).mono ?_; rintro _ w2 ⟨rfl, hb2⟩; have x2 := Mem.new w2 vz; have hb2a : Below w2.heap.size w2 (w2.alloc vz) := (Below.refl _ _).alloc (Nat.le_refl _) _; have hD2 := (hD1.below hb2).below hb2a; clear tok1)
    | (go_at_call 11; refine (loadS_new hD2).mono ?_; rintro _ w3 ⟨rfl, hb3⟩; have x3 := Mem.old ((hb3.block w2.heap.size (by simp)).trans x2) sz; have hb3a : Below w3.heap.size w3 (w3.alloc sz) := (Below.refl _ _).alloc (Nat.le_refl _) _; have hD3 := (hD2.below hb3).below hb3a; have h12 := hb2.size; have h01 := hb1.size; have h23 := hb3.size; have hD3' : DiskAt (w3.alloc sz) (Dsk.Off w.heap.size w2.heap.size (w3.heap.size + 1)) p 0 Dk.new := hD3.mono (fun k hk => ⟨hk.1, .inl (by omega)⟩))
    | (go_at_call 30; refine (save3 (w := w) (fun k hk => ⟨by simp at hk h23; omega, .inr (by simpa using hk)⟩) hD3').mono ?_; rintro _ w4 ⟨rfl, hc4, hD4⟩; have x4 := hc4.at_ x3 (fun h => by rcases h.2 with h | h; exact absurd h (Nat.lt_irrefl _); exact absurd (Mem.lt x3) (by simp; omega)))
    | (go_at_call 9; refine (loadV_3 hD4).mono ?_; rintro _ w5 ⟨rfl, hb5⟩; have x5 := (hb5.block w2.heap.size (Mem.lt x4)).trans x4; have hl5 := Mem.lt x5; have y0 : w5.cell? ⟨w2.heap.size, 0, none⟩ = some (.int .i64 0) := Mem.cell x5 rfl; have y1 : w5.cell? ⟨w2.heap.size, 1, none⟩ = some (.int .i64 (-1)) := Mem.cell x5 rfl))
  go_ret
  have a1 := hb1.trans (hb2.mono h01)
  have a2 := a1.trans (hb2a.mono a1.size)
  have a3 := a2.trans (hb3.mono a2.size)
  have a4 := a3.trans (hb3a.mono a3.size)
  have a5 := a4.trans (Mem.Ch.below (B := w.heap.size) hc4 (fun k hk hS => by have := hS.1; omega) a4.size)
  have a6 := a5.trans (hb5.mono a5.size)
  exact ⟨rfl, a6.alloc a6.size _⟩
end Go.Proofs.YtpdceondgbgpkaaGreatDoor
namespace Go.Proofs.YtpdceondgbgpkaaGreatDoor
open Go.RowKit
set_option linter.unusedSimpArgs false
set_option linter.unusedVariables false
open Dsk (DiskAt Dk Gr nameP FM Chg fc NamesOf)
open Shf
/-- The disk of ShelfLoads: up, without a bound, small files. -/
structure Ld (w W : World) (p N : Nat) (d : Dk) : Prop where
  bel : Below w.heap.size w W
  D : DiskAt W (fun k => w.heap.size ≤ k) p N d
  inv : Dk.Inv d
  up : d.down = false
  aft : d.after = 0
  room : d.room < 0
  sz : ∀ k x, d.now k = some x → x.size ≤ 6000
theorem lay_quiet {d : Dk} {c : Chg} (h : d.after = 0) : d.lay c = (0, d.push c) := by
  unfold Dk.lay Dk.trips
  rw [if_pos h, if_neg (by decide)]
namespace Ld
variable {w W W' : World} {p N N' : Nat} {d : Dk}
theorem on (h : Ld w W p N d) (hb : Below W.heap.size W W') : Ld w W' p N d := { h with bel := h.bel.trans (hb.mono h.bel.size), D := h.D.below hb }
theorem more (h : Ld w W p N d) (hN : N ≤ N') : Ld w W p N' d := { h with D := h.D.more hN }
theorem grs {W' : World} (h : Ld w W p N d) : ∀ k, Gr (fun k => w.heap.size ≤ k) W W' k → w.heap.size ≤ k := fun k hk => by
  rcases hk with hk | hk
  · exact hk
  · exact Nat.le_trans h.bel.size hk.1
theorem ch (h : Ld w W p N d) (hc : Mem.Ch (fun k => w.heap.size ≤ k) W W') : Below w.heap.size w W' := h.bel.trans (hc.below (fun k hk hS => by have : w.heap.size ≤ k := hS; omega) h.bel.size)
theorem put (h : Ld w W p N d) {f s : ByteArray} (hf : f.size ≤ maxLen) (hs : s.size ≤ 6000) (hN : N < 1000) :
    Calls Tryz.prog 5 #[.pointer (some ⟨p, 0, none⟩), .string f, .int .i64 0, .string s] W fun r w' => ∃ e d', r = .returned (.int .i64 e) ∧ Ld w w' p (N + 1) d' := by
  refine (Dsk.Put_any _ p N d f 0 s W h.D h.inv hf (by unfold maxLen; omega) (by omega) (by omega)).mono ?_
  rintro _ w' ⟨e, d', rfl, h1, h2, h3⟩
  refine ⟨e, d', rfl, ?_⟩
  unfold Dk.Puts at h3
  rw [if_neg (by rw [h.up]; decide)] at h3
  have hD := h2.mono h.grs
  have hB := h.ch h1
  rcases h3 with ⟨_, _, rfl⟩ | ⟨hb, ⟨hr, _, _⟩ | h3⟩
  · exact { h with bel := hB, D := hD }
  · have := h.room; omega
  · rw [lay_quiet h.aft] at h3
    obtain rfl : d' = d.push (.put f s (0 : Int).toNat) := congrArg Prod.snd h3
    have hok := Dsk.put_ok hb
    refine ⟨hB, hD, h.inv.push ⟨hf, Nat.zero_le _, by show 0 + s.size ≤ _; omega⟩, h.up, ?_, h.room, fun k x hx => ?_⟩
    · show (if d.after = 0 then (0 : Int) else _) = 0
      rw [if_pos h.aft]
    · have hx' : (d.now.set f (Dsk.splice (d.now.get f) s 0)) k = some x := hx
      unfold FM.set at hx'
      split at hx'
      · obtain rfl : Dsk.splice (d.now.get f) s 0 = x := by injection hx'
        rw [Dsk.splice_size _ _ _ (Nat.zero_le _)]
        have hg : (d.now.get f).size ≤ 6000 := by
          unfold FM.get
          cases hh : d.now f with
          | none => exact Nat.zero_le _
          | some y => exact h.sz f y hh
        omega
      · exact h.sz k x hx'
theorem sync (h : Ld w W p N d) (hN : N < 1000) : Calls Tryz.prog 6 #[.pointer (some ⟨p, 0, none⟩)] W fun r w' => ∃ e d', r = .returned (.int .i64 e) ∧ Ld w w' p (N + 1) d' := by
  refine (Dsk.Sync_any _ p N d W h.D h.inv (by omega)).mono ?_
  rintro _ w' ⟨rfl, h1, h2⟩
  have e : d.sync = (0, { d.counted with sure := d.now, row := [] }) := by
    unfold Dk.sync Dk.trips
    rw [if_neg (by rw [h.up]; decide), if_pos h.aft, if_neg (by decide)]
  have hi := h.inv.sync
  rw [e] at h2 hi
  refine ⟨_, _, rfl, h.ch h1, h2.mono h.grs, hi, h.up, ?_, h.room, h.sz⟩
  show (if d.after = 0 then (0 : Int) else _) = 0
  rw [if_pos h.aft]
end Ld
set_option maxRecDepth 100000 in
set_option maxHeartbeats 2000000 in
theorem Calls_any (S : Nat → Prop) (p N : Nat) (d : Dk) (w : World) (h : DiskAt w S p N d) : Calls Tryz.prog 7 #[.pointer (some ⟨p, 0, none⟩)] w fun r w' => r = .returned (.int .i64 d.calls) ∧ w' = w := by
  obtain ⟨bs, bn, v, h⟩ := h
  have c4 := h.c4
  clear h
  go_enter Tryz.func7, Tryz.ntmps7
  go_wp2_with fail
  go_ret
  exact ⟨rfl, rfl⟩
theorem look_in (d : Dk) (k : ByteArray) : ∀ l : List ByteArray, k ∈ l → look k (d.pairs l) = some (d.fileS k)
  | [], h => by cases h
  | s :: l, hm => by
    show (if s = k then some (d.fileS s) else look k (d.pairs l)) = _
    by_cases h : s = k
    · subst h
      rw [if_pos rfl]
    · rw [if_neg h]
      refine look_in d k l ?_
      rcases List.mem_cons.1 hm with e | e
      · exact absurd e.symm h
      · exact e
theorem look_pairs {d : Dk} {l : List ByteArray} {k : ByteArray} (hl : NamesOf d.now l) (hd : d.down = false) (hn : nameP k = true) : look k (d.pairs l) = d.now k := by
  cases hk : d.now k with
  | none =>
    refine look_miss _ (fun x hx e => ?_)
    obtain ⟨s, hs, rfl⟩ := List.mem_map.1 hx
    have := (hl.mem s).1 hs
    rw [show s = k from e, hk] at this
    cases this
  | some x =>
    rw [look_in d k l ((hl.mem k).2 (by rw [hk]; rfl))]
    unfold Dk.fileS
    rw [thereS hd hn hk, if_neg (by decide), getS hk]
theorem measL {n k : Nat} (h : k < n) : n - (intOf (.int .i64 ((k : Int) + 1))).toNat < n - (intOf (.int .i64 (k : Int))).toNat := by
  show n - ((k : Int) + 1).toNat < n - ((k : Int)).toNat; omega
theorem wrap_l {j : Nat} (h : j < 8) : wrap64 ((j : Int) + 1) = (j : Int) + 1 := by unfold wrap64; omega
end Go.Proofs.YtpdceondgbgpkaaGreatDoor
namespace Go.Proofs.YtpdceondgbgpkaaGreatDoor
open Go.RowKit
set_option linter.unusedSimpArgs false
set_option linter.unusedVariables false
open Dsk (DiskAt Dk Gr nameP FM Chg fc NamesOf)
open Shf
set_option maxRecDepth 100000 in
set_option maxHeartbeats 8000000 in
theorem ShelfLoads_any (l : List (ByteArray × ByteArray)) (v : Value) (ok : Nat → Prop) (w : World) (h : Mem.Rd w ok 2 v (l.map fc)) (hl : ∀ x ∈ l, x.1.size ≤ maxLen) :
    Calls Tryz.prog 3 #[v] w fun r w' => r = .returned (.bool true) ∧ Below w.heap.size w w' := by
  have tokC : True := trivial
  obtain ⟨A0, cap0, rfl⟩ := h.slice
  have hll : (l.map fc).length = l.length := List.length_map _
  rw [hll] at h ⊢
  have HR := Lib.hid (And.intro h hl)
  clear h hl hll
  go_enter Tryz.func3, Tryz.ntmps3
  go_wp2_with (go_at_call 4; refine (Dsk.New_any _).mono ?_; rintro _ w1 ⟨p, rfl, hb1, hD1⟩)
  have HI := Lib.hid (show Ld w w1 p 0 Dk.new from ⟨hb1, hD1.mono (fun k hk => hk.1), Dk.inv_new, rfl, rfl, show (-1 : Int) < 0 by decide, fun k x hx => by cases hx⟩)
  clear hb1 hD1
  go_loopw [4] (fun i wr => ∃ (j : Nat) (d : Dk), j ≤ l.length ∧ j ≤ 8 ∧ i = .int .i64 (j : Int) ∧ Ld w wr p j d) (fun i _ => l.length - (intOf i).toNat)
  case atStart => exact ⟨0, _, Nat.zero_le _, Nat.zero_le _, rfl, HI.out⟩
  case round =>
    obtain ⟨j, d, hj, hj8, rfl, hr⟩ := hrel
    by_cases hin : j < l.length ∧ j < 8
    · obtain ⟨hlt, h8⟩ := hin
      have hlt' : (j : Int) < (l.length : Int) := by omega
      have h8' : (j : Int) < 8 := by omega
      have j1 : j + 1 ≤ 8 := by omega
      have jN : j < 1000 := by omega
      obtain ⟨⟨s1, t1⟩, hx⟩ : ∃ x, l[j]? = some x := ⟨_, List.getElem?_eq_getElem hlt⟩
      obtain ⟨g1, o1, rfl, hg1, hgl1, hr1⟩ := HR.out.1.row (k := j) (r := fc (s1, t1)) (by rw [List.getElem?_map, hx]; rfl)
      have k0 : w.cell? ⟨g1, o1 + j * 2, none⟩ = some (.string s1) := hr1 0 _ rfl
      have k1 : w.cell? ⟨g1, o1 + j * 2 + 1, none⟩ = some (.string t1) := hr1 1 _ rfl
      have c0 := (hr.bel.cell (p := ⟨g1, o1 + j * 2, none⟩) hgl1).trans k0
      have c1 := (hr.bel.cell (p := ⟨g1, o1 + j * 2 + 1, none⟩) hgl1).trans k1
      have hsz := HR.out.2 (s1, t1) (List.mem_of_getElem? hx)
      have HK := Lib.hid (wrap_l h8)
      have HX := Lib.hid hr
      clear hr1 hx hg1 hr
      by_cases h6 : t1.size ≤ 6000
      · have h6' : (t1.size : Int) ≤ 6000 := by omega
        have hput := fun W (hh : Ld w W p j d) => hh.put (f := s1) (s := t1) hsz h6 jN
        have d0 : wr.drew.cell? ⟨g1, o1 + j * 2, none⟩ = some (.string s1) := c0
        have d1 : wr.drew.cell? ⟨g1, o1 + j * 2 + 1, none⟩ = some (.string t1) := c1
        have m0 : Ld w wr.drew p j d := HX.out.on ((Below.refl _ _).drew)
        have HP := Lib.hid hput
        clear hput hsz
        go_wp2_with fail
        go_region_held3 (fun W => W.cell? ⟨g1, o1 + j * 2, none⟩ = some (.string s1) ∧ W.cell? ⟨g1, o1 + j * 2 + 1, none⟩ = some (.string t1) ∧ ∃ (N' : Nat) (d' : Dk), Ld w W p N' d')
          (first | exact ⟨e0, e1, _, _, m1⟩ | exact ⟨d0, d1, _, _, m0⟩)
          (first
            | (go_at_call 5; refine (HP.out _ m0).mono ?_; rintro _ w5 ⟨e5, d5, rfl, m1⟩; have e0 := (m1.bel.cell (p := ⟨g1, o1 + j * 2, none⟩) hgl1).trans k0; have e1 := (m1.bel.cell (p := ⟨g1, o1 + j * 2 + 1, none⟩) hgl1).trans k1)
            | fail)
        go_wp2_with fail
        go_roundw
        case rel => exact ⟨j + 1, d5, hlt, j1, by go_num, m1⟩
        case measure => first | exact measL hlt | (rw [HK.out]; exact measL hlt)
      · have h6' : ¬ (t1.size : Int) ≤ 6000 := by omega
        go_wp2_with fail
        go_roundw
        case rel => exact ⟨j + 1, d, hlt, j1, by go_num, HX.out.more (Nat.le_succ j)⟩
        case measure => first | exact measL hlt | (rw [HK.out]; exact measL hlt)
    · have hex : ¬ ((j : Int) < (l.length : Int)) ∨ ((j : Int) < (l.length : Int) ∧ ¬ ((j : Int) < 8)) := by
        rcases Nat.lt_or_ge j l.length with h | h
        · exact .inr ⟨by omega, by omega⟩
        · exact .inl (by omega)
      have jN : j < 1000 := by omega
      have jM : j + 1 ≤ 1000000000 := by omega
      have HX := Lib.hid hr
      clear hr hj hj8
      rcases hex with hex | ⟨hex1, hex⟩
      · skip
        go_wp2_with (first
          | (go_at_call 6; refine (HX.out.sync jN).mono ?_; rintro _ w2 ⟨e2, d2, rfl, m2⟩)
          | (go_at_call 7; have _t := tokC; refine (Calls_any _ p (j + 1) d2 _ m2.D).mono ?_; rintro _ w2' ⟨rfl, rfl⟩; clear tokC)
          | (go_at_call 8; refine (Dsk.Files_up _ p (j + 1) d2 _ m2.D m2.up jM).mono ?_; rintro _ w3 ⟨vf, ls, rfl, hls, hRf, hb3⟩; refine Hid.out ?_))
        have m3 := m2.on hb3
        have hzV : ∀ x, d2.now voteK = some x → x.size ≤ 140737488351232 := fun x hx => Nat.le_trans (m2.sz _ x hx) (by decide)
        have hzS : ∀ x, d2.now snapK = some x → x.size ≤ 140737488351232 := fun x hx => Nat.le_trans (m2.sz _ x hx) (by decide)
        have hLV := fun W (hh : Ld w W p (j + 1) d2) => loadV_all hh.D hh.up hzV
        have hLS := fun W (hh : Ld w W p (j + 1) d2) => loadS_all hh.D hh.up hzS
        have eV := look_pairs hls m2.up nameV
        have eS := look_pairs hls m2.up nameS
        have hRV := fun W (hh : Mem.Rd W (fun k => w2'.heap.size ≤ k) 2 vf ((d2.pairs ls).map fc)) => rloadV_all _ vf _ W hh (by rw [eV]; exact hzV)
        have hRS := fun W (hh : Mem.Rd W (fun k => w2'.heap.size ≤ k) 2 vf ((d2.pairs ls).map fc)) => rloadS_all _ vf _ W hh (by rw [eS]; exact hzS)
        rw [eV] at hRV
        rw [eS] at hRS
        generalize voteOf (d2.now voteK) = x at hLV hRV
        obtain ⟨⟨a, b⟩, f⟩ := x
        generalize snapOf (d2.now snapK) = y at hLS hRS
        obtain ⟨⟨c, e, m, s⟩, is, g⟩ := y
        unfold Vt.val at hLV hRV
        unfold Sn.val at hLS hRS
        dsimp only at hLV hRV hLS hRS
        obtain ⟨Af, cf, rfl⟩ := hRf.slice
        have hlm : ((d2.pairs ls).map fc).length = (d2.pairs ls).length := List.length_map _
        rw [hlm] at hRf hRV hRS ⊢
        generalize (d2.pairs ls).length = nf at hRf hRV hRS ⊢
        clear hzV hzS eV eS hls hb3 hlm
        refine Lib.hid ?_
        go_wp2_with (first
          | (go_at_call 9; refine (hLV _ m3).mono ?_; rintro _ w4 ⟨rfl, hb4⟩; have x4 := Mem.new w4 (.cells #[.int .i64 a, .int .i64 b] 33); have n4 : Below w4.heap.size w4 (w4.alloc (.cells #[.int .i64 a, .int .i64 b] 33)) := (Below.refl _ _).alloc (Nat.le_refl _) _; have m4 := (m3.on hb4).on n4; have R4 := (hRf.below hb4).below n4)
          | (go_at_call 10; refine (hRV _ R4).mono ?_; rintro _ w5 ⟨rfl, hb5⟩; have x5 := Mem.old ((hb5.block w4.heap.size (Mem.lt x4)).trans x4) (.cells #[.int .i64 a, .int .i64 b] 36); have y5 := Mem.new w5 (.cells #[.int .i64 a, .int .i64 b] 36); have n5 : Below w5.heap.size w5 (w5.alloc (.cells #[.int .i64 a, .int .i64 b] 36)) := (Below.refl _ _).alloc (Nat.le_refl _) _; have m5 := (m4.on hb5).on n5; have R5 := (R4.below hb5).below n5)
          | (go_at_call 11; refine (hLS _ m5).mono ?_; rintro _ w6 ⟨rfl, hb6⟩; have x6 := Mem.old ((hb6.block w4.heap.size (Mem.lt x5)).trans x5) (.cells #[.int .i64 c, .int .i64 e, .int .i64 m, .string s] 40); have y6 := Mem.old ((hb6.block w5.heap.size (Mem.lt y5)).trans y5) (.cells #[.int .i64 c, .int .i64 e, .int .i64 m, .string s] 40); have z6 := Mem.new w6 (.cells #[.int .i64 c, .int .i64 e, .int .i64 m, .string s] 40); have n6 : Below w6.heap.size w6 (w6.alloc (.cells #[.int .i64 c, .int .i64 e, .int .i64 m, .string s] 40)) := (Below.refl _ _).alloc (Nat.le_refl _) _; have m6 := (m5.on hb6).on n6; have R6 := (R5.below hb6).below n6)
          | (go_at_call 12; refine (hRS _ R6).mono ?_; rintro _ w7 ⟨rfl, hb7⟩; have x7 := Mem.old ((hb7.block w4.heap.size (Mem.lt x6)).trans x6) (.cells #[.int .i64 c, .int .i64 e, .int .i64 m, .string s] 43); have y7 := Mem.old ((hb7.block w5.heap.size (Mem.lt y6)).trans y6) (.cells #[.int .i64 c, .int .i64 e, .int .i64 m, .string s] 43); have z7 := Mem.old ((hb7.block w6.heap.size (Mem.lt z6)).trans z6) (.cells #[.int .i64 c, .int .i64 e, .int .i64 m, .string s] 43); have q7 := Mem.new w7 (.cells #[.int .i64 c, .int .i64 e, .int .i64 m, .string s] 43); have n7 : Below w7.heap.size w7 (w7.alloc (.cells #[.int .i64 c, .int .i64 e, .int .i64 m, .string s] 43)) := (Below.refl _ _).alloc (Nat.le_refl _) _; have m7 := (m6.on hb7).on n7)
          | (go_at_call 13; refine (awake7_any _).mono ?_; rintro _ w8 ⟨rfl, hb8⟩; have x8 := (hb8.block w4.heap.size (Mem.lt x7)).trans x7; have y8 := (hb8.block w5.heap.size (Mem.lt y7)).trans y7; have z8 := (hb8.block w6.heap.size (Mem.lt z7)).trans z7; have q8 := (hb8.block w7.heap.size (Mem.lt q7)).trans q7; have m8 := m7.on hb8; have c10 := Mem.cell (j := 0) (v := .int .i64 a) x8 rfl; have c11 := Mem.cell (j := 1) (v := .int .i64 b) x8 rfl; have c20 := Mem.cell (j := 0) (v := .int .i64 a) y8 rfl; have c21 := Mem.cell (j := 1) (v := .int .i64 b) y8 rfl; have c30 := Mem.cell (j := 0) (v := .int .i64 c) z8 rfl; have c31 := Mem.cell (j := 1) (v := .int .i64 e) z8 rfl; have c32 := Mem.cell (j := 2) (v := .int .i64 m) z8 rfl; have c33 := Mem.cell (j := 3) (v := .string s) z8 rfl; have c40 := Mem.cell (j := 0) (v := .int .i64 c) q8 rfl; have c41 := Mem.cell (j := 1) (v := .int .i64 e) q8 rfl; have c42 := Mem.cell (j := 2) (v := .int .i64 m) q8 rfl; have c43 := Mem.cell (j := 3) (v := .string s) q8 rfl; have M8 := Lib.hid m8; clear x4 x5 x6 x7 x8 y5 y6 y7 y8 z6 z7 z8 q7 q8 m3 m4 m5 m6 m7 m8 R4 R5 R6 n4 n5 n6 n7 hb4 hb5 hb6 hb7 hb8)
          | (go_at_call 7; refine (Calls_any _ p (j + 1) d2 _ M8.out.D).mono ?_; rintro _ w9 ⟨rfl, rfl⟩))
        go_ret
        exact ⟨rfl, M8.out.bel⟩
      · skip
        go_wp2_with (first
          | (go_at_call 6; refine (HX.out.sync jN).mono ?_; rintro _ w2 ⟨e2, d2, rfl, m2⟩)
          | (go_at_call 7; have _t := tokC; refine (Calls_any _ p (j + 1) d2 _ m2.D).mono ?_; rintro _ w2' ⟨rfl, rfl⟩; clear tokC)
          | (go_at_call 8; refine (Dsk.Files_up _ p (j + 1) d2 _ m2.D m2.up jM).mono ?_; rintro _ w3 ⟨vf, ls, rfl, hls, hRf, hb3⟩; refine Hid.out ?_))
        have m3 := m2.on hb3
        have hzV : ∀ x, d2.now voteK = some x → x.size ≤ 140737488351232 := fun x hx => Nat.le_trans (m2.sz _ x hx) (by decide)
        have hzS : ∀ x, d2.now snapK = some x → x.size ≤ 140737488351232 := fun x hx => Nat.le_trans (m2.sz _ x hx) (by decide)
        have hLV := fun W (hh : Ld w W p (j + 1) d2) => loadV_all hh.D hh.up hzV
        have hLS := fun W (hh : Ld w W p (j + 1) d2) => loadS_all hh.D hh.up hzS
        have eV := look_pairs hls m2.up nameV
        have eS := look_pairs hls m2.up nameS
        have hRV := fun W (hh : Mem.Rd W (fun k => w2'.heap.size ≤ k) 2 vf ((d2.pairs ls).map fc)) => rloadV_all _ vf _ W hh (by rw [eV]; exact hzV)
        have hRS := fun W (hh : Mem.Rd W (fun k => w2'.heap.size ≤ k) 2 vf ((d2.pairs ls).map fc)) => rloadS_all _ vf _ W hh (by rw [eS]; exact hzS)
        rw [eV] at hRV
        rw [eS] at hRS
        generalize voteOf (d2.now voteK) = x at hLV hRV
        obtain ⟨⟨a, b⟩, f⟩ := x
        generalize snapOf (d2.now snapK) = y at hLS hRS
        obtain ⟨⟨c, e, m, s⟩, is, g⟩ := y
        unfold Vt.val at hLV hRV
        unfold Sn.val at hLS hRS
        dsimp only at hLV hRV hLS hRS
        obtain ⟨Af, cf, rfl⟩ := hRf.slice
        have hlm : ((d2.pairs ls).map fc).length = (d2.pairs ls).length := List.length_map _
        rw [hlm] at hRf hRV hRS ⊢
        generalize (d2.pairs ls).length = nf at hRf hRV hRS ⊢
        clear hzV hzS eV eS hls hb3 hlm
        refine Lib.hid ?_
        go_wp2_with (first
          | (go_at_call 9; refine (hLV _ m3).mono ?_; rintro _ w4 ⟨rfl, hb4⟩; have x4 := Mem.new w4 (.cells #[.int .i64 a, .int .i64 b] 33); have n4 : Below w4.heap.size w4 (w4.alloc (.cells #[.int .i64 a, .int .i64 b] 33)) := (Below.refl _ _).alloc (Nat.le_refl _) _; have m4 := (m3.on hb4).on n4; have R4 := (hRf.below hb4).below n4)
          | (go_at_call 10; refine (hRV _ R4).mono ?_; rintro _ w5 ⟨rfl, hb5⟩; have x5 := Mem.old ((hb5.block w4.heap.size (Mem.lt x4)).trans x4) (.cells #[.int .i64 a, .int .i64 b] 36); have y5 := Mem.new w5 (.cells #[.int .i64 a, .int .i64 b] 36); have n5 : Below w5.heap.size w5 (w5.alloc (.cells #[.int .i64 a, .int .i64 b] 36)) := (Below.refl _ _).alloc (Nat.le_refl _) _; have m5 := (m4.on hb5).on n5; have R5 := (R4.below hb5).below n5)
          | (go_at_call 11; refine (hLS _ m5).mono ?_; rintro _ w6 ⟨rfl, hb6⟩; have x6 := Mem.old ((hb6.block w4.heap.size (Mem.lt x5)).trans x5) (.cells #[.int .i64 c, .int .i64 e, .int .i64 m, .string s] 40); have y6 := Mem.old ((hb6.block w5.heap.size (Mem.lt y5)).trans y5) (.cells #[.int .i64 c, .int .i64 e, .int .i64 m, .string s] 40); have z6 := Mem.new w6 (.cells #[.int .i64 c, .int .i64 e, .int .i64 m, .string s] 40); have n6 : Below w6.heap.size w6 (w6.alloc (.cells #[.int .i64 c, .int .i64 e, .int .i64 m, .string s] 40)) := (Below.refl _ _).alloc (Nat.le_refl _) _; have m6 := (m5.on hb6).on n6; have R6 := (R5.below hb6).below n6)
          | (go_at_call 12; refine (hRS _ R6).mono ?_; rintro _ w7 ⟨rfl, hb7⟩; have x7 := Mem.old ((hb7.block w4.heap.size (Mem.lt x6)).trans x6) (.cells #[.int .i64 c, .int .i64 e, .int .i64 m, .string s] 43); have y7 := Mem.old ((hb7.block w5.heap.size (Mem.lt y6)).trans y6) (.cells #[.int .i64 c, .int .i64 e, .int .i64 m, .string s] 43); have z7 := Mem.old ((hb7.block w6.heap.size (Mem.lt z6)).trans z6) (.cells #[.int .i64 c, .int .i64 e, .int .i64 m, .string s] 43); have q7 := Mem.new w7 (.cells #[.int .i64 c, .int .i64 e, .int .i64 m, .string s] 43); have n7 : Below w7.heap.size w7 (w7.alloc (.cells #[.int .i64 c, .int .i64 e, .int .i64 m, .string s] 43)) := (Below.refl _ _).alloc (Nat.le_refl _) _; have m7 := (m6.on hb7).on n7)
          | (go_at_call 13; refine (awake7_any _).mono ?_; rintro _ w8 ⟨rfl, hb8⟩; have x8 := (hb8.block w4.heap.size (Mem.lt x7)).trans x7; have y8 := (hb8.block w5.heap.size (Mem.lt y7)).trans y7; have z8 := (hb8.block w6.heap.size (Mem.lt z7)).trans z7; have q8 := (hb8.block w7.heap.size (Mem.lt q7)).trans q7; have m8 := m7.on hb8; have c10 := Mem.cell (j := 0) (v := .int .i64 a) x8 rfl; have c11 := Mem.cell (j := 1) (v := .int .i64 b) x8 rfl; have c20 := Mem.cell (j := 0) (v := .int .i64 a) y8 rfl; have c21 := Mem.cell (j := 1) (v := .int .i64 b) y8 rfl; have c30 := Mem.cell (j := 0) (v := .int .i64 c) z8 rfl; have c31 := Mem.cell (j := 1) (v := .int .i64 e) z8 rfl; have c32 := Mem.cell (j := 2) (v := .int .i64 m) z8 rfl; have c33 := Mem.cell (j := 3) (v := .string s) z8 rfl; have c40 := Mem.cell (j := 0) (v := .int .i64 c) q8 rfl; have c41 := Mem.cell (j := 1) (v := .int .i64 e) q8 rfl; have c42 := Mem.cell (j := 2) (v := .int .i64 m) q8 rfl; have c43 := Mem.cell (j := 3) (v := .string s) q8 rfl; have M8 := Lib.hid m8; clear x4 x5 x6 x7 x8 y5 y6 y7 y8 z6 z7 z8 q7 q8 m3 m4 m5 m6 m7 m8 R4 R5 R6 n4 n5 n6 n7 hb4 hb5 hb6 hb7 hb8)
          | (go_at_call 7; refine (Calls_any _ p (j + 1) d2 _ M8.out.D).mono ?_; rintro _ w9 ⟨rfl, rfl⟩))
        go_ret
        exact ⟨rfl, M8.out.bel⟩
end Go.Proofs.YtpdceondgbgpkaaGreatDoor
namespace Go.Proofs.YtpdceondgbgpkaaGreatDoor.Seen
open Go.RowKit
set_option linter.unusedVariables false
theorem rows_like {α : Type} (f : α → List Value) (p : α → Prop) : ∀ rs : List (List Value), (∀ r ∈ rs, ∃ x, r = f x ∧ p x) → ∃ xs : List α, rs = xs.map f ∧ ∀ x ∈ xs, p x
  | [], _ => ⟨[], rfl, fun x hx => by simp at hx⟩
  | r :: rs, h => by
    obtain ⟨x, rfl, hx⟩ := h r List.mem_cons_self
    obtain ⟨xs, rfl, hxs⟩ := rows_like f p rs (fun r hr => h r (List.mem_cons_of_mem _ hr))
    exact ⟨x :: xs, rfl, fun y hy => by rcases List.mem_cons.1 hy with rfl | h; exact hx; exact hxs y h⟩
theorem file {H : Type} {enc : TypeId × Value → H} {W : World} {cs : List Value} (h : Sees enc Tryz.prog W 26 cs) : ∃ x : ByteArray × ByteArray, cs = Dsk.fc x ∧ x.1.size ≤ maxLen := by
  have hl := (struct Tryz.underlying26 h).1.trans (show Tryz.prog.cellsOf 26 = 2 by kernel_rfl)
  obtain ⟨a, b, rfl⟩ : ∃ a b, cs = [a, b] := by
    match cs, hl with
    | [a, b], _ => exact ⟨a, b, rfl⟩
  obtain ⟨s, e1, h1⟩ := str Tryz.underlying9 (part Tryz.underlying26 h 0 9 0 1 rfl (by kernel_rfl))
  obtain ⟨t, e2, h2⟩ := str Tryz.underlying9 (part Tryz.underlying26 h 1 9 1 1 rfl (by kernel_rfl))
  simp at e1 e2
  subst e1; subst e2
  exact ⟨(s, t), rfl, by show s.size ≤ maxLen; unfold maxLen; omega⟩
end Go.Proofs.YtpdceondgbgpkaaGreatDoor.Seen
namespace Go.Proofs.YtpdceondgbgpkaaGreatDoor
open Go.RowKit
theorem loads_rows {H : Type} {enc : TypeId × Value → H} (A : Option Addr) (n cap : Nat) (rs : List (List Value)) (w : World) (hR : Mem.Rd w (fun g => g < w.heap.size) 2 (.slice A n cap) rs)
    (hE : ∀ r ∈ rs, r.length = 2 ∧ Seen.Sees enc Tryz.prog w 26 r) :
    Calls Tryz.prog 3 #[.slice A n cap] w fun r w' => r = .returned (.bool true) ∧ Below w.heap.size w w' := by
  obtain ⟨l, rfl, hl⟩ := Seen.rows_like Dsk.fc (fun x => x.1.size ≤ maxLen) rs (fun r hr => Seen.file (hE r hr).2)
  exact ShelfLoads_any l _ _ w hR hl
end Go.Proofs.YtpdceondgbgpkaaGreatDoor
