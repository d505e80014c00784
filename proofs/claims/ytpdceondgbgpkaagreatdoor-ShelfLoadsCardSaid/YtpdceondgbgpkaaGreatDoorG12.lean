/- shelf: the law's example: awake. · LoadVote, LoadSnap of whatever bytes a file has. · The document's Get (a file's bytes) and said. · A byte of a number. -/
import Derived.Test.YtpdceondgbgpkaaGreatDoorG11
import Derived.Test.YtpdceondgbgpkaaGreatDoorG2
import Derived.Test.YtpdceondgbgpkaaGreatDoorG5
import Derived.Test.YtpdceondgbgpkaaGreatDoorG3
namespace Go.Proofs.YtpdceondgbgpkaaGreatDoor
open Go.RowKit
set_option linter.unusedSimpArgs false
set_option linter.unusedVariables false
open Sp (bs)
open Dsk (DiskAt Dk Gr)
namespace Shf
def vn : ByteArray := voteK ++ newK
def v3 : Vt := ⟨3, 1⟩
def t3 : ByteArray := bs (Sp.num 3) ++ bs (Sp.intB 1)
def p3 : ByteArray := Crc.packB t3
def d1 : Dk := Dk.new.push (.put vn p3 0)
def d2 : Dk := d1.push (.move vn voteK)
def d3 : Dk := d2.sync.2
theorem text3 : v3.text = (t3, 0) := by unfold Vt.text; rw [if_pos (by decide)]; rfl
theorem size3 : t3.size ≤ 1048576 := by decide +kernel
theorem psize : p3.size ≤ 140737488351232 := by decide +kernel
theorem inv1 : Dk.Inv d1 := Dk.inv_new.push ⟨by decide +kernel, by decide +kernel, by decide +kernel⟩
theorem inv2 : Dk.Inv d2 := inv1.push ⟨by decide +kernel, by decide +kernel⟩
theorem there0v : Dk.new.there vn = 4 := by decide +kernel
theorem there0 : Dk.new.there voteK = 4 := by decide +kernel
theorem there0s : Dk.new.there snapK = 4 := by decide +kernel
theorem there1 : d1.there vn = 0 := by decide +kernel
theorem there3 : d3.there voteK = 0 := by decide +kernel
theorem get3 : d3.now.get voteK = p3 := by decide +kernel
theorem nbad : ¬ Dk.new.bad vn (0 : Nat) p3 := by
  unfold Dk.bad
  decide +kernel
theorem move1 : d1.move vn voteK = (0, d2) := by
  unfold Dk.move
  rw [if_neg (fun h => absurd h.2 (by decide +kernel)), if_neg (by rw [there1]; decide)]
  rfl
theorem unpack3 : Crc.unpackP p3 = (t3, ⟨#[]⟩, 0) := by decide +kernel
theorem read3 : (Vt.read t3).1.term = 3 ∧ (Vt.read t3).1.to = 1 ∧ (Vt.read t3).2 = 0 := by decide +kernel
end Shf
open Shf
set_option maxRecDepth 100000 in
set_option maxHeartbeats 4000000 in
theorem save_new (S : Nat → Prop) (p : Nat) (f : ByteArray) (hf : f = voteK) (w : World) (hS : ∀ k, w.heap.size ≤ k → S k) (h : DiskAt w S p 0 Dk.new) :
    Calls Tryz.prog 56 #[.pointer (some ⟨p, 0, none⟩), .string f, .string t3] w fun r w' => r = .returned (.int .i64 0) ∧ Mem.Ch S w w' ∧ DiskAt w' S p 3 d3 := by
  have hp := fun W => pack_any t3 W size3
  have hgr : ∀ {W w' : World}, w.heap.size ≤ W.heap.size → ∀ k, Gr S W w' k → S k := fun hW k hk => by
    rcases hk with hk | hk
    · exact hk
    · exact hS k (Nat.le_trans hW hk.1)
  have hrd : ∀ W, DiskAt W S p 0 Dk.new → Calls Tryz.prog 22 #[.pointer (some ⟨p, 0, none⟩), .string (f ++ ⟨#[46, 110, 101, 119]⟩)] W fun r w' => r = .returned (.tuple #[.string ⟨#[]⟩, .int .i64 4]) ∧ Below W.heap.size W w' := fun W hW => by
    subst hf
    have := Dsk.Read_any _ p 0 Dk.new vn W hW (by decide +kernel)
    rw [there0v] at this
    exact this
  have hpt : ∀ W, w.heap.size ≤ W.heap.size → DiskAt W S p 0 Dk.new → Calls Tryz.prog 5 #[.pointer (some ⟨p, 0, none⟩), .string (f ++ ⟨#[46, 110, 101, 119]⟩), .int .i64 0, .string (Crc.packB t3)] W fun r w' => r = .returned (.int .i64 0) ∧ Mem.Ch S W w' ∧ DiskAt w' S p 1 d1 := fun W hB hW => by
    subst hf
    refine (Dsk.Put_good _ p 0 Dk.new vn 0 p3 W hW Dk.inv_new rfl (by decide +kernel) nbad (by decide) (by decide)).mono ?_
    rintro _ w' ⟨rfl, h1, h2⟩
    exact ⟨rfl, h1, h2.mono (hgr hB)⟩
  have hmv : ∀ W, w.heap.size ≤ W.heap.size → DiskAt W S p 1 d1 → Calls Tryz.prog 81 #[.pointer (some ⟨p, 0, none⟩), .string (f ++ ⟨#[46, 110, 101, 119]⟩), .string f] W fun r w' => r = .returned (.int .i64 0) ∧ Mem.Ch S W w' ∧ DiskAt w' S p 2 d2 := fun W hB hW => by
    subst hf
    have := Dsk.Move_any _ p 1 d1 vn voteK W hW inv1 (by decide +kernel) (by decide +kernel) (by decide)
    rw [move1] at this
    refine this.mono ?_
    rintro _ w' ⟨rfl, h1, h2⟩
    exact ⟨rfl, h1, h2.mono (hgr hB)⟩
  have hsy : ∀ W, w.heap.size ≤ W.heap.size → DiskAt W S p 2 d2 → Calls Tryz.prog 6 #[.pointer (some ⟨p, 0, none⟩)] W fun r w' => r = .returned (.int .i64 0) ∧ Mem.Ch S W w' ∧ DiskAt w' S p 3 d3 := fun W hB hW => by
    refine (Dsk.Sync_any _ p 2 d2 W hW inv2 (by decide)).mono ?_
    rintro _ w' ⟨rfl, h1, h2⟩
    exact ⟨rfl, h1, h2.mono (hgr hB)⟩
  have hfz : f.size ≤ 4 := by rw [hf]; decide
  have H := Lib.hid h
  clear h hf
  go_enter Tryz.func56, Tryz.ntmps56
  go_wp2_with (first
    | (go_at_call 79; refine (hp _).mono ?_; rintro _ w2 ⟨rfl, hb2⟩; have h2 := H.out.below hb2; have b2 : Mem.Ch S w w2 := Mem.Ch.of_below' hb2)
    | (go_at_call 22; refine (hrd _ h2).mono ?_; rintro _ w3 ⟨rfl, hb3⟩; have h3 := h2.below hb3; have b3 := b2.trans' (Mem.Ch.of_below' hb3))
    | (go_at_call 5; refine (hpt _ b3.size h3).mono ?_; rintro _ w4 ⟨rfl, hb4, h4⟩; have b4 := b3.trans' hb4)
    | (go_at_call 81; refine (hmv _ b4.size h4).mono ?_; rintro _ w5 ⟨rfl, hb5, h5⟩; have b5 := b4.trans' hb5)
    | (go_at_call 6; refine (hsy _ b5.size h5).mono ?_; rintro _ w6 ⟨rfl, hb6, h6⟩; have b6 := b5.trans' hb6))
  go_ret
  exact ⟨rfl, b6, h6⟩
theorem got_of {S : Nat → Prop} {p N : Nat} {d : Dk} {f x : ByteArray} {e : Int} {w : World} (h : DiskAt w S p N d) (hf : f.size ≤ maxLen) (hx : (if d.there f ≠ 0 then (⟨#[]⟩ : ByteArray) else d.now.get f) = x) (he : d.there f = e) : Got (.pointer (some ⟨p, 0, none⟩)) f x e w := by
  intro W hW
  have := Dsk.Read_any S p N d f W (h.below hW) hf
  rw [hx, he] at this
  exact this
theorem loadV_new {S : Nat → Prop} {p : Nat} {w : World} (h : DiskAt w S p 0 Dk.new) : Calls Tryz.prog 9 #[.pointer (some ⟨p, 0, none⟩)] w fun r w' => r = .returned (.tuple #[.agg #[.int .i64 0, .int .i64 (-1)], .int .i64 0]) ∧ Below w.heap.size w w' :=
  loadV_none _ w (load_bad _ _ 4 (by decide) w (got_of h (by decide) (by rw [if_pos]; decide +kernel) there0))
theorem loadS_new {S : Nat → Prop} {p : Nat} {w : World} (h : DiskAt w S p 0 Dk.new) : Calls Tryz.prog 11 #[.pointer (some ⟨p, 0, none⟩)] w fun r w' => r = .returned (.tuple #[.agg #[.int .i64 0, .int .i64 0, .int .i64 0, .string ⟨#[]⟩], .bool false, .int .i64 0]) ∧ Below w.heap.size w w' :=
  loadS_none _ w (load_bad _ _ 4 (by decide) w (got_of h (by decide) (by rw [if_pos]; decide +kernel) there0s))
theorem loadV_3 {S : Nat → Prop} {p : Nat} {w : World} (h : DiskAt w S p 3 d3) : Calls Tryz.prog 9 #[.pointer (some ⟨p, 0, none⟩)] w fun r w' => r = .returned (.tuple #[.agg #[.int .i64 3, .int .i64 1], .int .i64 0]) ∧ Below w.heap.size w w' := by
  have := loadV_ok (.pointer (some ⟨p, 0, none⟩)) w t3 (by decide +kernel) (load_good _ _ p3 t3 w (got_of h (by decide) (by rw [if_neg (by rw [show d3.there ⟨#[118, 111, 116, 101]⟩ = 0 from there3]; decide)]; exact get3) there3) psize unpack3)
  obtain ⟨e1, e2, e3⟩ := read3
  unfold Vt.val at this
  rw [e1, e2, e3] at this
  exact this
end Go.Proofs.YtpdceondgbgpkaaGreatDoor
namespace Go.Proofs.YtpdceondgbgpkaaGreatDoor
open Go.RowKit
set_option linter.unusedSimpArgs false
set_option linter.unusedVariables false
open Sp (bs)
open Dsk (DiskAt Dk nameP FM)
namespace Shf
/-- The text that bytes say; none: they say none. -/
def said (s : ByteArray) : Option ByteArray := if (Crc.unpackP s).2.2 = 0 ∧ (Crc.unpackP s).2.1 = ⟨#[]⟩ then some (Crc.unpackP s).1 else none
def voteOf : Option ByteArray → Vt × Int
  | none => (⟨0, -1⟩, 0)
  | some s => match said s with
    | none => (⟨0, 0⟩, 3)
    | some t => Vt.read t
def snapOf : Option ByteArray → Sn × Bool × Int
  | none => (⟨0, 0, 0, ⟨#[]⟩⟩, false, 0)
  | some s => match said s with
    | none => (⟨0, 0, 0, ⟨#[]⟩⟩, false, 3)
    | some t => ((Sn.read t).1, decide ((Sn.read t).2 = 0), (Sn.read t).2)
theorem unpack_le (s : ByteArray) : (Crc.unpackP s).1.size ≤ s.size := by
  unfold Crc.unpackP
  split
  · exact Nat.zero_le _
  split
  · exact Nat.zero_le _
  split
  · exact Nat.zero_le _
  split
  · show (s.extract 3 _).size ≤ _
    rw [ByteArray.size_extract]
    omega
  · exact Nat.zero_le _
theorem said_le {s t : ByteArray} (h : said s = some t) : t.size ≤ s.size := by
  unfold said at h
  split at h
  · cases h; exact unpack_le s
  · cases h
theorem said_some {s t : ByteArray} (h : said s = some t) : Crc.unpackP s = (t, ⟨#[]⟩, 0) := by
  unfold said at h
  split at h
  · rename_i hh
    cases h
    rw [← hh.1, ← hh.2]
  · cases h
theorem said_none {s : ByteArray} (h : said s = none) : (Crc.unpackP s).2.2 ≠ 0 ∨ ((Crc.unpackP s).2.2 = 0 ∧ (Crc.unpackP s).2.1 ≠ ⟨#[]⟩) := by
  unfold said at h
  split at h
  · cases h
  · rename_i hh
    by_cases h0 : (Crc.unpackP s).2.2 = 0
    · exact .inr ⟨h0, fun h1 => hh ⟨h0, h1⟩⟩
    · exact .inl h0
theorem nonempty {t : ByteArray} (h : t ≠ ⟨#[]⟩) : t.toList.isEmpty = false := by
  cases hh : t.toList.isEmpty with
  | false => rfl
  | true =>
    exfalso
    apply h
    rw [List.isEmpty_iff, ByteArray.toList_eq] at hh
    apply ByteArray.ext
    apply Array.ext'
    exact hh
end Shf
open Shf
set_option maxRecDepth 100000 in
set_option maxHeartbeats 2000000 in
theorem load_ill (a : Value) (f x : ByteArray) (w : World) (h : Got a f x 0 w) (hx : x.size ≤ 140737488351232) (hu : said x = none) : Load a f ⟨#[]⟩ 3 w := by
  intro W hW
  have hr := h W hW
  have hn := fun W => unpack_any x W hx
  have hs := said_none hu
  generalize Crc.unpackP x = U at hn hs
  obtain ⟨t, rest, e⟩ := U
  dsimp only at hn hs
  clear h hW hu
  rcases hs with he | ⟨rfl, hne⟩
  · go_enter Tryz.func23, Tryz.ntmps23
    go_wp2_with (first
      | (go_at_call 22; refine hr.mono ?_; rintro _ w2 ⟨rfl, hb2⟩)
      | (go_at_call 37; refine (hn _).mono ?_; rintro _ w3 ⟨rfl, hb3⟩))
    go_ret2
    exact ⟨rfl, hb2.trans (hb3.mono hb2.size)⟩
  · have hem := nonempty hne
    clear hne
    go_enter Tryz.func23, Tryz.ntmps23
    go_wp2_with (first
      | (go_at_call 22; refine hr.mono ?_; rintro _ w2 ⟨rfl, hb2⟩)
      | (go_at_call 37; refine (hn _).mono ?_; rintro _ w3 ⟨rfl, hb3⟩))
    go_ret2
    exact ⟨rfl, hb2.trans (hb3.mono hb2.size)⟩
set_option maxRecDepth 100000 in
set_option maxHeartbeats 4000000 in
theorem loadS_no (p : Value) (w : World) (t : ByteArray) (ht : t.size ≤ 140737488351232) (a b c : Int) (t' : ByteArray) (e : Int) (he : e ≠ 0) (hr : Sn.read t = (⟨a, b, c, t'⟩, e)) (h : Load p ⟨#[115, 110, 97, 112]⟩ t 0 w) : Calls Tryz.prog 11 #[p] w fun r w' => r = .returned (.tuple #[.agg #[.int .i64 a, .int .i64 b, .int .i64 c, .string t'], .bool false, .int .i64 e]) ∧ Below w.heap.size w w' := by
  have hb0 : Below w.heap.size w (w.alloc (.cells #[.int .i64 0, .int .i64 0, .int .i64 0, .string ⟨#[]⟩] 40)) := (Below.refl _ w).alloc (Nat.le_refl _) _
  have hres := Mem.new w (.cells #[.int .i64 0, .int .i64 0, .int .i64 0, .string ⟨#[]⟩] 40)
  have hl := h _ hb0
  have hrd := fun W => readS_any t W ht
  rw [hr] at hrd
  unfold Sn.val at hrd
  dsimp only at hrd
  have HB := Lib.hid (And.intro hb0 hres)
  clear hb0 hres h hr
  go_enter Tryz.func11, Tryz.ntmps11
  go_wp2_with (first
    | (go_at_call 23; refine hl.mono ?_; rintro _ w2 ⟨rfl, hb2⟩; have hres2 := (hb2.block w.heap.size (by simp)).trans HB.out.2)
    | (go_at_call 28; refine (hrd _).mono ?_; rintro _ w3 ⟨rfl, hb3⟩; have hres3 := (hb3.block w.heap.size (Mem.lt hres2)).trans hres2; have hl3 := Mem.lt hres3; have g0 : w3.frozen? ⟨w.heap.size, 0, none⟩ = false := Mem.free hres3; have g1 : w3.frozen? ⟨w.heap.size, 1, none⟩ = false := Mem.free hres3; have g2 : w3.frozen? ⟨w.heap.size, 2, none⟩ = false := Mem.free hres3; have g3 : w3.frozen? ⟨w.heap.size, 3, none⟩ = false := Mem.free hres3; have r0 : w3.cell? ⟨w.heap.size, 0, none⟩ = some (.int .i64 0) := Mem.cell hres3 rfl; have r1 : w3.cell? ⟨w.heap.size, 1, none⟩ = some (.int .i64 0) := Mem.cell hres3 rfl; have r2 : w3.cell? ⟨w.heap.size, 2, none⟩ = some (.int .i64 0) := Mem.cell hres3 rfl; have r3 : w3.cell? ⟨w.heap.size, 3, none⟩ = some (.string ⟨#[]⟩) := Mem.cell hres3 rfl))
  have hq := Mem.old (Mem.set (j := 3) (u := .string t') (Mem.set (j := 2) (u := .int .i64 c) (Mem.set (j := 1) (u := .int .i64 b) (Mem.set (j := 0) (u := .int .i64 a) hres3)))) (.cells #[.int .i64 a, .int .i64 b, .int .i64 c, .string t'] 40)
  have q0 := Mem.cell (j := 0) (v := .int .i64 a) hq rfl
  have q1 := Mem.cell (j := 1) (v := .int .i64 b) hq rfl
  have q2 := Mem.cell (j := 2) (v := .int .i64 c) hq rfl
  have q3 := Mem.cell (j := 3) (v := .string t') hq rfl
  refine bodyPost_ret (v := .tuple #[.agg #[.int .i64 a, .int .i64 b, .int .i64 c, .string t'], .bool false, .int .i64 e]) (by simp [results, Tryz.results11, go_sem, *]) rfl ⟨rfl, ?_⟩
  exact Mem.Ch.below (B := w.heap.size) (S := fun k => w.heap.size ≤ k) ((((((((Mem.Ch.of_below HB.out.1).trans' (Mem.Ch.of_below' hb2)).trans' (Mem.Ch.of_below' hb3)).set (.inl (Nat.le_refl _))).set (.inl (Nat.le_refl _))).set (.inl (Nat.le_refl _))).set (.inl (Nat.le_refl _))).trans' (Mem.Ch.of_below' ((Below.refl _ _).alloc (Nat.le_refl _) _))) (fun k hk hS => by have h : w.heap.size ≤ k := hS; omega) (Nat.le_refl _)
namespace Shf
theorem nameV : nameP voteK = true := by decide +kernel
theorem nameS : nameP snapK = true := by decide +kernel
theorem thereN {d : Dk} {f : ByteArray} (hd : d.down = false) (hn : nameP f = true) (h : d.now f = none) : d.there f = 4 := by
  unfold Dk.there
  rw [if_neg (by rw [hd]; decide), if_pos hn, h]
  rfl
theorem thereS {d : Dk} {f x : ByteArray} (hd : d.down = false) (hn : nameP f = true) (h : d.now f = some x) : d.there f = 0 := by
  unfold Dk.there
  rw [if_neg (by rw [hd]; decide), if_pos hn, h]
  rfl
theorem getS {d : Dk} {f x : ByteArray} (h : d.now f = some x) : d.now.get f = x := by unfold FM.get; rw [h]; rfl
end Shf
section
variable {S : Nat → Prop} {p N : Nat} {d : Dk} {w : World}
theorem loadV_all (h : DiskAt w S p N d) (hd : d.down = false) (hz : ∀ x, d.now voteK = some x → x.size ≤ 140737488351232) : Calls Tryz.prog 9 #[.pointer (some ⟨p, 0, none⟩)] w fun r w' => r = .returned (.tuple #[(voteOf (d.now voteK)).1.val, .int .i64 (voteOf (d.now voteK)).2]) ∧ Below w.heap.size w w' := by
  cases h1 : d.now voteK with
  | none =>
    have ht := thereN hd nameV h1
    exact loadV_none _ w (load_bad _ _ 4 (by decide) w (got_of h (by decide) (by rw [show d.there ⟨#[118, 111, 116, 101]⟩ = 4 from ht, if_pos (by decide)]) ht))
  | some x =>
    have ht := thereS hd nameV h1
    have hx := hz x h1
    have hg : Got (.pointer (some ⟨p, 0, none⟩)) voteK x 0 w := got_of h (by decide) (by rw [ht, if_neg (by decide)]; exact getS h1) ht
    unfold voteOf
    dsimp only
    cases h2 : said x with
    | none => exact loadV_err _ w 3 (by decide) (by decide) (load_ill _ _ x w hg hx h2)
    | some t => exact loadV_ok _ w t (Nat.le_trans (said_le h2) hx) (load_good _ _ x t w hg hx (said_some h2))
theorem loadS_all (h : DiskAt w S p N d) (hd : d.down = false) (hz : ∀ x, d.now snapK = some x → x.size ≤ 140737488351232) : Calls Tryz.prog 11 #[.pointer (some ⟨p, 0, none⟩)] w fun r w' => r = .returned (.tuple #[(snapOf (d.now snapK)).1.val, .bool (snapOf (d.now snapK)).2.1, .int .i64 (snapOf (d.now snapK)).2.2]) ∧ Below w.heap.size w w' := by
  cases h1 : d.now snapK with
  | none =>
    have ht := thereN hd nameS h1
    exact loadS_none _ w (load_bad _ _ 4 (by decide) w (got_of h (by decide) (by rw [show d.there ⟨#[115, 110, 97, 112]⟩ = 4 from ht, if_pos (by decide)]) ht))
  | some x =>
    have ht := thereS hd nameS h1
    have hx := hz x h1
    have hg : Got (.pointer (some ⟨p, 0, none⟩)) snapK x 0 w := got_of h (by decide) (by rw [ht, if_neg (by decide)]; exact getS h1) ht
    unfold snapOf
    dsimp only
    cases h2 : said x with
    | none => exact loadS_err _ w 3 (by decide) (by decide) (load_ill _ _ x w hg hx h2)
    | some t =>
      have hl := load_good _ _ x t w hg hx (said_some h2)
      have ht2 := Nat.le_trans (said_le h2) hx
      dsimp only
      obtain ⟨⟨⟨a, b, c, t'⟩, e⟩, hr⟩ : ∃ y, Sn.read t = y := ⟨_, rfl⟩
      rw [hr]
      dsimp only
      by_cases he : e = 0
      · subst he
        exact loadS_ok _ w t ht2 a b c t' hr hl
      · rw [decide_eq_false he]
        exact loadS_no _ w t ht2 a b c t' e he hr hl
end
end Go.Proofs.YtpdceondgbgpkaaGreatDoor
namespace Go.Proofs.YtpdceondgbgpkaaGreatDoor
open Go.RowKit
set_option linter.unusedSimpArgs false
set_option linter.unusedVariables false
open Dsk (fc)
/-- The first file of a name. -/
def look (k : ByteArray) : List (ByteArray × ByteArray) → Option ByteArray
  | [] => none
  | x :: l => if x.1 = k then some x.2 else look k l
theorem look_hit {k s : ByteArray} : ∀ (l : List (ByteArray × ByteArray)) (j : Nat), (∀ x ∈ l.take j, x.1 ≠ k) → l[j]? = some (k, s) → look k l = some s
  | [], j, _, h => by simp at h
  | x :: l, 0, _, h => by
    have e : x = (k, s) := by simpa using h
    subst e
    unfold look
    rw [if_pos rfl]
  | x :: l, j + 1, hn, h => by
    unfold look
    rw [if_neg (hn x (by simp)), look_hit l j (fun y hy => hn y (by rw [List.take_succ_cons]; exact List.mem_cons_of_mem _ hy)) (by simpa using h)]
theorem look_miss {k : ByteArray} : ∀ (l : List (ByteArray × ByteArray)), (∀ x ∈ l, x.1 ≠ k) → look k l = none
  | [], _ => rfl
  | x :: l, hn => by
    unfold look
    rw [if_neg (hn x List.mem_cons_self), look_miss l (fun y hy => hn y (List.mem_cons_of_mem _ hy))]
set_option maxRecDepth 100000 in
set_option maxHeartbeats 4000000 in
theorem rget_any (fl : List (ByteArray × ByteArray)) (k : ByteArray) (v : Value) (ok : Nat → Prop) (w : World) (h : Mem.Rd w ok 2 v (fl.map fc)) :
    Calls Tryz.prog 25 #[v, .string k] w fun r w' => r = .returned (.tuple #[.string ((look k fl).getD ⟨#[]⟩), .bool (look k fl).isSome]) ∧ Below w.heap.size w w' := by
  obtain ⟨A1, c1, rfl⟩ := h.slice
  have l1 : (fl.map fc).length = fl.length := List.length_map _
  rw [l1] at h ⊢
  have m1 := h.len
  rw [l1] at m1
  have HA := Lib.hid h
  clear h l1
  generalize hR : look k fl = R
  have HR := Lib.hid hR
  clear hR
  go_enter Tryz.func25, Tryz.ntmps25
  go_wp2_with fail
  go_loopw [6] (fun i wr => ∃ j : Nat, j ≤ fl.length ∧ i = .int .i64 (j : Int) ∧ (∀ x ∈ fl.take j, x.1 ≠ k) ∧ Below w.heap.size w wr) (fun i _ => fl.length - (intOf i).toNat)
  case atStart => exact ⟨0, Nat.zero_le _, rfl, (fun x hx => by simp at hx), Below.refl _ _⟩
  case round =>
    obtain ⟨j, hj, rfl, hno, hbel⟩ := hrel
    by_cases hlt : j < fl.length
    · have hlt' : (j : Int) < (fl.length : Int) := by omega
      obtain ⟨⟨s1, t1⟩, hx⟩ : ∃ x, fl[j]? = some x := ⟨_, List.getElem?_eq_getElem hlt⟩
      obtain ⟨g1, o1, rfl, hg1, hgl1, hr1⟩ := (HA.out.below hbel).row (k := j) (r := fc (s1, t1)) (by rw [List.getElem?_map, hx]; rfl)
      have c10 : wr.cell? ⟨g1, o1 + j * 2, none⟩ = some (.string s1) := hr1 0 _ rfl
      have c11 : wr.cell? ⟨g1, o1 + j * 2 + 1, none⟩ = some (.string t1) := hr1 1 _ rfl
      have HT := Lib.hid (And.intro hno hx)
      have HK := Lib.hid (show wrap64 ((j : Int) + 1) = (j : Int) + 1 by unfold wrap64; omega)
      clear hr1 hno hx
      by_cases e1 : s1 = k
      · subst e1
        go_wp2_with fail
        go_ret2
        have e2 : R = some t1 := by rw [← HR.out]; exact look_hit fl j HT.out.1 HT.out.2
        rw [e2]
        exact ⟨rfl, hbel⟩
      · have e1' : (s1.toList == k.toList) = false := by simpa using ba_toList_ne e1
        go_wp2_with fail
        go_roundw
        case rel =>
          refine ⟨j + 1, hlt, by go_num, fun x hx => ?_, hbel⟩
          rw [List.take_add_one, HT.out.2] at hx
          rcases List.mem_append.1 hx with hx | hx
          · exact HT.out.1 x hx
          · have e3 : x = (s1, t1) := by simpa using hx
            rw [e3]
            exact e1
        case measure => first | exact Dsk.measS hlt | (rw [HK.out]; exact Dsk.measS hlt)
    · have hge : ¬ (j : Int) < (fl.length : Int) := by omega
      have e2 : R = none := by
        rw [← HR.out]
        refine look_miss fl (fun x hx => ?_)
        rw [List.take_of_length_le (by omega)] at hno
        exact hno x hx
      go_wp2_with fail
      go_ret2
      exact ⟨rfl, hbel⟩
set_option maxRecDepth 100000 in
set_option maxHeartbeats 2000000 in
theorem rsaid_any (s : ByteArray) (w : World) (hs : s.size ≤ 140737488351232) : Calls Tryz.prog 26 #[.string s] w fun r w' => r = .returned (.tuple #[.string (Crc.unpackP s).1, .bool (Shf.said s).isSome]) ∧ Below w.heap.size w w' := by
  have hn := fun W => runpack_any s W hs
  have hu : ∀ t, Shf.said s = some t → _ := fun t ht => Shf.said_some ht
  cases h : Shf.said s with
  | some t =>
    rw [Shf.said_some h] at hn ⊢
    dsimp only at hn ⊢
    have hem : (ByteArray.mk #[]).toList.isEmpty = true := by decide +kernel
    clear h hu
    go_enter Tryz.func26, Tryz.ntmps26
    go_wp2_with (go_at_call 43; refine (hn _).mono ?_; rintro _ w3 ⟨rfl, hb3⟩)
    go_ret2
    exact ⟨rfl, hb3⟩
  | none =>
    have hs := Shf.said_none h
    clear h hu
    generalize Crc.unpackP s = U at hn hs ⊢
    obtain ⟨t, rest, e⟩ := U
    dsimp only at hn hs ⊢
    rcases hs with he | ⟨rfl, hne⟩
    · go_enter Tryz.func26, Tryz.ntmps26
      go_wp2_with (go_at_call 43; refine (hn _).mono ?_; rintro _ w3 ⟨rfl, hb3⟩)
      go_ret2
      exact ⟨rfl, hb3⟩
    · have hem := Shf.nonempty hne
      clear hne
      go_enter Tryz.func26, Tryz.ntmps26
      go_wp2_with (go_at_call 43; refine (hn _).mono ?_; rintro _ w3 ⟨rfl, hb3⟩)
      go_ret2
      exact ⟨rfl, hb3⟩
end Go.Proofs.YtpdceondgbgpkaaGreatDoor
namespace Go.Proofs.YtpdceondgbgpkaaGreatDoor
theorem be_get : ∀ m n k, k < m → (Sp.be m n)[k]? = some (UInt8.ofNat (n / 256 ^ (m - 1 - k)))
  | m + 1, n, 0, _ => by simp [Sp.be]
  | m + 1, n, k + 1, h => by
    rw [Sp.be, List.getElem?_cons_succ, be_get m n k (by omega)]
    congr 4
    omega
end Go.Proofs.YtpdceondgbgpkaaGreatDoor
