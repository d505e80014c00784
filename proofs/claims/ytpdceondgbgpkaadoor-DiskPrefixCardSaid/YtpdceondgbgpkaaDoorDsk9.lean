/- The law's example: awake. -/
import Derived.Test.YtpdceondgbgpkaaDoorDskW
import Derived.Test.YtpdceondgbgpkaaDoorDskF
namespace Go.Proofs.YtpdceondgbgpkaaDoor.Dsk
open Go.RowKit Go.Maps
set_option linter.unusedSimpArgs false
set_option linter.unusedVariables false
def nmA : ByteArray := ⟨#[97]⟩
def xyz : ByteArray := ⟨#[120, 121, 122]⟩
def uvw : ByteArray := ⟨#[117, 118, 119]⟩
def d1 : Dk := Dk.new.push (.put nmA xyz 0)
def d2 : Dk := d1.sync.2
def d3 : Dk := d2.push (.put nmA uvw 3)
def d4 : Dk := d3.fail 3
def d5 : Dk := { d4 with down := false }
theorem nameA : nameP nmA = true := by decide
theorem inv1 : Dk.Inv d1 := Dk.inv_new.push ⟨by decide, by decide, by decide⟩
theorem inv2 : Dk.Inv d2 := inv1.sync
theorem get2 : d2.now.get nmA = xyz := by decide
theorem inv3 : Dk.Inv d3 := inv2.push ⟨by decide, by rw [get2]; decide, by decide⟩
theorem bad1 : ¬ Dk.new.bad nmA (0 : Nat) xyz := by
  unfold Dk.bad
  rw [nameA]
  decide
theorem bad2 : ¬ d2.bad nmA (3 : Nat) uvw := by
  unfold Dk.bad
  rw [nameA, get2]
  decide
theorem get5 : d5.now.get nmA = ⟨#[120, 121, 122, 117, 118]⟩ := by decide
theorem there4 : d4.there nmA = 8 := by decide
theorem there5 : d5.there nmA = 0 := by decide
theorem aw1 (B p : Nat) (W : World) (hB : B ≤ W.heap.size) (h : DiskAt W (fun k => B ≤ k) p 0 Dk.new) :
    Calls Tryd.prog 17 #[.pointer (some ⟨p, 0, none⟩), .string ⟨#[97]⟩, .int .i64 0, .string ⟨#[120, 121, 122]⟩] W fun r w' => r = .returned (.int .i64 0) ∧ Below B W w' ∧ DiskAt w' (fun k => B ≤ k) p 1 d1 := by
  refine (Put_good _ p 0 Dk.new nmA 0 xyz W h Dk.inv_new rfl (by decide) bad1 (by decide) (by decide)).mono ?_
  rintro _ w' ⟨rfl, h1, h2⟩
  exact ⟨rfl, above hB h1 h2⟩
theorem aw2 (B p : Nat) (W : World) (hB : B ≤ W.heap.size) (h : DiskAt W (fun k => B ≤ k) p 1 d1) :
    Calls Tryd.prog 18 #[.pointer (some ⟨p, 0, none⟩)] W fun r w' => r = .returned (.int .i64 0) ∧ Below B W w' ∧ DiskAt w' (fun k => B ≤ k) p 2 d2 := by
  refine (Sync_any _ p 1 d1 W h inv1 (by decide)).mono ?_
  rintro _ w' ⟨rfl, h1, h2⟩
  exact ⟨rfl, above hB h1 h2⟩
theorem aw3 (B p : Nat) (W : World) (hB : B ≤ W.heap.size) (h : DiskAt W (fun k => B ≤ k) p 2 d2) :
    Calls Tryd.prog 17 #[.pointer (some ⟨p, 0, none⟩), .string ⟨#[97]⟩, .int .i64 3, .string ⟨#[117, 118, 119]⟩] W fun r w' => r = .returned (.int .i64 0) ∧ Below B W w' ∧ DiskAt w' (fun k => B ≤ k) p 3 d3 := by
  refine (Put_good _ p 2 d2 nmA 3 uvw W h inv2 rfl (by decide) bad2 (by decide) (by decide)).mono ?_
  rintro _ w' ⟨rfl, h1, h2⟩
  exact ⟨rfl, above hB h1 h2⟩
theorem aw4 (B p : Nat) (W : World) (hB : B ≤ W.heap.size) (h : DiskAt W (fun k => B ≤ k) p 3 d3) :
    Calls Tryd.prog 10 #[.pointer (some ⟨p, 0, none⟩), .int .i64 3] W fun r w' => r = .returned (.tuple #[]) ∧ Below B W w' ∧ DiskAt w' (fun k => B ≤ k) p 3 d4 := by
  refine (Fail_any _ p 3 d3 3 W h (by decide) inv3 (by decide)).mono ?_
  rintro _ w' ⟨rfl, h1, h2⟩
  exact ⟨rfl, above hB h1 h2⟩
theorem aw5 (B p : Nat) (W : World) (hB : B ≤ W.heap.size) (h : DiskAt W (fun k => B ≤ k) p 3 d4) :
    Calls Tryd.prog 11 #[.pointer (some ⟨p, 0, none⟩)] W fun r w' => r = .returned (.tuple #[]) ∧ Below B W w' ∧ DiskAt w' (fun k => B ≤ k) p 3 d5 := by
  refine (Wake_any _ p 3 d4 W h).mono ?_
  rintro _ w' ⟨rfl, h1, h2⟩
  exact ⟨rfl, h1.below (fun k hk => by omega) hB, h2⟩
theorem aw6 (B p : Nat) (W : World) (h : DiskAt W (fun k => B ≤ k) p 3 d4) :
    Calls Tryd.prog 19 #[.pointer (some ⟨p, 0, none⟩), .string ⟨#[97]⟩] W fun r w' => r = .returned (.tuple #[.string ⟨#[]⟩, .int .i64 8]) ∧ Below W.heap.size W w' := by
  have := Read_any _ p 3 d4 nmA W h (by decide)
  rw [there4] at this
  exact this
theorem aw7 (B p : Nat) (W : World) (h : DiskAt W (fun k => B ≤ k) p 3 d5) :
    Calls Tryd.prog 19 #[.pointer (some ⟨p, 0, none⟩), .string ⟨#[97]⟩] W fun r w' => r = .returned (.tuple #[.string ⟨#[120, 121, 122, 117, 118]⟩, .int .i64 0]) ∧ Below W.heap.size W w' := by
  have := Read_any _ p 3 d5 nmA W h (by decide)
  rw [there5, get5] at this
  exact this
set_option maxRecDepth 100000 in
set_option maxHeartbeats 4000000 in
theorem awake_any (w : World) : Calls Tryd.prog 6 #[] w fun r w' => r = .returned (.bool true) ∧ Below w.heap.size w w' := by
  have tok1 : True := trivial
  have tok2 : True := trivial
  go_enter Tryd.func6, Tryd.ntmps6
  go_wp2_with (first
    | (go_at_call 5; refine (New_any _).mono ?_; rintro _ w1 ⟨p, rfl, hb1, hD1⟩; have hX1 := hD1.mono (S' := fun k => w.heap.size ≤ k) (fun k hk => hk.1))
    | (go_at_call 17; have _t := tok1; refine (aw1 w.heap.size p _ hb1.size hX1).mono ?_; rintro _ w2 ⟨rfl, hb2, hX2⟩; clear tok1)
    | (go_at_call 18; refine (aw2 w.heap.size p _ (by have := hb1.size; have := hb2.size; omega) hX2).mono ?_; rintro _ w3 ⟨rfl, hb3, hX3⟩)
    | (go_at_call 17; refine (aw3 w.heap.size p _ (by have := hb1.size; have := hb2.size; have := hb3.size; omega) hX3).mono ?_; rintro _ w4 ⟨rfl, hb4, hX4⟩)
    | (go_at_call 10; refine (aw4 w.heap.size p _ (by have := hb1.size; have := hb2.size; have := hb3.size; have := hb4.size; omega) hX4).mono ?_; rintro _ w5 ⟨rfl, hb5, hX5⟩; have hl5 : w.heap.size ≤ w5.heap.size := by (have := hb1.size; have := hb2.size; have := hb3.size; have := hb4.size; have := hb5.size; omega))
    | (go_at_call 19; have _t := tok2; refine (aw6 w.heap.size p _ hX5).mono ?_; rintro _ w6 ⟨rfl, hb6⟩; have hX6 := hX5.below hb6; clear tok2)
    | (go_at_call 11; refine (aw5 w.heap.size p _ (Nat.le_trans hl5 hb6.size) hX6).mono ?_; rintro _ w7 ⟨rfl, hb7, hX7⟩)
    | (go_at_call 19; refine (aw7 w.heap.size p _ hX7).mono ?_; rintro _ w8 ⟨rfl, hb8⟩))
  repeat (go_quiet (fail); try go_wp2_with fail)
  go_ret
  exact ⟨rfl, ((((((hb1.trans hb2).trans hb3).trans hb4).trans hb5).trans (hb6.mono hl5)).trans hb7).trans (hb8.mono (Nat.le_trans hl5 (Nat.le_trans hb6.size hb7.size)))⟩
end Go.Proofs.YtpdceondgbgpkaaDoor.Dsk
