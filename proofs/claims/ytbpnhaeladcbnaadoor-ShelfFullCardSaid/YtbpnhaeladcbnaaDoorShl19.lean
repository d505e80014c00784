/- ShelfFalls: the walk (printed by tools/gen_falls.py). -/
import Derived.Test.YtbpnhaeladcbnaaDoorShl17
import Derived.Test.YtbpnhaeladcbnaaDoorShl8
import Derived.Test.YtbpnhaeladcbnaaDoorRShl1
namespace Go.Proofs.YtbpnhaeladcbnaaDoor
open Go.RowKit
set_option linter.unusedSimpArgs false
set_option linter.unusedVariables false
open Dsk (DiskAt Dk nameP FM Off)
open Shf
def Sv.cells (x : Sv) : List Value := [.bool x.snap, .int .i64 x.v.term, .int .i64 x.v.to, .int .i64 x.s.index, .int .i64 x.s.term, .int .i64 x.s.mask, .string x.s.text]
theorem DiskAt_kept {W : World} {S : Nat → Prop} {p N : Nat} {d : Dk} (h : DiskAt W S p N d) : DiskAt W (fun k => S k ∧ k < W.heap.size) p N d := by
  obtain ⟨bs, bn, v, h⟩ := h
  obtain ⟨h1, h2, h3, h4, h5, h6, h7, h8, h9⟩ := h
  obtain ⟨_, _, hb1⟩ := h2.choose_spec.1.isMap
  obtain ⟨_, _, hb2⟩ := h3.isMap
  exact ⟨bs, bn, v, h1, h2, h3, h4, ⟨h5, Mem.lt h1⟩, ⟨h6, Mem.lt hb1⟩, ⟨h7, Mem.lt hb2⟩, fun k hk => ⟨h8 k hk, by obtain ⟨c, hc⟩ := Dsk.row_cells h4 k hk; exact Mem.lt hc⟩, h9⟩
/-- Blocks that the disk may have while a saving lies in block q. -/
abbrev Of (B M q : Nat) : Nat → Prop := fun k => Off B M (M + 2) k ∧ k ≠ q
theorem up_wake {d : Dk} (hi : Dk.Inv d) (hr : d.room < 0) : Up { d with down := false } := ⟨⟨hi.kept, hi.valid, hi.now⟩, rfl, hr⟩
/-- What holds at each round. -/
structure Rnd (w wr : World) (p M N : Nat) (d : Dk) (v : Vt) (s : Sn) (is : Bool) : Prop where
  bel : Below w.heap.size w wr
  V : wr.heap[M]? = some (.cells #[.int .i64 v.term, .int .i64 v.to] 26 (0, 0))
  S : wr.heap[M + 1]? = some (.cells #[.int .i64 s.index, .int .i64 s.term, .int .i64 s.mask, .string s.text] 28 (0, 0))
  D : DiskAt wr (Off w.heap.size M (M + 2)) p N d
  up : Up d
  still : Still d
  hv : VoteIn d.now v
  hs : SnapIn d.now s is
  low : w.heap.size ≤ M
theorem fmeas {n k : Nat} (h : k < n) : n - (intOf (.int .i64 ((k : Int) + 1))).toNat < n - (intOf (.int .i64 (k : Int))).toNat := by
  show n - ((k : Int) + 1).toNat < n - ((k : Int)).toNat; omega
theorem step_sv {d : Dk} {x : Sv} {v : Vt} {s : Sn} {is : Bool} (hu : Up d) (hs : Still d) (h1 : VoteIn d.now v) (h2 : SnapIn d.now s is) (hi : IsI64 x.v.to) (hx : x.ok) :
    Still (x.does d).2 ∧ Dk.Inv (x.does d).2 ∧ (x.does d).2.room = d.room ∧
    (((x.does d).1 = 0 ∧ (x.does d).2.down = false ∧ VoteIn (x.does d).2.now (if x.snap then v else x.v) ∧ SnapIn (x.does d).2.now (if x.snap then x.s else s) (if x.snap then true else is)) ∨
     ((x.does d).1 = 8 ∧ (x.does d).2.down = true ∧ ((VoteIn (x.does d).2.now v ∧ SnapIn (x.does d).2.now s is) ∨ (VoteIn (x.does d).2.now (if x.snap then v else x.v) ∧ SnapIn (x.does d).2.now (if x.snap then x.s else s) (if x.snap then true else is))))) := by
  obtain ⟨b, xv, xs⟩ := x
  rcases hx with ⟨hb, hok⟩ | ⟨hb, hok⟩
  · dsimp only at hb hok hi
    subst hb
    have hd : (Sv.mk false xv xs).does d = Shf.saveD d voteK (Crc.packB xv.text.1) := by unfold Sv.does; rw [if_neg (by show ¬ (false = true); decide)]
    obtain ⟨a1, a2, a3, a4, a5⟩ := step_vote hu hs h1 h2 hi hok hd.symm
    refine ⟨a1, a2, a3, ?_⟩
    rcases a5 with ⟨b1, b2, b3⟩ | ⟨b1, b2, b3⟩
    · exact .inl ⟨b1, b2, b3, a4⟩
    · refine .inr ⟨b1, b2, ?_⟩
      rcases b3 with b3 | b3
      · exact .inl ⟨b3, a4⟩
      · exact .inr ⟨b3, a4⟩
  · dsimp only at hb hok hi
    subst hb
    have hd : (Sv.mk true xv xs).does d = Shf.saveD d snapK (Crc.packB xs.wrote.1) := by unfold Sv.does; rw [if_pos rfl]
    obtain ⟨a1, a2, a3, a4, a5⟩ := step_snap hu hs h1 h2 hok hd.symm
    refine ⟨a1, a2, a3, ?_⟩
    rcases a5 with ⟨b1, b2, b3⟩ | ⟨b1, b2, b3⟩
    · exact .inl ⟨b1, b2, a4, b3⟩
    · refine .inr ⟨b1, b2, ?_⟩
      rcases b3 with b3 | b3
      · exact .inl ⟨a4, b3⟩
      · exact .inr ⟨a4, b3⟩
theorem still_fall {d : Dk} {v : Vt} {s : Sn} {is : Bool} (k : Int) (hu : Up d) (hs : Still d) (h1 : VoteIn d.now v) (h2 : SnapIn d.now s is) : VoteIn (d.fail k).now v ∧ SnapIn (d.fail k).now s is ∧ Dk.Inv (d.fail k) := by
  have e : (d.fail k).now = d.now := by
    unfold Dk.fail
    rw [if_neg (by rw [hu.up]; decide)]
    show Dsk.fallen d.sure d.row k = d.now
    rw [hs.row, hs.same]
    unfold Dsk.fallen
    rfl
  rw [e]
  exact ⟨h1, h2, hu.inv.fail k⟩
set_option maxRecDepth 100000 in
set_option maxHeartbeats 2000000 in
theorem fdown_any (S : Nat → Prop) (p N : Nat) (d : Dk) (w : World) (h : DiskAt w S p N d) : Calls Tryd.prog 11 #[.pointer (some ⟨p, 0, none⟩)] w fun r w' => r = .returned (.bool d.down) ∧ w' = w := by
  obtain ⟨bs, bn, v, h⟩ := h
  have c7 := h.c7
  clear h
  go_enter Tryd.func11, Tryd.ntmps11
  go_wp2_with fail
  go_ret
  exact ⟨rfl, rfl⟩
end Go.Proofs.YtbpnhaeladcbnaaDoor
