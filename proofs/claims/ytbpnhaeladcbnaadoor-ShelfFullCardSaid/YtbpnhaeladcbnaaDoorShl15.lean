/- What a disk says of the vote and the snapshot; the law's own 'loads'. -/
import Derived.Test.YtbpnhaeladcbnaaDoorShlF
import Derived.Test.YtbpnhaeladcbnaaDoorCrcP
import Derived.Test.YtbpnhaeladcbnaaDoorShl14
import Derived.Test.YtbpnhaeladcbnaaDoorShl7
import Derived.Test.YtbpnhaeladcbnaaDoorShlQ
namespace Go.Proofs.YtbpnhaeladcbnaaDoor
open Go.RowKit
set_option linter.unusedSimpArgs false
set_option linter.unusedVariables false
open Sp (bs)
open Dsk (DiskAt Dk Gr nameP FM)
namespace Shf
def VoteIn (F : FM) (v : Vt) : Prop := (F voteK = none ∧ v = ⟨0, -1⟩) ∨ (v.ok ∧ F voteK = some (Crc.packB v.text.1))
def SnapIn (F : FM) (s : Sn) (is : Bool) : Prop := (F snapK = none ∧ s = ⟨0, 0, 0, ⟨#[]⟩⟩ ∧ is = false) ∨ (s.ok ∧ F snapK = some (Crc.packB s.wrote.1) ∧ is = true)
theorem VoteIn.i64 {F : FM} {v : Vt} (h : VoteIn F v) : IsI64 v.to := by
  rcases h with ⟨_, rfl⟩ | ⟨h, _⟩
  · exact ⟨by decide, by decide⟩
  · exact ⟨by have := h.2.2.1; omega, by have := h.2.2.2; omega⟩
theorem nameV : nameP voteK = true := by decide +kernel
theorem nameS : nameP snapK = true := by decide +kernel
end Shf
open Shf
section
variable {S : Nat → Prop} {p N : Nat} {d : Dk} {w : World}
theorem there_none {f : ByteArray} (hd : d.down = false) (hn : nameP f = true) (h : d.now f = none) : d.there f = 4 := by
  unfold Dk.there
  rw [if_neg (by rw [hd]; decide), if_pos hn, h]
  rfl
theorem there_some {f x : ByteArray} (hd : d.down = false) (hn : nameP f = true) (h : d.now f = some x) : d.there f = 0 := by
  unfold Dk.there
  rw [if_neg (by rw [hd]; decide), if_pos hn, h]
  rfl
theorem get_some {f x : ByteArray} (h : d.now f = some x) : d.now.get f = x := by unfold FM.get; rw [h]; rfl
theorem loadV_in (h : DiskAt w S p N d) (hd : d.down = false) {v : Vt} (hv : VoteIn d.now v) : Calls Tryd.prog 19 #[.pointer (some ⟨p, 0, none⟩)] w fun r w' => r = .returned (.tuple #[v.val, .int .i64 0]) ∧ Below w.heap.size w w' := by
  have hi := hv.i64
  rcases hv with ⟨h1, rfl⟩ | ⟨h1, h2⟩
  · have ht := there_none hd nameV h1
    exact loadV_none _ w (load_bad _ _ 4 (by decide) w (got_of h (by decide) (by rw [show d.there ⟨#[118, 111, 116, 101]⟩ = 4 from ht, if_pos (by decide)]) ht))
  · have ht := there_some hd nameV h2
    have hz := text_small v hi h1
    have := loadV_ok (.pointer (some ⟨p, 0, none⟩)) w v.text.1 (by omega) (load_good _ _ (Crc.packB v.text.1) v.text.1 w (got_of h (by decide) (by rw [show d.there ⟨#[118, 111, 116, 101]⟩ = 0 from ht, if_neg (by decide)]; exact get_some h2) ht) (by rw [Crc.packB_size]; omega) (Crc.unpack_pack _ (by omega)))
    rw [vote_back v h1] at this
    exact this
theorem loadS_in (h : DiskAt w S p N d) (hd : d.down = false) {s : Sn} {is : Bool} (hv : SnapIn d.now s is) : Calls Tryd.prog 20 #[.pointer (some ⟨p, 0, none⟩)] w fun r w' => r = .returned (.tuple #[s.val, .bool is, .int .i64 0]) ∧ Below w.heap.size w w' := by
  rcases hv with ⟨h1, rfl, rfl⟩ | ⟨h1, h2, rfl⟩
  · have ht := there_none hd Shf.nameS h1
    exact loadS_none _ w (load_bad _ _ 4 (by decide) w (got_of h (by decide) (by rw [show d.there ⟨#[115, 110, 97, 112]⟩ = 4 from ht, if_pos (by decide)]) ht))
  · have ht := there_some hd Shf.nameS h2
    have hz := wrote_small s h1
    have hr := snap_back s h1
    obtain ⟨a, b, c, t⟩ := s
    exact loadS_ok (.pointer (some ⟨p, 0, none⟩)) w (Sn.wrote ⟨a, b, c, t⟩).1 (by omega) a b c t hr (load_good _ _ (Crc.packB (Sn.wrote ⟨a, b, c, t⟩).1) _ w (got_of h (by decide) (by rw [show d.there ⟨#[115, 110, 97, 112]⟩ = 0 from ht, if_neg (by decide)]; exact get_some h2) ht) (by rw [Crc.packB_size]; omega) (Crc.unpack_pack _ (by omega)))
end
end Go.Proofs.YtbpnhaeladcbnaaDoor
