/- What a saving leaves of the vote and the snapshot: plain. -/
import Derived.Test.YtbpnhaeladcbnaaDoorShl15
namespace Go.Proofs.YtbpnhaeladcbnaaDoor
open Go.RowKit
open Dsk (DiskAt Dk nameP FM)
namespace Shf
theorem VoteIn.eq {F G : FM} {v : Vt} (h : VoteIn F v) (e : G voteK = F voteK) : VoteIn G v := by unfold VoteIn at *; rw [e]; exact h
theorem SnapIn.eq {F G : FM} {s : Sn} {is : Bool} (h : SnapIn F s is) (e : G snapK = F snapK) : SnapIn G s is := by unfold SnapIn at *; rw [e]; exact h
theorem step_vote {d : Dk} {v0 v : Vt} {s0 : Sn} {is0 : Bool} (hu : Up d) (hs : Still d) (h1 : VoteIn d.now v0) (h2 : SnapIn d.now s0 is0) (hi : IsI64 v.to) (hv : v.ok) {R : Int × Dk} (hR : saveD d voteK (Crc.packB v.text.1) = R) :
    Still R.2 ∧ Dk.Inv R.2 ∧ R.2.room = d.room ∧ SnapIn R.2.now s0 is0 ∧ ((R.1 = 0 ∧ R.2.down = false ∧ VoteIn R.2.now v) ∨ (R.1 = 8 ∧ R.2.down = true ∧ (VoteIn R.2.now v0 ∨ VoteIn R.2.now v))) := by
  have hz := text_small v hi hv
  have ho := save_out (pk := Crc.packB v.text.1) hu hs (f := voteK) (by decide +kernel) (by rw [Crc.packB_size]; omega) (by decide) (by decide +kernel)
  rw [hR] at ho
  obtain ⟨a1, a2, a3, a4⟩ := ho
  rcases a4 with ⟨b1, b2, b3, b4⟩ | ⟨b1, b2, b3⟩
  · exact ⟨a1, a2, a3, h2.eq (b4 snapK (by decide +kernel) (by decide +kernel)), .inl ⟨b1, b2, .inr ⟨hv, b3⟩⟩⟩
  · refine ⟨a1, a2, a3, h2.eq (b3.rest snapK (by decide +kernel) (by decide +kernel)), .inr ⟨b1, b2, ?_⟩⟩
    rcases b3.one with h | h
    · exact .inl (h1.eq h)
    · exact .inr (.inr ⟨hv, h⟩)
theorem step_snap {d : Dk} {v0 : Vt} {s0 s : Sn} {is0 : Bool} (hu : Up d) (hs : Still d) (h1 : VoteIn d.now v0) (h2 : SnapIn d.now s0 is0) (hv : s.ok) {R : Int × Dk} (hR : saveD d snapK (Crc.packB s.wrote.1) = R) :
    Still R.2 ∧ Dk.Inv R.2 ∧ R.2.room = d.room ∧ VoteIn R.2.now v0 ∧ ((R.1 = 0 ∧ R.2.down = false ∧ SnapIn R.2.now s true) ∨ (R.1 = 8 ∧ R.2.down = true ∧ (SnapIn R.2.now s0 is0 ∨ SnapIn R.2.now s true))) := by
  have hz := wrote_small s hv
  have ho := save_out (pk := Crc.packB s.wrote.1) hu hs (f := snapK) (by decide +kernel) (by rw [Crc.packB_size]; omega) (by decide) (by decide +kernel)
  rw [hR] at ho
  obtain ⟨a1, a2, a3, a4⟩ := ho
  rcases a4 with ⟨b1, b2, b3, b4⟩ | ⟨b1, b2, b3⟩
  · exact ⟨a1, a2, a3, h1.eq (b4 voteK (by decide +kernel) (by decide +kernel)), .inl ⟨b1, b2, .inr ⟨hv, b3, rfl⟩⟩⟩
  · refine ⟨a1, a2, a3, h1.eq (b3.rest voteK (by decide +kernel) (by decide +kernel)), .inr ⟨b1, b2, ?_⟩⟩
    rcases b3.one with h | h
    · exact .inl (h2.eq h)
    · exact .inr (.inr ⟨hv, h, rfl⟩)
end Shf
end Go.Proofs.YtbpnhaeladcbnaaDoor
