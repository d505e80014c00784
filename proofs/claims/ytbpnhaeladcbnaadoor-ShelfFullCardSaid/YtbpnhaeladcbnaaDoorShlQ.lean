/- Sizes of texts of votes and snapshots. -/
import Derived.Test.YtbpnhaeladcbnaaDoorShlP
namespace Go.Proofs.YtbpnhaeladcbnaaDoor
open Go.RowKit
open Sp (fold intB textS bs)
theorem unf_i64 (n : Nat) (h : n < 18446744073709551616) : IsI64 (Tp.unf n) := by
  unfold Tp.unf IsI64
  split <;> omega
theorem read_i64 (t : ByteArray) : IsI64 (Vt.read t).1.to := by
  unfold Vt.read
  split
  · exact unf_i64 _ (Tp.num_lt _)
  · exact ⟨by decide, by decide⟩
theorem text_small (v : Vt) (hi : IsI64 v.to) (h : v.ok) : v.text.1.size ≤ 18 := by
  unfold Vt.text
  rw [if_pos h]
  have h1 := tnum_size' v.term (by have := h.2.1; omega)
  have h2 := tint_size v.to hi
  dsimp only
  rw [ByteArray.size_append]
  omega
theorem wrote_small (s : Sn) (h : s.ok) : s.wrote.1.size ≤ 262144 + 36 := by
  unfold Sn.wrote
  rw [if_pos h]
  have h1 := tnum_size' s.index (by have := h.2.1; omega)
  have h2 := tnum_size' s.term (by have := h.2.2.2.1; omega)
  have h3 := tnum_size' s.mask (by have := h.2.2.2.2.2.1; omega)
  have h4 := ttext_size s.text (by have := h.2.2.2.2.2.2; omega)
  have h5 := h.2.2.2.2.2.2
  dsimp only
  rw [ByteArray.size_append, ByteArray.size_append, ByteArray.size_append]
  omega
end Go.Proofs.YtbpnhaeladcbnaaDoor
