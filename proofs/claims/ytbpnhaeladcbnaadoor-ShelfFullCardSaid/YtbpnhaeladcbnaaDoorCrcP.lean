/- A pack is found: plain. -/
import Derived.Test.YtbpnhaeladcbnaaDoorCrcU
namespace Go.Proofs.YtbpnhaeladcbnaaDoor
open Sp (bs)
namespace Crc
theorem ext_list {a b : ByteArray} (h : a.data.toList = b.data.toList) : a = b := ByteArray.ext (Array.toList_inj.1 h)
theorem packB_list (s : ByteArray) : (packB s).data.toList = head3 s.size ++ (s.data.toList ++ tail4 (sumN (body s).data.toList)) := by
  unfold packB body
  simp [bs]
theorem body_list (s : ByteArray) : (body s).data.toList = head3 s.size ++ s.data.toList := by
  unfold body
  simp [bs]
theorem ext_get (a : ByteArray) (i j : Nat) : (a.extract i j).data.toList = (a.data.toList.drop i).take (j - i) := by
  rw [ByteArray.data_extract, Array.toList_extract, List.extract_eq_take_drop]
theorem len3_pack (s : ByteArray) (h : s.size ≤ 1048576) : len3 (packB s) = s.size := by
  unfold len3
  rw [packB_list]
  show 65536 * (UInt8.ofNat (s.size / 65536)).toNat + 256 * (UInt8.ofNat (s.size / 256)).toNat + (UInt8.ofNat s.size).toNat = s.size
  rw [UInt8.toNat_ofNat', UInt8.toNat_ofNat', UInt8.toNat_ofNat']
  omega
theorem unpack_pack (s : ByteArray) (h : s.size ≤ 1048576) : unpackP (packB s) = (s, ⟨#[]⟩, 0) := by
  have hl : s.data.toList.length = s.size := Array.length_toList
  unfold unpackP
  rw [len3_pack s h, packB_size, if_neg (by omega), if_neg (by omega), if_neg (by omega)]
  have e1 : (packB s).extract 0 (s.size + 3) = body s := by
    apply ext_list
    rw [ext_get, packB_list, body_list, ← List.append_assoc, List.drop_zero]
    exact List.take_left' (by rw [List.length_append, hl]; show 3 + s.size = s.size + 3 - 0; omega)
  have e2 : ((packB s).data.toList.drop (s.size + 3)).take 4 = tail4 (sumN (body s).data.toList) := by
    rw [packB_list, ← List.append_assoc, List.drop_left' (by rw [List.length_append, hl]; show 3 + s.size = s.size + 3; omega)]
    rfl
  have e3 : (packB s).extract 3 (s.size + 3) = s := by
    apply ext_list
    rw [ext_get, packB_list]
    show List.take (s.size + 3 - 3) (s.data.toList ++ tail4 (sumN (body s).data.toList)) = _
    exact List.take_left' (by rw [hl]; omega)
  have e4 : (packB s).extract (s.size + 7) (s.size + 7) = ⟨#[]⟩ := by
    apply ext_list
    rw [ext_get, Nat.sub_self, List.take_zero]
  rw [e1, if_pos e2, e3, e4]
end Crc
end Go.Proofs.YtbpnhaeladcbnaaDoor
