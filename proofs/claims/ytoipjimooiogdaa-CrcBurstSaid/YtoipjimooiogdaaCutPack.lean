/- What a pack is, and what is found at the front of bytes: the program's and the document's are one function. -/
import Derived.Test.YtoipjimooiogdaaCutMath
namespace Go.Proofs.Ytoipjimooiogdaa.Crc
open Go.RowKit Go.Proofs.YtoipjimooiogdaaW.PrintWords Go.Proofs.YtoipjimooiogdaaW.PrintLast Go.Proofs.YtoipjimooiogdaaW.PrintMore

def head3 (n : Nat) : List UInt8 := [UInt8.ofNat (n / 65536), UInt8.ofNat (n / 256), UInt8.ofNat n]
def tail4 (c : Nat) : List UInt8 := [UInt8.ofNat c, UInt8.ofNat (c / 256), UInt8.ofNat (c / 65536), UInt8.ofNat (c / 16777216)]
def headed (l : List UInt8) : List UInt8 := head3 l.length ++ l
def packL (l : List UInt8) : List UInt8 := headed l ++ tail4 (sumL (headed l))
def ofL (l : List UInt8) : ByteArray := ⟨l.toArray⟩
def packB (s : ByteArray) : ByteArray := ofL (packL s.data.toList)

theorem ext_list {a b : ByteArray} (h : a.data.toList = b.data.toList) : a = b := ByteArray.ext (Array.ext' h)
theorem ofL_list (s : ByteArray) : ofL s.data.toList = s := ext_list (by simp [ofL])
theorem ofL_data (l : List UInt8) : (ofL l).data.toList = l := by simp [ofL]
theorem ofL_size (l : List UInt8) : (ofL l).size = l.length := by simp [ofL, ByteArray.size]
theorem app_list (a b : ByteArray) : (a ++ b).data.toList = a.data.toList ++ b.data.toList := by simp
theorem size_list (a : ByteArray) : a.size = a.data.toList.length := rfl
theorem ext_data (a : ByteArray) (i j : Nat) : (a.extract i j).data.toList = (a.data.toList.take j).drop i := by
  rw [ByteArray.data_extract, Array.toList_extract, List.extract_eq_take_drop, List.drop_take]
theorem app_size (a b : ByteArray) : (a ++ b).size = a.size + b.size := by simp

theorem u8_mod (n : Nat) : UInt8.ofNat (n % 256) = UInt8.ofNat n := by
  apply UInt8.toNat.inj; simp

theorem pack_parts (a : ByteArray) (h t : List Int) (hh : h.map (fun n => UInt8.ofNat n.toNat) = head3 a.size) (ht : t.map (fun n => UInt8.ofNat n.toNat) = tail4 (sumL (headed a.data.toList))) :
    strOfNums h ++ a ++ strOfNums t = packB a := by
  apply ext_list
  rw [app_list, app_list]
  unfold packB
  rw [ofL_data]
  unfold packL headed
  simp only [strOfNums, hh, ht, headed, size_list]

theorem head_app (a : ByteArray) (h : List Int) (hh : h.map (fun n => UInt8.ofNat n.toNat) = head3 a.size) : (strOfNums h ++ a).data.toList = headed a.data.toList := by
  rw [app_list]; simp only [strOfNums, hh, headed, size_list]

theorem toNat_quot (n d : Nat) : (((n : Int) / (d : Int)) % 256).toNat = n / d % 256 := by
  rw [← Int.natCast_ediv]; omega

theorem head_one (n : Nat) : ([((n : Int) / 65536) % 256, ((n : Int) / 256) % 256, ((n : Int)) % 256] : List Int).map (fun n => UInt8.ofNat n.toNat) = head3 n := by
  have h1 : (((n : Int) / 65536) % 256).toNat = n / 65536 % 256 := by omega
  have h2 : (((n : Int) / 256) % 256).toNat = n / 256 % 256 := by omega
  have h3 : (((n : Int)) % 256).toNat = n % 256 := by omega
  simp only [List.map_cons, List.map_nil, h1, h2, h3, u8_mod, head3]

theorem tail_one (n : Nat) : ([((n : Int)) % 256, ((n : Int) / 256) % 256, ((n : Int) / 65536) % 256, ((n : Int) / 16777216) % 256] : List Int).map (fun n => UInt8.ofNat n.toNat) = tail4 n := by
  have h0 : (((n : Int)) % 256).toNat = n % 256 := by omega
  have h1 : (((n : Int) / 65536) % 256).toNat = n / 65536 % 256 := by omega
  have h2 : (((n : Int) / 256) % 256).toNat = n / 256 % 256 := by omega
  have h3 : (((n : Int) / 16777216) % 256).toNat = n / 16777216 % 256 := by omega
  simp only [List.map_cons, List.map_nil, h0, h1, h2, h3, u8_mod, tail4]

theorem head_two (n : Nat) (hn : n < 2 ^ 62) : ([(wrap64 ((n : Int) / 65536)) % 256, (Int.tmod (wrap64 ((n : Int) / 256)) 256) % 256, (n : Int) % 256] : List Int) = [((n : Int) / 65536) % 256, ((n : Int) / 256) % 256, ((n : Int)) % 256] := by
  rw [w64 (by omega) (by omega), w64 (by omega) (by omega), Int.tmod_eq_emod_of_nonneg (by omega)]
  congr 2; omega

theorem tail_two (n : Nat) (hn : n < 2 ^ 32) : ([(Int.tmod (n : Int) 256) % 256, ((Int.tdiv (n : Int) 256) % 4294967296) % 256, ((Int.tdiv (n : Int) 65536) % 4294967296) % 256, ((Int.tdiv (n : Int) 16777216) % 4294967296) % 256] : List Int) = [((n : Int)) % 256, ((n : Int) / 256) % 256, ((n : Int) / 65536) % 256, ((n : Int) / 16777216) % 256] := by
  rw [Int.tmod_eq_emod_of_nonneg (by omega), Int.tdiv_eq_ediv_of_nonneg (by omega), Int.tdiv_eq_ediv_of_nonneg (by omega), Int.tdiv_eq_ediv_of_nonneg (by omega)]
  congr 1
  · omega
  congr 1
  · omega
  congr 1
  · omega
  congr 1
  omega

theorem nums_size (l : List Int) : (strOfNums l).size = l.length := by simp [strOfNums, ByteArray.size]

theorem pack_small (s : ByteArray) (k : Nat) (hs : s.size ≤ 1048576) (hk : s.size + 12 < k) : PAll.crc_Pack.f k s = some (packB s, 0) := by
  unfold PAll.crc_Pack.f
  rw [if_neg (by omega)]
  have hh := head_one s.size
  generalize hy : ([((s.size : Int) / 65536) % 256, ((s.size : Int) / 256) % 256, ((s.size : Int)) % 256] : List Int) = y at hh
  have hl : y.length = 3 := by rw [← hy]; rfl
  simp only [Option.bind_some]
  have h3 : (strOfNums y ++ s).size = s.size + 3 := by rw [app_size, nums_size, hl]; omega
  rw [if_pos (by rw [nums_size, hl]; omega), sum_f _ k (by omega) (by omega), head_app s y hh]
  simp only [Option.bind_some]
  have ht := tail_one (sumL (headed s.data.toList))
  generalize hz : ([((sumL (headed s.data.toList) : Nat) : Int) % 256, ((sumL (headed s.data.toList) : Nat) : Int) / 256 % 256, ((sumL (headed s.data.toList) : Nat) : Int) / 65536 % 256, ((sumL (headed s.data.toList) : Nat) : Int) / 16777216 % 256] : List Int) = z at ht
  have hl4 : z.length = 4 := by rw [← hz]; rfl
  rw [if_pos (by rw [h3, nums_size, hl4]; omega), pack_parts s y z hh ht]

theorem pack_big (s : ByteArray) (k : Nat) (hs : 1048576 < s.size) : PAll.crc_Pack.f k s = some (⟨#[]⟩, 2) := by
  unfold PAll.crc_Pack.f
  rw [if_pos (by omega)]

theorem refpack_small (s : ByteArray) (k : Nat) (hs : s.size ≤ 1048576) (hk : 10 * s.size + 30 < k) : PAll.auspiceref02_Pack.f k s = some (packB s, 0) := by
  unfold PAll.auspiceref02_Pack.f
  rw [if_neg (by omega)]
  have hh := head_one s.size
  rw [head_two s.size (by omega)]
  generalize hy : ([((s.size : Int) / 65536) % 256, ((s.size : Int) / 256) % 256, ((s.size : Int)) % 256] : List Int) = y at hh
  have hl : y.length = 3 := by rw [← hy]; rfl
  simp only [Option.bind_some]
  have h3 : (strOfNums y ++ s).size = s.size + 3 := by rw [app_size, nums_size, hl]; omega
  rw [if_pos (by rw [nums_size, hl]; omega), refsum_f _ k (by omega) (by omega), head_app s y hh]
  simp only [Option.bind_some]
  rw [tail_two _ (sumL_lt _)]
  have ht := tail_one (sumL (headed s.data.toList))
  generalize hz : ([((sumL (headed s.data.toList) : Nat) : Int) % 256, ((sumL (headed s.data.toList) : Nat) : Int) / 256 % 256, ((sumL (headed s.data.toList) : Nat) : Int) / 65536 % 256, ((sumL (headed s.data.toList) : Nat) : Int) / 16777216 % 256] : List Int) = z at ht
  have hl4 : z.length = 4 := by rw [← hz]; rfl
  rw [if_pos (by rw [h3, nums_size, hl4]; omega), pack_parts s y z hh ht]

theorem refpack_big (s : ByteArray) (k : Nat) (hs : 1048576 < s.size) : PAll.auspiceref02_Pack.f k s = some (⟨#[]⟩, 2) := by
  unfold PAll.auspiceref02_Pack.f
  rw [if_pos (by omega)]

set_option maxRecDepth 100000 in
theorem awake_yes : PAll.auspicelaw02_awake.f 60 = some true := by decide +kernel

end Go.Proofs.Ytoipjimooiogdaa.Crc
