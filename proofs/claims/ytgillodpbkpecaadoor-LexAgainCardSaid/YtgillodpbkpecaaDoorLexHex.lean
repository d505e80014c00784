/- strconv.ParseUint at sixteen small hexadecimal digits, base 16, 64 bits. -/
import Derived.Test.YtgillodpbkpecaaDoorShelf0
import Derived.Lib.ConvBytes
import Derived.Below
import Derived.Deep.LoopGhost
import Derived.Lib.Hide
import Derived.Laws.BitsLemmas
namespace Go.Proofs.YtgillodpbkpecaaDoor.Idx
open Go.RowKit Go.Lib

/-- a small hexadecimal digit's number; 16: it is none. -/
def hexDig (c : UInt8) : Nat := if 48 ≤ c.toNat ∧ c.toNat ≤ 57 then c.toNat - 48 else if 97 ≤ c.toNat ∧ c.toNat ≤ 102 then c.toNat - 87 else 16
def hexVal (acc : Nat) (l : List UInt8) : Nat := l.foldl (fun a c => 16 * a + hexDig c) acc
theorem hexDig_lt {c : UInt8} (h : hexDig c ≠ 16) : hexDig c < 16 := by
  unfold hexDig at h ⊢
  split
  · omega
  · split
    · omega
    · rename_i h1 h2; rw [if_neg h1, if_neg h2] at h; exact absurd rfl h

theorem or32 {c : Nat} (h0 : 97 ≤ c) (h1 : c ≤ 102) : Go.bits .or .u8 (c : Int) 32 = (c : Int) := by
  obtain h | h | h | h | h | h : c = 97 ∨ c = 98 ∨ c = 99 ∨ c = 100 ∨ c = 101 ∨ c = 102 := by omega
  all_goals subst h; decide

set_option maxHeartbeats 32000000 in
set_option maxRecDepth 100000 in
theorem parse16 (t : ByteArray) (h16 : t.size = 16) (hall : ∀ c ∈ t.data.toList, hexDig c ≠ 16) (w : World) :
    Calls Tryd.prog 37 #[.string t, .int .i64 16, .int .i64 64] w fun e w' => e = .returned (.tuple #[.int .u64 ((hexVal 0 t.data.toList : Nat) : Int), .nilIface]) ∧ w' = Lib.bytesWorld w 5 t := by
  have hemp : t.toList.isEmpty = false := by
    rw [← decide_eq_emptyBytes]
    exact decide_eq_false (fun h => by rw [h] at h16; exact absurd h16 (by decide))
  have hcv := Lib.run_convert_string_bytes (P := Tryd.prog) w 9 62 5 t Tryd.underlying9 Tryd.underlying62 Tryd.underlying5
  have hB : ∀ j, j < t.size → (Lib.bytesWorld w 5 t).cell? ⟨w.heap.size, j, none⟩ = some (.int .u8 (t.data.toList.getD j 0).toNat) := fun j hj => Lib.bytesWorld_cell w 5 t j hj
  obtain ⟨W1, hW1⟩ : ∃ W1, W1 = Lib.bytesWorld w 5 t := ⟨_, rfl⟩
  rw [← hW1] at hcv hB ⊢
  clear hW1
  obtain ⟨bs, hL⟩ : ∃ bs, bs = t.data.toList := ⟨_, rfl⟩
  have hLn : bs.length = t.size := by rw [hL, Lib.size_eq]
  rw [← hL] at hB hall ⊢
  clear hL
  have hs1 : 16 ≤ t.size := by omega
  have hs2 : t.size ≤ 16 := by omega
  clear h16
  have HA := Lib.hid hall
  clear hall
  have hmv : IntKind.u64.wrap (IntKind.u64.wrap 18446744073709551616 - 1) = 18446744073709551615 := by
    rw [IntKind.wrap_u64, IntKind.wrap_u64]
    decide
  go_enter Tryd.func37, Tryd.ntmps37
  go_wp2
  go_loop [12, 13, 101] (fun vu vn vi => ∃ (k acc : Nat) (a : Int), vu = .bool false ∧ vn = .int .u64 a ∧ vi = .int .i64 k ∧ k ≤ t.size ∧ Hid (a = (acc : Int) ∧ acc < 16 ^ k ∧ hexVal 0 bs = hexVal acc (bs.drop k)))
    (fun _ _ vi => t.size - (RowKit.intOf vi).toNat)
  case atStart => exact ⟨0, 0, 0, rfl, rfl, rfl, by omega, rfl, by decide, rfl⟩
  case round =>
    obtain ⟨k, acc, a, rfl, rfl, rfl, hk, hh⟩ := hrel
    obtain ⟨ha, hacc, hdec⟩ := hh.out
    clear hh
    by_cases hkn : k < t.size
    · have hc := hB k hkn
      have hdrop : bs.drop k = bs[k]'(by omega) :: bs.drop (k + 1) := List.drop_eq_getElem_cons (by omega)
      have hget : bs.getD k 0 = bs[k]'(by omega) := by simp [List.getD, List.getElem?_eq_getElem (show k < bs.length by omega)]
      rw [hdrop] at hdec
      rw [hget] at hc
      have hdg : hexDig (bs[k]'(by omega)) ≠ 16 := HA.out _ (List.getElem_mem _)
      generalize bs[k]'(by omega) = c at hc hdec hdg
      have hc256 : c.toNat < 256 := c.toNat_lt
      clear hB hdrop hget
      have h60 : acc < 1152921504606846976 := Nat.lt_of_lt_of_le hacc (by rw [show 1152921504606846976 = 16 ^ 15 from rfl]; exact Nat.pow_le_pow_right (by decide) (by omega))
      have a0 : 0 ≤ a := by omega
      have icut : a < 1152921504606846976 := by omega
      have hd16 := hexDig_lt hdg
      have HN : Hid ((a * 16 + (hexDig c : Int)) = ((16 * acc + hexDig c : Nat) : Int) ∧ 16 * acc + hexDig c < 16 ^ (k + 1) ∧ hexVal 0 bs = hexVal (16 * acc + hexDig c) (bs.drop (k + 1))) :=
        Lib.hid ⟨by omega, by rw [Nat.pow_succ]; omega, hdec⟩
      clear hacc hdec ha h60 hdg
      by_cases hdig : 48 ≤ c.toNat ∧ c.toNat ≤ 57
      · have hdv : hexDig c = c.toNat - 48 := by unfold hexDig; rw [if_pos hdig]
        rw [hdv] at HN hd16
        obtain ⟨hd0, hd1⟩ := hdig
        clear hdv
        go_wp2
        refine ⟨⟨k + 1, 16 * acc + (c.toNat - 48), a * 16 + ((c.toNat : Int) - 48), rfl, (by first | rfl | (congr 1; omega)), (by first | rfl | (congr 1; omega)), by omega, ?_⟩, by simp [RowKit.intOf]; omega⟩
        have hx := HN.out
        exact Lib.hid ⟨by have := hx.1; omega, hx.2.1, hx.2.2⟩
      · by_cases hlet : 97 ≤ c.toNat ∧ c.toNat ≤ 102
        · have hdv : hexDig c = c.toNat - 87 := by unfold hexDig; rw [if_neg hdig, if_pos hlet]
          rw [hdv] at HN hd16
          obtain ⟨hd0, hd1⟩ := hlet
          have hor := or32 hd0 hd1
          clear hdv hdig
          go_wp2_with (go_at_call 48; refine (Tryd.internal_strconv_lower _ _).mono ?_; rintro e w' ⟨rfl, hw⟩; rw [hw, hor])
          refine ⟨⟨k + 1, 16 * acc + (c.toNat - 87), a * 16 + ((c.toNat : Int) - 97 + 10), rfl, (by first | rfl | (congr 1; omega)), (by first | rfl | (congr 1; omega)), by omega, ?_⟩, by simp [RowKit.intOf]; omega⟩
          have hx := HN.out
          exact Lib.hid ⟨by have := hx.1; omega, hx.2.1, hx.2.2⟩
        · exfalso
          unfold hexDig at hd16
          rw [if_neg hdig, if_neg hlet] at hd16
          omega
    · have hkk : k = t.size := by omega
      subst hkk
      rw [List.drop_eq_nil_of_le (by omega)] at hdec
      have hfin : hexVal 0 bs = acc := hdec
      subst ha
      clear hacc hdec HA
      have HF := Lib.hid hfin
      clear hfin
      go_wp2
      go_ret2
      exact ⟨by rw [HF.out]; rfl, rfl⟩

theorem bytesWorld_below (w : World) (e : TypeId) (s : ByteArray) : Below w.heap.size w (Lib.bytesWorld w e s) := by
  refine ⟨?_, ?_, ?_, ?_, fun k hk => Lib.bytesWorld_at_old w e s k hk⟩
  · unfold Lib.bytesWorld World.freeze; split <;> rfl
  · unfold Lib.bytesWorld World.freeze; split <;> rfl
  · unfold Lib.bytesWorld World.freeze; split <;> rfl
  · rw [Lib.bytesWorld_size]; omega

theorem parse16_public (t : ByteArray) (h16 : t.size = 16) (hall : ∀ c ∈ t.data.toList, hexDig c ≠ 16) (w : World) :
    Calls Tryd.prog 22 #[.string t, .int .i64 16, .int .i64 64] w fun e w' => e = .returned (.tuple #[.int .u64 ((hexVal 0 t.data.toList : Nat) : Int), .nilIface]) ∧ Below w.heap.size w w' := by
  have H := Lib.hid h16
  clear h16
  have HA := Lib.hid hall
  clear hall
  go_enter Tryd.func22, Tryd.ntmps22
  go_wp2_with (go_at_call 37; refine (parse16 t H.out HA.out _).mono ?_; rintro e w' ⟨rfl, hw⟩)
  go_ret2
  exact ⟨rfl, bytesWorld_below w _ t⟩

end Go.Proofs.YtgillodpbkpecaaDoor.Idx
