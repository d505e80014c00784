/- The document's tape: what stands ahead. -/
import Derived.Test.YthaehoefbejadaaDoorTap2
import Derived.Test.YthaehoefbejadaaDoorRBits
namespace Go.Proofs.YthaehoefbejadaaDoor
open Go.RowKit
set_option linter.unusedSimpArgs false
set_option linter.unusedVariables false
open Sp (fold intB textS bs)
attribute [local go_sem] Mem.After.cell
/-- The number was written so, or it was not. -/
theorem ahead_eq {s : ByteArray} {c r0 : UInt8} {r r' : List UInt8} {m V : Nat} (hl : s.data.toList = c :: r) (hr : r = r0 :: r') (hm : c.toNat = 247 + m) (h1 : 1 ≤ m) (hn : ¬ r.length < m) (hv : Sp.val (r.take m) = V) :
    (s.extract 0 (m + 1)).data.toList = c :: r.take m ∧ ((Sp.num V = c :: r.take m ∧ Sp.rdN s.data.toList = (V, m + 1, 0)) ∨ (Sp.num V ≠ c :: r.take m ∧ Sp.rdN s.data.toList = (0, 0, 3))) := by
  have hex : (s.extract 0 (m + 1)).data.toList = c :: r.take m := by
    have e : (s.extract 0 (m + 1)).data = s.data.extract 0 (m + 1) := by simp
    rw [e, Array.toList_extract, hl]
    simp
  refine ⟨hex, ?_⟩
  have hc : c.toNat < 256 := c.toNat_lt
  by_cases h : r.headD 0 = 0 ∨ Sp.val (r.take m) ≤ 247
  · have e : Sp.rdN s.data.toList = (0, 0, 3) := by rw [hl, Sp.rdN, if_neg (by omega), show c.toNat - 247 = m by omega, if_neg hn, if_pos h]
    refine .inr ⟨fun hh => ?_, e⟩
    have hlt : V < 18446744073709551616 := by
      rw [← hv]
      have h2 := Sp.val_lt (r.take m)
      have h8 : 256 ^ (r.take m).length ≤ 256 ^ 8 := Nat.pow_le_pow_right (by decide) (by rw [List.length_take]; omega)
      exact Nat.lt_of_lt_of_le h2 h8
    have h3 := Sp.rdN_num V hlt (r.drop m)
    rw [hh, List.cons_append, List.take_append_drop, ← hl, e] at h3
    have := congrArg (fun x => x.2.2) h3
    simp at this
  · have e : Sp.rdN s.data.toList = (V, m + 1, 0) := by rw [hl, Sp.rdN, if_neg (by omega), show c.toNat - 247 = m by omega, if_neg hn, if_neg h, hv]
    refine .inl ⟨?_, e⟩
    have h3 := Sp.rdN_back _ _ _ e
    rw [hl] at h3
    simpa using h3.2.2.2.symm
theorem mul_u64 (V b : Nat) (hV : V < 72057594037927936) (hb : b < 256) : IntKind.u64.wrap (IntKind.u64.wrap (256 * (V : Int)) + IntKind.u64.wrap (b : Int)) = ((V * 256 + b : Nat) : Int) := by
  show ((256 * (V : Int)) % 18446744073709551616 + (b : Int) % 18446744073709551616) % 18446744073709551616 = _
  omega
theorem rmeas {n k : Nat} (h : k < n) : n + 1 - (intOf (.int .i64 ((k : Int) + 1 + 1))).toNat < n + 1 - (intOf (.int .i64 ((k : Int) + 1))).toNat := by
  show n + 1 - ((k : Int) + 1 + 1).toNat < n + 1 - ((k : Int) + 1).toNat; omega
set_option maxRecDepth 100000 in
set_option maxHeartbeats 2000000 in
theorem rahead_any (s : ByteArray) (w : World) (hs : s.size ≤ 140737488351232) :
    Calls Tryd.prog 82 #[.string s] w fun r w' => r = .returned (.tuple #[.int .u64 ((Sp.rdN s.data.toList).1 : Nat), .int .i64 ((Sp.rdN s.data.toList).2.1 : Nat), .int .i64 (Sp.rdN s.data.toList).2.2]) ∧ Below w.heap.size w w' := by
  by_cases h0 : s.size = 0
  · have hl : s.data.toList = [] := by rw [← List.length_eq_zero_iff, Array.length_toList]; exact h0
    have HL := Lib.hid hl
    have hnil : s.toList = [] := by rw [ByteArray.toList_eq]; exact hl
    have hnil2 : s.toList.isEmpty = true := by rw [hnil]; rfl
    clear hl hnil
    go_enter Tryd.func82, Tryd.ntmps82
    go_wp2_with fail
    refine bodyPost_ret (v := .tuple #[.int .u64 0, .int .i64 0, .int .i64 5]) (by simp [results, Tryd.results82, go_sem, *]) rfl ⟨?_, Below.refl _ _⟩
    rw [HL.out]
    rfl
  · have hpos : 0 < s.size := by omega
    obtain ⟨c, r, hl⟩ : ∃ c r, s.data.toList = c :: r := by
      cases hh : s.data.toList with
      | nil => have := congrArg List.length hh; rw [Array.length_toList] at this; exact absurd this h0
      | cons c r => exact ⟨c, r, rfl⟩
    have hc0 : s[0] = c := by
      have h1 : s.data.toList[0]? = some s[0] := by rw [Array.getElem?_toList]; exact Array.getElem?_eq_getElem (xs := s.data) (i := 0) hpos
      rw [hl] at h1
      simpa using h1.symm
    have hsz : s.size = r.length + 1 := by have := congrArg List.length hl; rw [Array.length_toList] at this; exact this
    have hne : (!s.toList.isEmpty) = true := by rw [ByteArray.toList_eq, hl]; rfl
    have hne2 : s.toList.isEmpty = false := by rw [ByteArray.toList_eq, hl]; rfl
    have HL := Lib.hid hl
    clear hl
    by_cases h247 : c.toNat ≤ 247
    · have hi : (c.toNat : Int) ≤ 247 := by omega
      have hw0 : wrap64 (c.toNat : Int) = c.toNat := by unfold wrap64; omega
      have hw1 : wrap64 ((c.toNat : Int) - 247) = (c.toNat : Int) - 247 := by unfold wrap64; omega
      have hw2 : (c.toNat : Int) - 247 ≤ 0 := by omega
      have hw3 : IntKind.u64.wrap (c.toNat : Int) = c.toNat := by show (c.toNat : Int) % 18446744073709551616 = _; omega
      go_enter Tryd.func82, Tryd.ntmps82
      go_wp2_with fail
      refine bodyPost_ret (v := .tuple #[.int .u64 c.toNat, .int .i64 1, .int .i64 0]) (by simp [results, Tryd.results82, go_sem, *]; done) rfl ⟨?_, Below.refl _ _⟩
      rw [HL.out, Sp.rdN, if_pos h247]
      rfl
    · have hcl : c.toNat < 256 := c.toNat_lt
      obtain ⟨m, hm⟩ : ∃ m, c.toNat = 247 + m := ⟨c.toNat - 247, by omega⟩
      have hi : ¬ (m : Int) ≤ 0 := by omega
      have e1 : wrap64 (c.toNat : Int) = c.toNat := by unfold wrap64; omega
      have e2 : wrap64 ((c.toNat : Int) - 247) = (m : Int) := by unfold wrap64; omega
      have e3 : wrap64 ((m : Int) + 1) = (m : Int) + 1 := by unfold wrap64; omega
      by_cases hr : r.length < m
      · have hr1 : (r.length : Int) < (m : Int) := by omega
        have hr9 : wrap64 ((r.length : Int) + 1 - 1) = (r.length : Int) := by unfold wrap64; omega
        go_enter Tryd.func82, Tryd.ntmps82
        go_wp2_with fail
        refine bodyPost_ret (v := .tuple #[.int .u64 0, .int .i64 0, .int .i64 5]) (by simp [results, Tryd.results82, go_sem, *]) rfl ⟨?_, Below.refl _ _⟩
        rw [HL.out, Sp.rdN, if_neg h247, if_pos (by omega)]
        rfl
      · have hr1 : ¬ (r.length : Int) < (m : Int) := by omega
        have hr9 : wrap64 ((r.length : Int) + 1 - 1) = (r.length : Int) := by unfold wrap64; omega
        have hr2 : (m : Int) + 1 ≤ (r.length : Int) + 1 := by omega
        have hr3 : (1 : Int) ≤ (m : Int) + 1 := by omega
        have hm1 : 1 ≤ m := by omega
        have hm8 : m ≤ 8 := by omega
        obtain ⟨r0, r', hr0⟩ : ∃ r0 r', r = r0 :: r' := by
          cases r with
          | nil => simp at hr; omega
          | cons x y => exact ⟨x, y, rfl⟩
        have hidx : ∀ j, j < m → ∃ hh : j + 1 < s.size, s[j + 1] = (r.take m).getD j 0 := by
          intro j hj
          have hh : j + 1 < s.size := by omega
          refine ⟨hh, ?_⟩
          have h1 : s.data.toList[j + 1]? = some s[j + 1] := by rw [Array.getElem?_toList]; exact Array.getElem?_eq_getElem (xs := s.data) (i := j + 1) hh
          rw [HL.out, List.getElem?_cons_succ] at h1
          simp [List.getD, List.getElem?_take, hj, h1]
        have HM := Lib.hid (And.intro hm (And.intro hcl (And.intro hidx (And.intro hr0 (And.intro h247 hr)))))
        have HQ := Lib.hid (And.intro hm1 (And.intro hm8 (show m ≤ r.length by omega)))
        clear hm hcl hidx hr0 h247 hm1 hm8 hr
        go_enter Tryd.func82, Tryd.ntmps82
        go_wp2_with fail
        go_loopw [6, 7] (fun n i wr => ∃ j : Nat, j ≤ m ∧ n = .int .u64 (Sp.val (r.take j) : Nat) ∧ i = .int .i64 ((j : Int) + 1) ∧ wr = w) (fun _ i _ => m + 1 - (intOf i).toNat)
        case atStart => exact ⟨0, Nat.zero_le _, rfl, rfl, rfl⟩
        case round =>
          obtain ⟨j, hj, rfl, rfl, rfl⟩ := hrel
          by_cases hlt : j < m
          · have hlt' : (j : Int) + 1 ≤ (m : Int) := by omega
            obtain ⟨hj1, hjx⟩ := HM.out.2.2.1 j hlt
            have hj2 : (j : Int) + 1 < (s.size : Int) := by omega
            have hvl := Sp.val_lt (r.take j)
            have hbl : ((r.take m).getD j 0).toNat < 256 := UInt8.toNat_lt _
            generalize hv : Sp.val (r.take j) = V at hvl ⊢
            have hvv : V < 72057594037927936 := by
              have h1 : (r.take j).length ≤ 7 := by rw [List.length_take]; have := HQ.out.2.1; omega
              have h2 : 256 ^ (r.take j).length ≤ 256 ^ 7 := Nat.pow_le_pow_right (by decide) h1
              exact Nat.lt_of_lt_of_le hvl h2
            generalize hbb : (r.take m).getD j 0 = bb at hjx hbl
            have HV := Lib.hid hv
            have HBB := Lib.hid hbb
            have HL2 := Lib.hid (And.intro hvv hbl)
            clear hv hbb hvv hbl hvl
            go_wp2_with fail
            go_roundw
            case rel => exact ⟨j + 1, hlt, by rw [mul_u64 V bb.toNat HL2.out.1 HL2.out.2, val_next hlt (HQ.out.2.2) HV.out (congrArg UInt8.toNat HBB.out)], by go_num, trivial⟩
            case measure => exact rmeas hlt
          · have hjm : (m : Int) < (j : Int) + 1 := by omega
            have hjeq : j = m := by omega
            subst hjeq
            generalize hv : Sp.val (r.take j) = V
            have hvl : V < 18446744073709551616 := by
              rw [← hv]
              have h2 := Sp.val_lt (r.take j)
              have h8 : 256 ^ (r.take j).length ≤ 256 ^ 8 := Nat.pow_le_pow_right (by decide) (by rw [List.length_take]; have := HQ.out.2.1; omega)
              exact Nat.lt_of_lt_of_le h2 h8
            have HU := Lib.hid (show IsU64 (V : Int) from ⟨by omega, by omega⟩)
            obtain ⟨hex, hcase⟩ := ahead_eq HL.out HM.out.2.2.2.1 HM.out.1 HQ.out.1 HM.out.2.2.2.2.2 hv
            clear hjm hj hlt hv hvl
            have hjj : ¬ (j : Int) + 1 ≤ (j : Int) := by omega
            have hVn : (V : Int).toNat = V := Int.toNat_natCast V
            rcases hcase with ⟨hq, hrd⟩ | ⟨hq, hrd⟩
            · have hE : s.extract 0 (j + 1) = bs (Sp.num V) := by rw [hq, ← hex]; rfl
              have HR := Lib.hid hrd
              clear hq hex hrd
              go_wp2_with fail
              refine Mem.wp_region_after (by kernel_rfl) (by kernel_rfl) ?_
              repeat (go_big_quiet_step ((go_at_call 67; exact Mem.After.call _ (rNum_any _ _ HU.out))))
              refine wpQuiet_nil ?_
              intro w3 hb3
              go_wp2_with fail
              refine bodyPost_ret (v := .tuple #[.int .u64 V, .int .i64 ((j : Int) + 1), .int .i64 0]) (by simp [results, Tryd.results82, go_sem, *]) rfl ⟨?_, hb3⟩
              rw [HR.out]
              rfl
            · have hE : ¬ bs (Sp.num V) = s.extract 0 (j + 1) := fun h => hq (by rw [← hex, ← h]; simp [bs])
              have hE1 : ¬ (bs (Sp.num V)).toList = (s.extract 0 (j + 1)).toList := fun h => hE (by rw [ByteArray.toList_eq, ByteArray.toList_eq] at h; exact ByteArray.ext (Array.toList_inj.1 h))
              have hE2 : ((bs (Sp.num V)).toList == (s.extract 0 (j + 1)).toList) = false := by simpa using hE1
              have HR := Lib.hid hrd
              clear hq hex hrd
              go_wp2_with fail
              refine Mem.wp_region_after (by kernel_rfl) (by kernel_rfl) ?_
              repeat (go_big_quiet_step ((go_at_call 67; exact Mem.After.call _ (rNum_any _ _ HU.out))))
              refine wpQuiet_nil ?_
              intro w3 hb3
              go_wp2_with fail
              refine bodyPost_ret (v := .tuple #[.int .u64 0, .int .i64 0, .int .i64 3]) (by simp [results, Tryd.results82, go_sem, *]) rfl ⟨?_, hb3⟩
              rw [HR.out]
              rfl
end Go.Proofs.YthaehoefbejadaaDoor
