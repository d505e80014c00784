/- The document's own bytes of numbers: the same bytes. · The document's tape: what stands ahead. · The document's tape: its methods. -/
import Derived.Test.YtpdceondgbgpkaaGreatDoorG3
import Derived.Test.YtpdceondgbgpkaaGreatDoorG12
import Derived.Test.YtpdceondgbgpkaaGreatDoorG6
namespace Go.Proofs.YtpdceondgbgpkaaGreatDoor
open Go.RowKit
open Sp (fold intB textS bs)
theorem shr8 (n k : Nat) : (n : Int) / 2 ^ (8 * k) = ((n / 256 ^ k : Nat) : Int) := by
  rw [Int.pow_mul, Int.natCast_ediv, Int.natCast_pow]
  rfl
/-- The bytes that are there when j of them are left. -/
def head (n j : Nat) : List Value := ((Sp.num n).take (1 + Sp.wd n - j)).map fun b => Value.int .u8 (b.toNat : Int)
theorem head_first (n : Nat) (h0 : 248 ≤ n) (h1 : Sp.wd n ≤ 8) : head n (Sp.wd n) = [.int .u8 (247 + (Sp.wd n : Int))] := by
  unfold head Sp.num
  rw [if_neg (by omega), show 1 + Sp.wd n - Sp.wd n = 1 by omega]
  simp [UInt8.toNat_ofNat']
  omega
theorem head_next (n j : Nat) (h0 : 248 ≤ n) (h1 : Sp.wd n ≤ 8) (hj : j < Sp.wd n) : head n j = head n (j + 1) ++ [.int .u8 ((n : Int) / 2 ^ (8 * j) % 256)] := by
  have e : 1 + Sp.wd n - j = (1 + Sp.wd n - (j + 1)) + 1 := by omega
  have e2 : 1 + Sp.wd n - (j + 1) = (Sp.wd n - 1 - j) + 1 := by omega
  unfold head
  rw [e, List.take_add_one, List.map_append]
  congr 1
  unfold Sp.num
  rw [if_neg (by omega), e2, List.getElem?_cons_succ, be_get _ n _ (by omega), show Sp.wd n - 1 - (Sp.wd n - 1 - j) = j by omega, shr8]
  simp [UInt8.toNat_ofNat']
theorem head_length (n j : Nat) (h0 : 248 ≤ n) (hj : j ≤ Sp.wd n) : (head n j).length = 1 + Sp.wd n - j := by
  unfold head Sp.num
  rw [if_neg (by omega), List.length_map, List.length_take, List.length_cons, Sp.be_length]
  omega
theorem info_u8 : (Tryz.prog.info? 5).map (fun i => (i.zero, i.size, i.bytes)) = some (some (.int .u8 0), 1, 1) := by kernel_rfl
set_option maxRecDepth 100000 in
set_option maxHeartbeats 400000 in
theorem rNum_small (n : Int) (w : World) (h0 : 0 ≤ n) (h1 : n ≤ 247) :
    Calls Tryz.prog 92 #[.int .u64 n] w fun e w' => e = .returned (.string (Sp.bs (Sp.num n.toNat))) ∧ Below w.heap.size w w' := by
  have hf : Hid (Sp.num n.toNat = [UInt8.ofNat n.toNat]) := Lib.hid (by unfold Sp.num; rw [if_pos (by omega)])
  have hcv := fun W A cap => conv_one (P := Tryz.prog) 150 9 5 Tryz.underlying150 Tryz.underlying5 Tryz.underlying9 n h0 (by omega) W A cap
  go_enter Tryz.func92, Tryz.ntmps92
  go_wp2_with fail
  go_ret
  exact ⟨by rw [hf.out]; rfl, (Below.refl _ _).alloc (Nat.le_refl _) _⟩
set_option maxRecDepth 100000 in
set_option maxHeartbeats 400000 in
theorem rNum_great (n : Nat) (w : World) (h0 : 248 ≤ n) (h1 : Sp.wd n ≤ 8) :
    Calls Tryz.prog 92 #[.int .u64 n] w fun e w' => e = .returned (.string (Sp.bs (Sp.num n))) ∧ Below w.heap.size w w' := by
  have hd : decide ((n : Int) ≤ 247) = false := by simp; omega
  have hk1 := Sp.wd_pos n
  go_enter Tryz.func92, Tryz.ntmps92
  go_wp2_with fail
  go_loopw [3] (fun i wr => ∃ k : Nat, 1 ≤ k ∧ k ≤ Sp.wd n ∧ i = .int .i64 k ∧ wr = w) (fun i _ => 9 - (intOf i).toNat)
  case atStart => exact ⟨1, by omega, by omega, rfl, rfl⟩
  case round =>
    obtain ⟨k, hk0, hk, rfl, rfl⟩ := hrel
    by_cases hlt : k < Sp.wd n
    · have hp : (0 : Int) < (n : Int) / 2 ^ (8 * k) := by rw [shr8]; have := (wd_step n k (by omega) h0).2 hlt; omega
      go_wp2_with fail
      go_roundw
      case rel => exact ⟨k + 1, by omega, by omega, by go_num, trivial⟩
      case measure => simp [intOf]; omega
    · have hk' : k = Sp.wd n := by omega
      have hp : k < 8 → (n : Int) / 2 ^ (8 * k) ≤ 0 := by intro h8; rw [shr8]; have := mt (wd_step n k (by omega) h0).1 hlt; omega
      have HK := Lib.hid hk'
      have H1 := Lib.hid (head_first n h0 h1)
      clear hk'
      by_cases h8 : k < 8
      all_goals
        first | (have hp' := hp h8; clear hp) | clear hp
        go_wp2_with fail
        go_loopw [4, 5] (fun v i w1 => ∃ j : Nat, j ≤ Sp.wd n ∧ i = .int .i64 ((j : Int) - 1) ∧ w1.ownsRow wr.heap.size 5 1 v (1 + Sp.wd n - j) (head n j) ∧ Below wr.heap.size wr w1)
          (fun _ i _ => (intOf i + 1).toNat)
        case atStart =>
          refine ⟨Sp.wd n, Nat.le_refl _, by rw [HK.out], ?_, (Below.refl _ _).alloc (Nat.le_refl _) _⟩
          rw [H1.out, HK.out, show 1 + Sp.wd n - Sp.wd n = 1 by omega]
          exact Mem.own_new _ _ _ [_] rfl
        case round =>
          obtain ⟨j, hj, rfl, hown, hbel⟩ := hrel
          obtain ⟨i0, hi, hz0, hz1, hz2⟩ := info_parts info_u8
          have hsz := hbel.size
          by_cases hj0 : j = 0
          · subst hj0
            have hcv := conv_own (P := Tryz.prog) 150 9 5 Tryz.underlying150 Tryz.underlying5 Tryz.underlying9 (Sp.num n) _ _ _ _ _ (by
              have := hown; unfold head at this; rw [List.take_of_length_le (by unfold Sp.num; rw [if_neg (by omega), List.length_cons, Sp.be_length]; omega)] at this; exact this)
            clear hown
            go_wp2_with fail
            go_ret
            exact ⟨rfl, hbel⟩
          · obtain ⟨m, rfl⟩ : ∃ m, j = m + 1 := ⟨j - 1, by omega⟩
            have H2 := Lib.hid (head_next n m h0 h1 (by omega))
            clear hj0
            go_wp2_with (at_builtin; refine Mem.append_one rfl (.tmp 34) (.tmp 41) 150 rfl _ 5 i0 (.int .u8 0) 1 1 Tryz.underlying150 hi hz0 hz1 hz2 rfl (by decide) _ _ _ _ rfl hown [.int .u8 ((n : Int) / 2 ^ (8 * m) % 256)] rfl (by intro u hu; simp at hu; subst hu; rfl) rfl (by unfold maxLen; omega) (by omega) (by omega) ?_; intro v' w2 hown2 hg2 _)
            go_roundw
            case rel =>
              refine ⟨m, by omega, by go_num, ?_, (hbel.alloc hsz _).grown hg2 (by simp; omega) (fun k hk => Mem.own_base hown k hk)⟩
              rw [H2.out, show 1 + Sp.wd n - m = (1 + Sp.wd n - (m + 1)) + 1 by omega]
              exact hown2
            case measure => simp [intOf]
theorem rNum_any (n : Int) (w : World) (h1 : IsU64 n) :
    Calls Tryz.prog 92 #[.int .u64 n] w fun e w' => e = .returned (.string (Sp.bs (Sp.num n.toNat))) ∧ Below w.heap.size w w' := by
  have h0 := h1.1
  by_cases h : n ≤ 247
  · exact rNum_small n w h0 h
  · obtain ⟨m, rfl⟩ := Int.eq_ofNat_of_zero_le h0
    exact rNum_great m w (by omega) (Sp.wd_le m (by have := h1.2; omega))
end Go.Proofs.YtpdceondgbgpkaaGreatDoor
namespace Go.Proofs.YtpdceondgbgpkaaGreatDoor
open Go.RowKit
set_option linter.unusedSimpArgs false
set_option linter.unusedVariables false
open Sp (fold intB textS bs)
attribute [local go_sem] Mem.After.cell
/-- The number was written so, or it was not. -/
theorem ahead_eq {s : ByteArray} {c r0 : UInt8} {r r' : List UInt8} {m V : Nat} (hl : s.data.toList = c :: r) (hr : r = r0 :: r') (hm : c.toNat = 247 + m) (h1 : 1 ≤ m) (hn : ¬ r.length < m) (hv : Sp.val (r.take m) = V) :
    (s.extract 0 (m + 1)).data.toList = c :: r.take m ∧ ((Sp.num V = c :: r.take m ∧ Sp.rdN s.data.toList = (V, m + 1, 0)) ∨ (Sp.num V ≠ c :: r.take m ∧ Sp.rdN s.data.toList = (0, 0, 3))) := by
  have hex : (s.extract 0 (m + 1)).data.toList = c :: r.take m := by
    have e : (s.extract 0 (m + 1)).data = s.data.extract 0 (m + 1) := by simp
    rw [e, Array.toList_extract, hl]
    simp
  refine ⟨hex, ?_⟩
  have hc : c.toNat < 256 := c.toNat_lt
  by_cases h : r.headD 0 = 0 ∨ Sp.val (r.take m) ≤ 247
  · have e : Sp.rdN s.data.toList = (0, 0, 3) := by rw [hl, Sp.rdN, if_neg (by omega), show c.toNat - 247 = m by omega, if_neg hn, if_pos h]
    refine .inr ⟨fun hh => ?_, e⟩
    have hlt : V < 18446744073709551616 := by
      rw [← hv]
      have h2 := Sp.val_lt (r.take m)
      have h8 : 256 ^ (r.take m).length ≤ 256 ^ 8 := Nat.pow_le_pow_right (by decide) (by rw [List.length_take]; omega)
      exact Nat.lt_of_lt_of_le h2 h8
    have h3 := Sp.rdN_num V hlt (r.drop m)
    rw [hh, List.cons_append, List.take_append_drop, ← hl, e] at h3
    have := congrArg (fun x => x.2.2) h3
    simp at this
  · have e : Sp.rdN s.data.toList = (V, m + 1, 0) := by rw [hl, Sp.rdN, if_neg (by omega), show c.toNat - 247 = m by omega, if_neg hn, if_neg h, hv]
    refine .inl ⟨?_, e⟩
    have h3 := Sp.rdN_back _ _ _ e
    rw [hl] at h3
    simpa using h3.2.2.2.symm
theorem mul_u64 (V b : Nat) (hV : V < 72057594037927936) (hb : b < 256) : IntKind.u64.wrap (IntKind.u64.wrap (256 * (V : Int)) + IntKind.u64.wrap (b : Int)) = ((V * 256 + b : Nat) : Int) := by
  show ((256 * (V : Int)) % 18446744073709551616 + (b : Int) % 18446744073709551616) % 18446744073709551616 = _
  omega
theorem rmeas {n k : Nat} (h : k < n) : n + 1 - (intOf (.int .i64 ((k : Int) + 1 + 1))).toNat < n + 1 - (intOf (.int .i64 ((k : Int) + 1))).toNat := by
  show n + 1 - ((k : Int) + 1 + 1).toNat < n + 1 - ((k : Int) + 1).toNat; omega
set_option maxRecDepth 100000 in
set_option maxHeartbeats 2000000 in
theorem rahead_any (s : ByteArray) (w : World) (hs : s.size ≤ 140737488351232) :
    Calls Tryz.prog 73 #[.string s] w fun r w' => r = .returned (.tuple #[.int .u64 ((Sp.rdN s.data.toList).1 : Nat), .int .i64 ((Sp.rdN s.data.toList).2.1 : Nat), .int .i64 (Sp.rdN s.data.toList).2.2]) ∧ Below w.heap.size w w' := by
  by_cases h0 : s.size = 0
  · have hl : s.data.toList = [] := by rw [← List.length_eq_zero_iff, Array.length_toList]; exact h0
    have HL := Lib.hid hl
    have hnil : s.toList = [] := by rw [ByteArray.toList_eq]; exact hl
    have hnil2 : s.toList.isEmpty = true := by rw [hnil]; rfl
    clear hl hnil
    go_enter Tryz.func73, Tryz.ntmps73
    go_wp2_with fail
    refine bodyPost_ret (v := .tuple #[.int .u64 0, .int .i64 0, .int .i64 5]) (by simp [results, Tryz.results73, go_sem, *]) rfl ⟨?_, Below.refl _ _⟩
    rw [HL.out]
    rfl
  · have hpos : 0 < s.size := by omega
    obtain ⟨c, r, hl⟩ : ∃ c r, s.data.toList = c :: r := by
      cases hh : s.data.toList with
      | nil => have := congrArg List.length hh; rw [Array.length_toList] at this; exact absurd this h0
      | cons c r => exact ⟨c, r, rfl⟩
    have hc0 : s[0] = c := by
      have h1 : s.data.toList[0]? = some s[0] := by rw [Array.getElem?_toList]; exact Array.getElem?_eq_getElem (xs := s.data) (i := 0) hpos
      rw [hl] at h1
      simpa using h1.symm
    have hsz : s.size = r.length + 1 := by have := congrArg List.length hl; rw [Array.length_toList] at this; exact this
    have hne : (!s.toList.isEmpty) = true := by rw [ByteArray.toList_eq, hl]; rfl
    have hne2 : s.toList.isEmpty = false := by rw [ByteArray.toList_eq, hl]; rfl
    have HL := Lib.hid hl
    clear hl
    by_cases h247 : c.toNat ≤ 247
    · have hi : (c.toNat : Int) ≤ 247 := by omega
      have hw0 : wrap64 (c.toNat : Int) = c.toNat := by unfold wrap64; omega
      have hw1 : wrap64 ((c.toNat : Int) - 247) = (c.toNat : Int) - 247 := by unfold wrap64; omega
      have hw2 : (c.toNat : Int) - 247 ≤ 0 := by omega
      have hw3 : IntKind.u64.wrap (c.toNat : Int) = c.toNat := by show (c.toNat : Int) % 18446744073709551616 = _; omega
      go_enter Tryz.func73, Tryz.ntmps73
      go_wp2_with fail
      refine bodyPost_ret (v := .tuple #[.int .u64 c.toNat, .int .i64 1, .int .i64 0]) (by simp [results, Tryz.results73, go_sem, *]; done) rfl ⟨?_, Below.refl _ _⟩
      rw [HL.out, Sp.rdN, if_pos h247]
      rfl
    · have hcl : c.toNat < 256 := c.toNat_lt
      obtain ⟨m, hm⟩ : ∃ m, c.toNat = 247 + m := ⟨c.toNat - 247, by omega⟩
      have hi : ¬ (m : Int) ≤ 0 := by omega
      have e1 : wrap64 (c.toNat : Int) = c.toNat := by unfold wrap64; omega
      have e2 : wrap64 ((c.toNat : Int) - 247) = (m : Int) := by unfold wrap64; omega
      have e3 : wrap64 ((m : Int) + 1) = (m : Int) + 1 := by unfold wrap64; omega
      by_cases hr : r.length < m
      · have hr1 : (r.length : Int) < (m : Int) := by omega
        have hr9 : wrap64 ((r.length : Int) + 1 - 1) = (r.length : Int) := by unfold wrap64; omega
        go_enter Tryz.func73, Tryz.ntmps73
        go_wp2_with fail
        refine bodyPost_ret (v := .tuple #[.int .u64 0, .int .i64 0, .int .i64 5]) (by simp [results, Tryz.results73, go_sem, *]) rfl ⟨?_, Below.refl _ _⟩
        rw [HL.out, Sp.rdN, if_neg h247, if_pos (by omega)]
        rfl
      · have hr1 : ¬ (r.length : Int) < (m : Int) := by omega
        have hr9 : wrap64 ((r.length : Int) + 1 - 1) = (r.length : Int) := by unfold wrap64; omega
        have hr2 : (m : Int) + 1 ≤ (r.length : Int) + 1 := by omega
        have hr3 : (1 : Int) ≤ (m : Int) + 1 := by omega
        have hm1 : 1 ≤ m := by omega
        have hm8 : m ≤ 8 := by omega
        obtain ⟨r0, r', hr0⟩ : ∃ r0 r', r = r0 :: r' := by
          cases r with
          | nil => simp at hr; omega
          | cons x y => exact ⟨x, y, rfl⟩
        have hidx : ∀ j, j < m → ∃ hh : j + 1 < s.size, s[j + 1] = (r.take m).getD j 0 := by
          intro j hj
          have hh : j + 1 < s.size := by omega
          refine ⟨hh, ?_⟩
          have h1 : s.data.toList[j + 1]? = some s[j + 1] := by rw [Array.getElem?_toList]; exact Array.getElem?_eq_getElem (xs := s.data) (i := j + 1) hh
          rw [HL.out, List.getElem?_cons_succ] at h1
          simp [List.getD, List.getElem?_take, hj, h1]
        have HM := Lib.hid (And.intro hm (And.intro hcl (And.intro hidx (And.intro hr0 (And.intro h247 hr)))))
        have HQ := Lib.hid (And.intro hm1 (And.intro hm8 (show m ≤ r.length by omega)))
        clear hm hcl hidx hr0 h247 hm1 hm8 hr
        go_enter Tryz.func73, Tryz.ntmps73
        go_wp2_with fail
        go_loopw [6, 7] (fun n i wr => ∃ j : Nat, j ≤ m ∧ n = .int .u64 (Sp.val (r.take j) : Nat) ∧ i = .int .i64 ((j : Int) + 1) ∧ wr = w) (fun _ i _ => m + 1 - (intOf i).toNat)
        case atStart => exact ⟨0, Nat.zero_le _, rfl, rfl, rfl⟩
        case round =>
          obtain ⟨j, hj, rfl, rfl, rfl⟩ := hrel
          by_cases hlt : j < m
          · have hlt' : (j : Int) + 1 ≤ (m : Int) := by omega
            obtain ⟨hj1, hjx⟩ := HM.out.2.2.1 j hlt
            have hj2 : (j : Int) + 1 < (s.size : Int) := by omega
            have hvl := Sp.val_lt (r.take j)
            have hbl : ((r.take m).getD j 0).toNat < 256 := UInt8.toNat_lt _
            generalize hv : Sp.val (r.take j) = V at hvl ⊢
            have hvv : V < 72057594037927936 := by
              have h1 : (r.take j).length ≤ 7 := by rw [List.length_take]; have := HQ.out.2.1; omega
              have h2 : 256 ^ (r.take j).length ≤ 256 ^ 7 := Nat.pow_le_pow_right (by decide) h1
              exact Nat.lt_of_lt_of_le hvl h2
            generalize hbb : (r.take m).getD j 0 = bb at hjx hbl
            have HV := Lib.hid hv
            have HBB := Lib.hid hbb
            have HL2 := Lib.hid (And.intro hvv hbl)
            clear hv hbb hvv hbl hvl
            go_wp2_with fail
            go_roundw
            case rel => exact ⟨j + 1, hlt, by rw [mul_u64 V bb.toNat HL2.out.1 HL2.out.2, val_next hlt (HQ.out.2.2) HV.out (congrArg UInt8.toNat HBB.out)], by go_num, trivial⟩
            case measure => exact rmeas hlt
          · have hjm : (m : Int) < (j : Int) + 1 := by omega
            have hjeq : j = m := by omega
            subst hjeq
            generalize hv : Sp.val (r.take j) = V
            have hvl : V < 18446744073709551616 := by
              rw [← hv]
              have h2 := Sp.val_lt (r.take j)
              have h8 : 256 ^ (r.take j).length ≤ 256 ^ 8 := Nat.pow_le_pow_right (by decide) (by rw [List.length_take]; have := HQ.out.2.1; omega)
              exact Nat.lt_of_lt_of_le h2 h8
            have HU := Lib.hid (show IsU64 (V : Int) from ⟨by omega, by omega⟩)
            obtain ⟨hex, hcase⟩ := ahead_eq HL.out HM.out.2.2.2.1 HM.out.1 HQ.out.1 HM.out.2.2.2.2.2 hv
            clear hjm hj hlt hv hvl
            have hjj : ¬ (j : Int) + 1 ≤ (j : Int) := by omega
            have hVn : (V : Int).toNat = V := Int.toNat_natCast V
            rcases hcase with ⟨hq, hrd⟩ | ⟨hq, hrd⟩
            · have hE : s.extract 0 (j + 1) = bs (Sp.num V) := by rw [hq, ← hex]; rfl
              have HR := Lib.hid hrd
              clear hq hex hrd
              go_wp2_with fail
              refine Mem.wp_region_after (by kernel_rfl) (by kernel_rfl) ?_
              repeat (go_big_quiet_step ((go_at_call 92; exact Mem.After.call _ (rNum_any _ _ HU.out))))
              refine wpQuiet_nil ?_
              intro w3 hb3
              go_wp2_with fail
              refine bodyPost_ret (v := .tuple #[.int .u64 V, .int .i64 ((j : Int) + 1), .int .i64 0]) (by simp [results, Tryz.results73, go_sem, *]) rfl ⟨?_, hb3⟩
              rw [HR.out]
              rfl
            · have hE : ¬ bs (Sp.num V) = s.extract 0 (j + 1) := fun h => hq (by rw [← hex, ← h]; simp [bs])
              have hE1 : ¬ (bs (Sp.num V)).toList = (s.extract 0 (j + 1)).toList := fun h => hE (by rw [ByteArray.toList_eq, ByteArray.toList_eq] at h; exact ByteArray.ext (Array.toList_inj.1 h))
              have hE2 : ((bs (Sp.num V)).toList == (s.extract 0 (j + 1)).toList) = false := by simpa using hE1
              have HR := Lib.hid hrd
              clear hq hex hrd
              go_wp2_with fail
              refine Mem.wp_region_after (by kernel_rfl) (by kernel_rfl) ?_
              repeat (go_big_quiet_step ((go_at_call 92; exact Mem.After.call _ (rNum_any _ _ HU.out))))
              refine wpQuiet_nil ?_
              intro w3 hb3
              go_wp2_with fail
              refine bodyPost_ret (v := .tuple #[.int .u64 0, .int .i64 0, .int .i64 3]) (by simp [results, Tryz.results73, go_sem, *]) rfl ⟨?_, hb3⟩
              rw [HR.out]
              rfl
end Go.Proofs.YtpdceondgbgpkaaGreatDoor
namespace Go.Proofs.YtpdceondgbgpkaaGreatDoor
open Go.RowKit
set_option linter.unusedSimpArgs false
set_option linter.unusedVariables false
namespace Tp
def val (t : Tp) : Value := .agg #[.string t.s, .int .i64 t.e]
end Tp
theorem emp {s : ByteArray} (h : s.size = 0) : s.toList.isEmpty = true := by rw [ByteArray.toList_eq, show s.data.toList = [] by rw [← List.length_eq_zero_iff, Array.length_toList]; exact h]; rfl
theorem nemp {s : ByteArray} (h : s.size ≠ 0) : s.toList.isEmpty = false := by
  rw [ByteArray.toList_eq]
  cases hh : s.data.toList with
  | nil => exact absurd (by have := congrArg List.length hh; rw [Array.length_toList] at this; exact this) h
  | cons a b => rfl
section
variable (s : ByteArray) (e : Int) (w : World)
set_option maxRecDepth 100000 in
set_option maxHeartbeats 2000000 in
theorem rend_any : Calls Tryz.prog 47 #[(Tp.mk s e).val] w fun r w' => r = .returned (.int .i64 (Tp.ends ⟨s, e⟩)) ∧ Below w.heap.size w w' := by
  have hb : Below w.heap.size w (w.alloc (.cells #[.string s, .int .i64 e] 94)) := (Below.refl _ w).alloc (Nat.le_refl _) _
  unfold Tp.val
  dsimp only
  by_cases he : e = 0
  · subst he
    by_cases h0 : s.size = 0
    · have h1 := emp h0
      have hE : Tp.ends ⟨s, 0⟩ = 0 := by unfold Tp.ends; rw [if_neg (fun h => h.2 h0)]
      rw [hE]
      clear hE
      go_enter Tryz.func47, Tryz.ntmps47
      go_wp2_with fail
      go_ret
      exact ⟨rfl, hb⟩
    · have h1 := nemp h0
      have hE : Tp.ends ⟨s, 0⟩ = 3 := by unfold Tp.ends; rw [if_pos ⟨rfl, h0⟩]
      rw [hE]
      clear hE
      go_enter Tryz.func47, Tryz.ntmps47
      go_wp2_with fail
      go_ret
      exact ⟨rfl, hb⟩
  · have hE : Tp.ends ⟨s, e⟩ = e := by unfold Tp.ends; rw [if_neg (fun h => he h.1)]
    rw [hE]
    clear hE
    go_enter Tryz.func47, Tryz.ntmps47
    go_wp2_with fail
    go_ret
    exact ⟨rfl, hb⟩
set_option maxRecDepth 100000 in
set_option maxHeartbeats 4000000 in
theorem rtpnum_any (hs : s.size ≤ 140737488351232) : Calls Tryz.prog 44 #[(Tp.mk s e).val] w fun r w' => r = .returned (.tuple #[(Tp.num ⟨s, e⟩).1.val, .int .u64 ((Tp.num ⟨s, e⟩).2 : Nat)]) ∧ Below w.heap.size w w' := by
  have hb : Below w.heap.size w ((w.alloc (.cells #[.string s, .int .i64 e] 94)).alloc (.cells #[.string ⟨#[]⟩, .int .i64 0] 94)) := ((Below.refl _ w).alloc (Nat.le_refl _) _).alloc (by simp) _
  have hx := Mem.old (Mem.new w (.cells #[.string s, .int .i64 e] 94)) (.cells #[.string ⟨#[]⟩, .int .i64 0] 94)
  have hres := Mem.new (w.alloc (.cells #[.string s, .int .i64 e] 94)) (.cells #[.string ⟨#[]⟩, .int .i64 0] 94)
  rw [show (w.alloc (.cells #[.string s, .int .i64 e] 94)).heap.size = w.heap.size + 1 by simp] at hres
  unfold Tp.val
  by_cases he : e = 0
  · subst he
    have hn := fun W => rahead_any s W hs
    have hfit := rdN_fit s.data.toList
    rw [Array.length_toList] at hfit
    unfold Tp.num
    rw [if_neg (by simp)]
    dsimp only
    generalize Sp.rdN s.data.toList = x at hn hfit ⊢
    obtain ⟨n, k, f⟩ := x
    obtain ⟨h1, h2, h3, h4⟩ := hfit
    dsimp only at hn h1 h2 h3 h4 ⊢
    have hk1 : (k : Int) ≤ (s.size : Int) := by have : k ≤ s.size := h2; omega
    have hk0 : (0 : Int) ≤ (k : Int) := by omega
    clear h1 h2 h3 h4
    have HB := Lib.hid hb
    have HX := Lib.hid (And.intro hx hres)
    clear hb hx hres
    go_enter Tryz.func44, Tryz.ntmps44
    go_wp2_with (go_at_call 73; refine (hn _).mono ?_; rintro _ w2 ⟨rfl, hb2⟩; have hx2 := (hb2.block w.heap.size (by simp; omega)).trans HX.out.1; have hres2 := (hb2.block (w.heap.size + 1) (by simp)).trans HX.out.2; have x0 := Mem.cell (j := 0) (v := .string s) hx2 rfl; have f0 : w2.frozen? ⟨w.heap.size + 1, 0, none⟩ = false := Mem.free hres2; have f1 : w2.frozen? ⟨w.heap.size + 1, 1, none⟩ = false := Mem.free hres2; have r0 : w2.cell? ⟨w.heap.size + 1, 0, none⟩ = some (.string ⟨#[]⟩) := Mem.cell hres2 rfl; have r1 : w2.cell? ⟨w.heap.size + 1, 1, none⟩ = some (.int .i64 0) := Mem.cell hres2 rfl)
    have hq := Mem.set (j := 1) (u := .int .i64 f) (Mem.set (j := 0) (u := .string (s.extract k s.size)) hres2)
    have q0 := Mem.cell (j := 0) (v := .string (s.extract k s.size)) hq rfl
    have q1 := Mem.cell (j := 1) (v := .int .i64 f) hq rfl
    refine bodyPost_ret (v := .tuple #[.agg #[.string (s.extract k s.size), .int .i64 f], .int .u64 (n : Nat)]) (by simp [results, Tryz.results44, go_sem, *]) rfl ⟨rfl, ?_⟩
    exact Mem.Ch.below (B := w.heap.size) (S := fun k => w.heap.size ≤ k) ((((Mem.Ch.of_below HB.out).trans' (Mem.Ch.of_below' hb2)).set (.inl (Nat.le_succ _))).set (.inl (Nat.le_succ _))) (fun k hk hS => by have h : w.heap.size ≤ k := hS; omega) (Nat.le_refl _)
  · have e2 : Tp.num ⟨s, e⟩ = (⟨s, e⟩, 0) := by unfold Tp.num; rw [if_pos he]
    rw [e2]
    clear e2
    dsimp only
    have f0 : ((w.alloc (.cells #[.string s, .int .i64 e] 94)).alloc (.cells #[.string ⟨#[]⟩, .int .i64 0] 94)).frozen? ⟨w.heap.size + 1, 0, none⟩ = false := Mem.free hres
    have f1 : ((w.alloc (.cells #[.string s, .int .i64 e] 94)).alloc (.cells #[.string ⟨#[]⟩, .int .i64 0] 94)).frozen? ⟨w.heap.size + 1, 1, none⟩ = false := Mem.free hres
    have HB := Lib.hid hb
    have HX := Lib.hid (And.intro hx hres)
    clear hb hx hres
    go_enter Tryz.func44, Tryz.ntmps44
    go_wp2_with fail
    have hq := Mem.set (j := 1) (u := .int .i64 e) (Mem.set (j := 0) (u := .string s) HX.out.2)
    have q0 := Mem.cell (j := 0) (v := .string s) hq rfl
    have q1 := Mem.cell (j := 1) (v := .int .i64 e) hq rfl
    refine bodyPost_ret (v := .tuple #[.agg #[.string s, .int .i64 e], .int .u64 0]) (by simp [results, Tryz.results44, go_sem, *]) rfl ⟨rfl, ?_⟩
    exact ((Below.refl _ w).alloc (Nat.le_refl _) _).alloc (by simp) _
theorem wq (n : Nat) (h : n < 18446744073709551616) : IntKind.u64.wrap ((n : Int) / 2) = ((n / 2 : Nat) : Int) := by
  show ((n : Int) / 2) % 18446744073709551616 = _
  omega
theorem wneg (n : Nat) (h : n < 18446744073709551616) : wrap64 (wrap64 (-wrap64 (IntKind.u64.wrap ((n : Int) / 2))) - 1) = -((n / 2 : Nat) : Int) - 1 := by
  have e1 : wrap64 (IntKind.u64.wrap ((n : Int) / 2)) = ((n / 2 : Nat) : Int) := by rw [wq n h]; unfold wrap64; omega
  rw [e1]
  have e2 : wrap64 (-((n / 2 : Nat) : Int)) = -((n / 2 : Nat) : Int) := by unfold wrap64; omega
  rw [e2]
  unfold wrap64
  omega
theorem whalf (n : Nat) (h : n < 18446744073709551616) : wrap64 (wrap64 (-((n : Int) / 2)) - 1) = -((n : Int) / 2) - 1 := by
  have e : wrap64 (-((n : Int) / 2)) = -((n : Int) / 2) := by unfold wrap64; omega
  rw [e]
  unfold wrap64
  omega
theorem wpos (n : Nat) (h : n < 18446744073709551616) : wrap64 (IntKind.u64.wrap ((n : Int) / 2)) = ((n / 2 : Nat) : Int) := by rw [wq n h]; unfold wrap64; omega
set_option maxRecDepth 100000 in
set_option maxHeartbeats 4000000 in
theorem rtpint_any (hs : s.size ≤ 140737488351232) : Calls Tryz.prog 45 #[(Tp.mk s e).val] w fun r w' => r = .returned (.tuple #[(Tp.num ⟨s, e⟩).1.val, .int .i64 (Tp.unf (Tp.num ⟨s, e⟩).2)]) ∧ Below w.heap.size w w' := by
  have hb : Below w.heap.size w ((w.alloc (.cells #[.string s, .int .i64 e] 94)).alloc (.cells #[.string ⟨#[]⟩, .int .i64 0] 94)) := ((Below.refl _ w).alloc (Nat.le_refl _) _).alloc (by simp) _
  have hres := Mem.new (w.alloc (.cells #[.string s, .int .i64 e] 94)) (.cells #[.string ⟨#[]⟩, .int .i64 0] 94)
  rw [show (w.alloc (.cells #[.string s, .int .i64 e] 94)).heap.size = w.heap.size + 1 by simp] at hres
  have hn := fun W => rtpnum_any s e W hs
  have hlt := Tp.num_lt ⟨s, e⟩
  generalize Tp.num ⟨s, e⟩ = x at hn hlt ⊢
  obtain ⟨⟨s', e'⟩, n⟩ := x
  unfold Tp.val at hn ⊢
  dsimp only at hn hlt ⊢
  have hw1 := wneg n hlt
  have hw2 := wpos n hlt
  have hw3 := whalf n hlt
  have HB := Lib.hid (And.intro hb hres)
  clear hb hres
  unfold Tp.unf
  by_cases ho : n % 2 = 0
  · rw [if_pos ho]
    have ho1 : (n : Int) % 2 = 0 := by omega
    clear hlt ho
    go_enter Tryz.func45, Tryz.ntmps45
    go_wp2_with (go_at_call 44; refine (hn _).mono ?_; rintro _ w2 ⟨rfl, hb2⟩; have hres2 := (hb2.block (w.heap.size + 1) (by simp)).trans HB.out.2; have hl2 := Mem.lt hres2; have f0 : w2.frozen? ⟨w.heap.size + 1, 0, none⟩ = false := Mem.free hres2; have f1 : w2.frozen? ⟨w.heap.size + 1, 1, none⟩ = false := Mem.free hres2; have r0 : w2.cell? ⟨w.heap.size + 1, 0, none⟩ = some (.string ⟨#[]⟩) := Mem.cell hres2 rfl; have r1 : w2.cell? ⟨w.heap.size + 1, 1, none⟩ = some (.int .i64 0) := Mem.cell hres2 rfl)
    have hq := Mem.old (Mem.set (j := 1) (u := .int .i64 e') (Mem.set (j := 0) (u := .string s') hres2)) (.cells #[.string s', .int .i64 e'] 94)
    have q0 := Mem.cell (j := 0) (v := .string s') hq rfl
    have q1 := Mem.cell (j := 1) (v := .int .i64 e') hq rfl
    refine bodyPost_ret (v := .tuple #[.agg #[.string s', .int .i64 e'], .int .i64 ((n / 2 : Nat) : Int)]) (by simp [results, Tryz.results45, go_sem, *]) rfl ⟨rfl, ?_⟩
    exact Mem.Ch.below (B := w.heap.size) (S := fun k => w.heap.size ≤ k) (((((Mem.Ch.of_below HB.out.1).trans' (Mem.Ch.of_below' hb2)).set (.inl (Nat.le_succ _))).set (.inl (Nat.le_succ _))).trans' (Mem.Ch.of_below' ((Below.refl _ _).alloc (Nat.le_refl _) _))) (fun k hk hS => by have h : w.heap.size ≤ k := hS; omega) (Nat.le_refl _)
  · rw [if_neg ho]
    have ho1 : ¬ (n : Int) % 2 = 0 := by omega
    have ho2 : (n : Int) % 2 = 1 := by omega
    clear hlt ho
    go_enter Tryz.func45, Tryz.ntmps45
    go_wp2_with (go_at_call 44; refine (hn _).mono ?_; rintro _ w2 ⟨rfl, hb2⟩; have hres2 := (hb2.block (w.heap.size + 1) (by simp)).trans HB.out.2; have hl2 := Mem.lt hres2; have f0 : w2.frozen? ⟨w.heap.size + 1, 0, none⟩ = false := Mem.free hres2; have f1 : w2.frozen? ⟨w.heap.size + 1, 1, none⟩ = false := Mem.free hres2; have r0 : w2.cell? ⟨w.heap.size + 1, 0, none⟩ = some (.string ⟨#[]⟩) := Mem.cell hres2 rfl; have r1 : w2.cell? ⟨w.heap.size + 1, 1, none⟩ = some (.int .i64 0) := Mem.cell hres2 rfl)
    have hq := Mem.old (Mem.set (j := 1) (u := .int .i64 e') (Mem.set (j := 0) (u := .string s') hres2)) (.cells #[.string s', .int .i64 e'] 94)
    have q0 := Mem.cell (j := 0) (v := .string s') hq rfl
    have q1 := Mem.cell (j := 1) (v := .int .i64 e') hq rfl
    refine bodyPost_ret (v := .tuple #[.agg #[.string s', .int .i64 e'], .int .i64 (-((n / 2 : Nat) : Int) - 1)]) (by simp [results, Tryz.results45, go_sem, *]) rfl ⟨rfl, ?_⟩
    exact Mem.Ch.below (B := w.heap.size) (S := fun k => w.heap.size ≤ k) (((((Mem.Ch.of_below HB.out.1).trans' (Mem.Ch.of_below' hb2)).set (.inl (Nat.le_succ _))).set (.inl (Nat.le_succ _))).trans' (Mem.Ch.of_below' ((Below.refl _ _).alloc (Nat.le_refl _) _))) (fun k hk hS => by have h : w.heap.size ≤ k := hS; omega) (Nat.le_refl _)
end
end Go.Proofs.YtpdceondgbgpkaaGreatDoor
