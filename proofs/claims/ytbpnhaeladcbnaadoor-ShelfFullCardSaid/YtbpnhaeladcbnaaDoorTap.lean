/- A tape: bytes that are read from the front on. -/
import Derived.Test.YtbpnhaeladcbnaaDoorTapP
import Derived.Test.YtbpnhaeladcbnaaDoorBits2
import Derived.Test.YtbpnhaeladcbnaaDoorMem2
import Derived.Laws.IdiomStrings
import Derived.Lib.Hide
namespace Go.Proofs.YtbpnhaeladcbnaaDoor
open Go.RowKit
set_option linter.unusedSimpArgs false
set_option linter.unusedVariables false
/-- Block g is a tape. -/
def TapeAt (w : World) (g : Nat) (s : ByteArray) (e : Int) : Prop := w.heap[g]? = some (.cells #[.string s, .int .i64 e] 108 (0, 0))
theorem conv_bytes (w : World) (t : ByteArray) : ∃ cap W1, (convert 9 110 (.string t)).run Tryd.prog w = .ok (.slice (some ⟨w.heap.size, 0, none⟩) t.size cap) W1 ∧ Below w.heap.size w W1 ∧ w.heap.size < W1.heap.size ∧
    ∀ j, j < t.size → W1.cell? ⟨w.heap.size, j, none⟩ = some (.int .u8 ((t.data.toList.getD j 0).toNat : Int)) := by
  refine ⟨_, _, run_bytes_of_string w 9 110 5 t Tryd.underlying9 Tryd.underlying110 Tryd.underlying5, (Mem.bdrewN (Below.refl _ w) 1).alloc (Nat.le_refl _) _, by simp, fun j hj => ?_⟩
  have hj' : j < t.data.size := hj
  have hnew : (w.drew.alloc (.cells (bytesRow t (grownCap w t.size 0 5)) 5 ((bytesRow t (grownCap w t.size 0 5)).size, (bytesRow t (grownCap w t.size 0 5)).size + 1))).heap[w.heap.size]? = some (.cells (bytesRow t (grownCap w t.size 0 5)) 5 ((bytesRow t (grownCap w t.size 0 5)).size, (bytesRow t (grownCap w t.size 0 5)).size + 1)) := Mem.new w.drew _
  generalize hC : bytesRow t (grownCap w t.size 0 5) = C at hnew ⊢
  have hj2 : C[j]? = some (.int .u8 ((t.data.toList.getD j 0).toNat : Int)) := by
    rw [← hC]
    unfold bytesRow
    rw [Array.getElem?_append_left (by simpa using hj'), Array.getElem?_map, Array.getElem?_eq_getElem hj', List.getD, Array.getElem?_toList, Array.getElem?_eq_getElem hj']
    rfl
  simp only [World.cell?, hnew, hj2]
  rfl
theorem or_byte (a b : Nat) (h : b < 256) : a * 256 ||| b = a * 256 + b := by
  have := Nat.two_pow_add_eq_or_of_lt (i := 8) (b := b) (by simpa using h) a
  rw [Nat.mul_comm a 256]
  exact this.symm
theorem or_u64 (V b : Nat) (hV : V < 72057594037927936) (hb : b < 256) : bits .or .u64 (IntKind.u64.wrap ((V : Int) * 256)) (IntKind.u64.wrap (b : Int)) = ((V * 256 + b : Nat) : Int) := by
  have e1 : IntKind.u64.wrap ((V : Int) * 256) = ((V * 256 : Nat) : Int) := by
    show ((V : Int) * 256) % 18446744073709551616 = _
    omega
  have e2 : IntKind.u64.wrap (b : Int) = (b : Int) := by
    show (b : Int) % 18446744073709551616 = _
    omega
  rw [e1, e2, u64_or_nat (V * 256) b (by omega) (by omega), or_byte V b hb]
theorem tmeas {n k : Nat} (h : k < n) : n - (intOf (.int .i64 ((k : Int) + 1))).toNat < n - (intOf (.int .i64 (k : Int))).toNat := by
  show n - ((k : Int) + 1).toNat < n - ((k : Int)).toNat; omega
theorem val_next {r : List UInt8} {m j V bb : Nat} (hlt : j < m) (hmr : m ≤ r.length) (hv : Sp.val (r.take j) = V) (hb : ((r.take m).getD j 0).toNat = bb) : V * 256 + bb = Sp.val (r.take (j + 1)) := by
  have hj : j < r.length := by omega
  rw [List.take_add_one, List.getElem?_eq_getElem hj, Option.toList, Sp.val_snoc, hv, ← hb]
  congr 2
  simp [List.getD, List.getElem?_take, hlt, List.getElem?_eq_getElem hj]
theorem rd_form {s : ByteArray} {c r0 : UInt8} {r r' : List UInt8} {m V : Nat} (hl : s.data.toList = c :: r) (hr : r = r0 :: r') (hm : c.toNat = 247 + m) (h1 : 1 ≤ m) (hn : ¬ r.length < m) (hv : Sp.val (r.take m) = V) (h : r0.toNat = 0 ∨ V ≤ 247) :
    Ending.returned (.tuple #[.int .u64 0, .int .i64 0, .int .i64 3]) = Ending.returned (.tuple #[.int .u64 ((Sp.rdN s.data.toList).1 : Nat), .int .i64 ((Sp.rdN s.data.toList).2.1 : Nat), .int .i64 (Sp.rdN s.data.toList).2.2]) := by
  have e : Sp.rdN s.data.toList = (0, 0, 3) := by
    rw [hl, Sp.rdN, if_neg (by omega), show c.toNat - 247 = m by omega, if_neg hn, if_pos]
    rcases h with h | h
    · exact .inl (by rw [hr]; exact UInt8.toNat_inj.1 (by simpa using h))
    · exact .inr (by rw [hv]; exact h)
  rw [e]
  rfl
theorem rd_great {s : ByteArray} {c r0 : UInt8} {r r' : List UInt8} {m V : Nat} (hl : s.data.toList = c :: r) (hr : r = r0 :: r') (hm : c.toNat = 247 + m) (h1 : 1 ≤ m) (hn : ¬ r.length < m) (hv : Sp.val (r.take m) = V) (h0 : r0.toNat ≠ 0) (hV : 247 < V) :
    Ending.returned (.tuple #[.int .u64 V, .int .i64 ((m : Int) + 1), .int .i64 0]) = Ending.returned (.tuple #[.int .u64 ((Sp.rdN s.data.toList).1 : Nat), .int .i64 ((Sp.rdN s.data.toList).2.1 : Nat), .int .i64 (Sp.rdN s.data.toList).2.2]) := by
  have e : Sp.rdN s.data.toList = (V, m + 1, 0) := by
    rw [hl, Sp.rdN, if_neg (by omega), show c.toNat - 247 = m by omega, if_neg hn, if_neg, hv]
    rintro (h | h)
    · rw [hr] at h
      exact h0 (by rw [show r0 = 0 from h]; rfl)
    · omega
  rw [e]
  rfl
set_option maxRecDepth 100000 in
set_option maxHeartbeats 2000000 in
theorem tnum_any (s : ByteArray) (g : Nat) (w : World) (h : TapeAt w g s 0) (hs : s.size ≤ 140737488351232) :
    Calls Tryd.prog 60 #[.pointer (some ⟨g, 0, none⟩)] w fun r w' => r = .returned (.tuple #[.int .u64 ((Sp.rdN s.data.toList).1 : Nat), .int .i64 ((Sp.rdN s.data.toList).2.1 : Nat), .int .i64 (Sp.rdN s.data.toList).2.2]) ∧ Below w.heap.size w w' := by
  have c0 : w.cell? ⟨g, 0, none⟩ = some (.string s) := Mem.cell h rfl
  have HT := Lib.hid h
  clear h
  by_cases h0 : s.size = 0
  · have hl : s.data.toList = [] := by rw [← List.length_eq_zero_iff, Array.length_toList]; exact h0
    have HL := Lib.hid hl
    have hnil : s.toList = [] := by rw [ByteArray.toList_eq]; exact hl
    have hnil2 : s.toList.isEmpty = true := by rw [hnil]; rfl
    clear hl hnil
    go_enter Tryd.func60, Tryd.ntmps60
    go_wp2_with fail
    refine bodyPost_ret (v := .tuple #[.int .u64 0, .int .i64 0, .int .i64 5]) (by simp [results, Tryd.results60, go_sem, *]) rfl ⟨?_, Below.refl _ _⟩
    rw [HL.out]
    rfl
  · have hpos : 0 < s.size := by omega
    obtain ⟨c, r, hl⟩ : ∃ c r, s.data.toList = c :: r := by
      cases hh : s.data.toList with
      | nil => have := congrArg List.length hh; rw [Array.length_toList] at this; exact absurd this h0
      | cons c r => exact ⟨c, r, rfl⟩
    have hc0 : s[0] = c := by
      have h1 : s.data.toList[0]? = some s[0] := by rw [Array.getElem?_toList]; exact Array.getElem?_eq_getElem (xs := s.data) (i := 0) hpos
      rw [hl] at h1
      simpa using h1.symm
    have hsz : s.size = r.length + 1 := by have := congrArg List.length hl; rw [Array.length_toList] at this; exact this
    have hne : (!s.toList.isEmpty) = true := by rw [ByteArray.toList_eq, hl]; rfl
    have hne2 : s.toList.isEmpty = false := by rw [ByteArray.toList_eq, hl]; rfl
    have HL := Lib.hid hl
    clear hl
    by_cases h247 : c.toNat ≤ 247
    · have hi : (c.toNat : Int) ≤ 247 := by omega
      go_enter Tryd.func60, Tryd.ntmps60
      go_wp2_with fail
      refine bodyPost_ret (v := .tuple #[.int .u64 c.toNat, .int .i64 1, .int .i64 0]) (by simp [results, Tryd.results60, go_sem, *]; done) rfl ⟨?_, Below.refl _ _⟩
      rw [HL.out, Sp.rdN, if_pos h247]
      rfl
    · have hcl : c.toNat < 256 := c.toNat_lt
      obtain ⟨m, hm⟩ : ∃ m, c.toNat = 247 + m := ⟨c.toNat - 247, by omega⟩
      have hi : 247 < (c.toNat : Int) := by omega
      have e1 : wrap64 (c.toNat : Int) = c.toNat := by unfold wrap64; omega
      have e2 : wrap64 ((c.toNat : Int) - 247) = (m : Int) := by unfold wrap64; omega
      have e3 : wrap64 ((m : Int) + 1) = (m : Int) + 1 := by unfold wrap64; omega
      by_cases hr : r.length < m
      · have hr1 : (r.length : Int) + 1 ≤ (m : Int) := by omega
        go_enter Tryd.func60, Tryd.ntmps60
        go_wp2_with fail
        refine bodyPost_ret (v := .tuple #[.int .u64 0, .int .i64 0, .int .i64 5]) (by simp [results, Tryd.results60, go_sem, *]) rfl ⟨?_, Below.refl _ _⟩
        rw [HL.out, Sp.rdN, if_neg h247, if_pos (by omega)]
        rfl
      · have hr1 : ¬ (r.length : Int) + 1 ≤ (m : Int) := by omega
        have hr2 : (m : Int) + 1 ≤ (r.length : Int) + 1 := by omega
        have hr3 : (1 : Int) ≤ (m : Int) + 1 := by omega
        obtain ⟨cap, W1, hcv, hb1, hlt1, hcell⟩ := conv_bytes w (s.extract 1 (m + 1))
        have hm1 : 1 ≤ m := by omega
        have hm8 : m ≤ 8 := by omega
        have hmin : min m r.length = m := by omega
        have hex : (s.extract 1 (m + 1)).data.toList = r.take m := by
          have e : (s.extract 1 (m + 1)).data = s.data.extract 1 (m + 1) := by simp
          rw [e, Array.toList_extract, HL.out]
          simp
        have hexs : (s.extract 1 (m + 1)).size = m := by
          have := congrArg List.length hex
          rw [Array.length_toList, List.length_take, hmin] at this
          exact this
        rw [hexs, hex] at hcell
        obtain ⟨r0, r', hr0⟩ : ∃ r0 r', r = r0 :: r' := by
          cases r with
          | nil => simp at hr; omega
          | cons x y => exact ⟨x, y, rfl⟩
        have hs1 : 1 < s.size := by rw [hsz, hr0]; simp
        have hc1 : s[1] = r0 := by
          have h1 : s.data.toList[1]? = some s[1] := by rw [Array.getElem?_toList]; exact Array.getElem?_eq_getElem (xs := s.data) (i := 1) hs1
          rw [HL.out, hr0] at h1
          simpa using h1.symm
        have HM := Lib.hid (And.intro hm (And.intro hcl (And.intro hcell (And.intro hr0 (And.intro h247 (And.intro hb1 hr))))))
        have HQ := Lib.hid (And.intro hm1 (And.intro hm8 (show m ≤ r.length by omega)))
        have c0' : W1.cell? ⟨g, 0, none⟩ = some (.string s) := Mem.cell ((hb1.block g (Mem.lt HT.out)).trans HT.out) rfl
        clear hm hcl hcell hr0 hex hexs h247 hb1 hlt1 hm1 hm8 hr
        go_enter Tryd.func60, Tryd.ntmps60
        go_wp2_with fail
        go_loopw [7, 43] (fun n i wr => ∃ j : Nat, j ≤ m ∧ n = .int .u64 (Sp.val (r.take j) : Nat) ∧ i = .int .i64 (j : Int) ∧ wr = W1) (fun _ i _ => m - (intOf i).toNat)
        case atStart => exact ⟨0, Nat.zero_le _, rfl, rfl, rfl⟩
        case round =>
          obtain ⟨j, hj, rfl, rfl, rfl⟩ := hrel
          by_cases hlt : j < m
          · have hlt' : (j : Int) < (m : Int) := by omega
            have hcell := HM.out.2.2.1 j hlt
            have hvl := Sp.val_lt (r.take j)
            have hbl : ((r.take m).getD j 0).toNat < 256 := UInt8.toNat_lt _
            generalize hv : Sp.val (r.take j) = V at hvl ⊢
            have hvv : V < 72057594037927936 := by
              have h1 : (r.take j).length ≤ 7 := by rw [List.length_take]; have := HQ.out.2.1; omega
              have h2 : 256 ^ (r.take j).length ≤ 256 ^ 7 := Nat.pow_le_pow_right (by decide) h1
              exact Nat.lt_of_lt_of_le hvl h2
            generalize hbb : ((r.take m).getD j 0).toNat = bb at hcell hbl
            have HV := Lib.hid hv
            have HBB := Lib.hid hbb
            have HL2 := Lib.hid (And.intro hvv hbl)
            clear hv hbb hvv hbl hvl
            go_wp2_with fail
            go_roundw
            case rel => exact ⟨j + 1, hlt, by rw [or_u64 V bb HL2.out.1 HL2.out.2, val_next hlt (HQ.out.2.2) HV.out HBB.out], rfl, trivial⟩
            case measure => exact tmeas hlt
          · have hjm : (m : Int) ≤ (j : Int) := by omega
            have hjeq : j = m := by omega
            subst hjeq
            generalize hv : Sp.val (r.take j) = V
            have HV := Lib.hid hv
            clear hv hjm hj hlt
            have hjj : ¬ (j : Int) < (j : Int) := by omega
            by_cases z0 : (r0.toNat : Int) = 0
            · go_wp2_with fail
              refine bodyPost_ret (v := .tuple #[.int .u64 0, .int .i64 0, .int .i64 3]) (by simp [results, Tryd.results60, go_sem, *]) rfl ⟨?_, HM.out.2.2.2.2.2.1⟩
              exact rd_form HL.out HM.out.2.2.2.1 HM.out.1 HQ.out.1 HM.out.2.2.2.2.2.2 HV.out (.inl (by omega))
            · by_cases z1 : (V : Int) ≤ 247
              · go_wp2_with fail
                refine bodyPost_ret (v := .tuple #[.int .u64 0, .int .i64 0, .int .i64 3]) (by simp [results, Tryd.results60, go_sem, *]) rfl ⟨?_, HM.out.2.2.2.2.2.1⟩
                exact rd_form HL.out HM.out.2.2.2.1 HM.out.1 HQ.out.1 HM.out.2.2.2.2.2.2 HV.out (.inr (by omega))
              · go_wp2_with fail
                refine bodyPost_ret (v := .tuple #[.int .u64 V, .int .i64 (j + 1), .int .i64 0]) (by simp [results, Tryd.results60, go_sem, *]) rfl ⟨?_, HM.out.2.2.2.2.2.1⟩
                exact rd_great HL.out HM.out.2.2.2.1 HM.out.1 HQ.out.1 HM.out.2.2.2.2.2.2 HV.out (by omega) (by omega)
end Go.Proofs.YtbpnhaeladcbnaaDoor
