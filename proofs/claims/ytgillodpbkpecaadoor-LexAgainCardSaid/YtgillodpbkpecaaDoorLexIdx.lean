/- strings.IndexRune and strings.IndexAny where the bytes that are looked for are below 128, and the text is any text. -/
import Derived.Test.YtgillodpbkpecaaDoorShelf0
import Derived.Lib.OthersKept
import Derived.Laws.RangeAny
import Derived.Below
import Derived.Deep.LoopGhost
import Derived.Deep.QuietTactic
import Derived.BigQuiet
import Derived.Lib.Hide
import Derived.Laws.BitsLemmas
namespace Go.Proofs.YtgillodpbkpecaaDoor.Idx
open Go.RowKit Go.Lib

theorem get_at (s : ByteArray) (i : Nat) (h : i < s.size) : s.data.toList[i]? = some (s[i]'h) := Lib.data_getElem? s i h

/-- a rune's text: its last byte is no small one. -/
theorem enc_last (r : Int) (h : 128 ≤ r) : 2 ≤ (Utf8.encode r).size ∧ (Utf8.encode r).size ≤ 4 ∧ ∀ hl : (Utf8.encode r).size - 1 < (Utf8.encode r).size, 128 ≤ ((Utf8.encode r)[(Utf8.encode r).size - 1]'hl).toNat := by
  have hb : ∀ n : Nat, 128 ≤ (UInt8.ofNat (0x80 + n % 64)).toNat := by intro n; simp; omega
  have key : ∀ c : Nat, 128 ≤ c → ∀ e : ByteArray, e = (let b (n : Nat) : UInt8 := UInt8.ofNat n
      if c < 0x80 then ⟨#[b c]⟩
      else if c < 0x800 then ⟨#[b (0xC0 + c / 64), b (0x80 + c % 64)]⟩
      else if c < 0x10000 then ⟨#[b (0xE0 + c / 4096), b (0x80 + c / 64 % 64), b (0x80 + c % 64)]⟩
      else ⟨#[b (0xF0 + c / 262144), b (0x80 + c / 4096 % 64), b (0x80 + c / 64 % 64), b (0x80 + c % 64)]⟩) →
      2 ≤ e.size ∧ e.size ≤ 4 ∧ ∀ hl : e.size - 1 < e.size, 128 ≤ (e[e.size - 1]'hl).toNat := by
    intro c hc e he
    simp only at he
    rw [if_neg (by omega)] at he
    by_cases h1 : c < 0x800
    · rw [if_pos h1] at he; subst he; exact ⟨by simp [ByteArray.size], by simp [ByteArray.size], fun _ => hb c⟩
    rw [if_neg h1] at he
    by_cases h2 : c < 0x10000
    · rw [if_pos h2] at he; subst he; exact ⟨by simp [ByteArray.size], by simp [ByteArray.size], fun _ => hb c⟩
    rw [if_neg h2] at he; subst he; exact ⟨by simp [ByteArray.size], by simp [ByteArray.size], fun _ => hb c⟩
  refine key (if Utf8.valid r then r.toNat else Utf8.runeError) ?_ _ rfl
  split
  · omega
  · decide

theorem indexByte_none (l : List UInt8) (c : UInt8) (h : ∀ b ∈ l, b ≠ c) : Lib.indexByte l c = -1 := by
  have hc := Lib.contains_iff_indexByte l c
  have : l.contains c = false := by
    cases hq : l.contains c
    · rfl
    · exact absurd rfl (h c (by simpa using hq))
  rw [this] at hc
  have h2 : ¬ (0 ≤ Lib.indexByte l c) := of_decide_eq_false hc.symm
  have h3 := Lib.indexByte_ge l c
  omega

/-- a byte that is no small one is not within a part of a text of small ones. -/
theorem IndexByte_none (s : ByteArray) (a b : Nat) (c : UInt8) (w : World) (hs : ∀ (j : Nat) b, s.data.toList[j]? = some b → b.toNat < 128) (hc : 128 ≤ c.toNat) :
    Calls Tryd.prog 19 #[.string (s.extract a b), .int .u8 ((c.toNat : Nat) : Int)] w fun e w' => e = .returned (.int .i64 (-1)) ∧ w' = w := by
  refine (Tryd.strings_IndexByte _ _ _).mono fun e w' ⟨he, hw⟩ => ⟨?_, hw⟩
  rw [he, indexByte_none]
  intro x hx
  rw [ByteArray.data_extract, Array.toList_extract, List.extract_eq_take_drop] at hx
  obtain ⟨j, hj⟩ := List.getElem?_of_mem (List.mem_of_mem_drop (List.mem_of_mem_take hx))
  have h1 := hs j x hj
  intro e
  rw [e] at h1
  simp at h1
  omega

theorem pwb {B : Nat} {a w : World} {n : Nat} (h : Below B a w) : Below B a (w.drewN n) := ⟨h.os, h.tape, h.output, h.size, h.block⟩

set_option maxHeartbeats 4000000 in
set_option maxRecDepth 100000 in
theorem IndexRune_high (s : ByteArray) (r : Int) (w : World) (hs : ∀ (j : Nat) b, s.data.toList[j]? = some b → b.toNat < 128) (h : 128 ≤ r) (h2 : r ≤ 1114111) :
    Calls Tryd.prog 33 #[.string s, .int .i32 r] w fun e w' => e = .returned (.int .i64 (-1)) ∧ Below w.heap.size w w' := by
  have HS := Lib.hid hs
  clear hs
  have hlo : decide (r < 128) = false := decide_eq_false (by omega)
  by_cases he : r = 65533
  · subst he
    go_enter Tryd.func33, Tryd.ntmps33
    go_wp2_with fail
    go_loopg [5, 6] s.size (fun g _ _ wx => ∃ i : Nat, i + g = s.size ∧ wx = w.iter s i)
    case atStart => exact ⟨0, by omega, rfl⟩
    case round =>
      obtain ⟨i, hig, rfl⟩ := hrel
      cases gk with
      | zero =>
        obtain rfl : i = s.size := by omega
        have hnx := run_next_end (P := Tryd.prog) w s s.size
        go_wp2
        go_ret
        exact ⟨rfl, (Below.refl _ _).alloc (Nat.le_refl _) _⟩
      | succ g =>
        have hi : i < s.size := by omega
        have hx128 : (s[i]'hi).toNat < 128 := HS.out i _ (get_at s i hi)
        have hnx := fun ty => run_next_ascii (P := Tryd.prog) w s i ty hi hx128
        generalize (s[i]'hi) = x at hnx hx128
        have hx3 : ((x.toNat : Int) == 65533) = false := beq_eq_false_iff_ne.2 (by omega)
        go_wp2
        go_roundg g
        case measure => omega
        case rel => exact ⟨i + 1, by omega, rfl⟩
  · have hne : (r == 65533) = false := beq_eq_false_iff_ne.2 he
    obtain ⟨hz1, hz2, hlast⟩ := enc_last r h
    have HL := Lib.hid hlast
    clear hlast
    cases hv : Lib.validRune r
    · go_enter Tryd.func33, Tryd.ntmps33
      go_wp2_with (go_at_call 45; refine (Tryd.utf8_ValidRune _ _).mono ?_; rintro e w' ⟨rfl, hw⟩; rw [hw])
      go_ret
      exact ⟨rfl, Below.refl _ _⟩
    · go_enter Tryd.func33, Tryd.ntmps33
      go_wp2_with (go_at_call 45; refine (Tryd.utf8_ValidRune _ _).mono ?_; rintro e w' ⟨rfl, hw⟩; rw [hw])
      go_step3
      go_wp2_with fail
      obtain ⟨L, hL⟩ : ∃ L : Nat, (Utf8.encode r).size = L + 1 := ⟨(Utf8.encode r).size - 1, by omega⟩
      rw [show ((Utf8.encode r).size : Int) - 1 = (L : Int) from by omega]
      have hLl : L < (Utf8.encode r).size := by omega
      have hlb : 128 ≤ ((Utf8.encode r)[L]'hLl).toNat := by
        have := HL.out (by omega)
        simpa [hL] using this
      have hL1 : L + 1 ≤ (Utf8.encode r).size := by omega
      have hL2 : (Utf8.encode r).size ≤ L + 1 := by omega
      clear hL
      generalize Utf8.encode r = e at hLl hlb hL1 hL2 hz1 hz2 ⊢
      clear HL
      go_loopg [9, 10, 11, 12] 0 (fun g v9 v10 _ _ wx => v9 = .int .i64 (L : Int) ∧ v10 = .int .i64 0 ∧ wx = w)
      case atStart => exact ⟨rfl, rfl, rfl⟩
      case round =>
        obtain ⟨rfl, rfl, rfl⟩ := hrel
        by_cases hlt : L < s.size
        · have hlt' : decide (L < s.size) = true := decide_eq_true hlt
          have hx128 : (s[L]'hlt).toNat < 128 := HS.out L _ (get_at s L hlt)
          have hneq : (((s[L]'hlt).toNat : Int) != (((e[L]'hLl).toNat : Nat) : Int)) = true := by rw [bne_iff_ne]; omega
          go_wp2_with fail
          go_step3
          go_wp2_with fail
          go_quiet (fail)
          go_wp2_with fail
          have q1 : IntKind.i64.wrap ((L : Int) + 1) = ((L + 1 : Nat) : Int) := by rw [IntKind.wrap_i64]; omega
          have q2 : ((L + 1 : Nat) : Int) ≤ (s.size : Int) := by omega
          have q3 : L + 1 ≤ s.size := by omega
          have q4 : decide (((L + 1 : Nat) : Int) ≤ (s.size : Int)) = true := decide_eq_true q2
          have q5 : (0 : Int) ≤ ((L + 1 : Nat) : Int) := by omega
          go_quiet ((go_at_call 19; exact (IndexByte_none s _ _ _ _ HS.out hlb).mono fun _ _ ⟨he, hw⟩ => ⟨he, _, hw⟩))
          go_wp2_with fail
          rw [Exit.noGoto_ret]
          try go_wp2_with fail
          rw [Exit.noGoto_ret]
          go_ret
          exact ⟨rfl, by repeat (first | exact Below.refl _ _ | apply pwb)⟩
        · have hlt' : decide (L < s.size) = false := decide_eq_false hlt
          go_wp2_with fail
          rw [Exit.noGoto_ret]
          go_ret
          exact ⟨rfl, Below.refl _ _⟩

/-- the bytes of one rune that is no small one are no small ones. -/
theorem decode_span (s : ByteArray) (pos : Nat) (h : pos < s.size) (ha : 128 ≤ (s[pos]'h).toNat) (j : Nat) (h1 : pos ≤ j) (h2 : j < pos + (Utf8.decode s pos).2) : ∃ hj : j < s.size, 128 ≤ (s[j]'hj).toNat := by
  have g : ∀ k, pos + k < s.size → ∀ hk : pos + k < s.size, (s.get! (pos + k)).toNat = (s[pos + k]'hk).toNat := by
    intro k _ hk
    congr 1
    simp [ByteArray.get!, hk]
    rfl
  have c : ∀ k, (decide (pos + k < s.size) && ((s.get! (pos + k)).toNat / 64 == 2)) = true → ∃ hj : pos + k < s.size, 128 ≤ (s[pos + k]'hj).toNat := by
    intro k hk
    simp only [Bool.and_eq_true, decide_eq_true_eq, beq_iff_eq] at hk
    refine ⟨hk.1, ?_⟩
    have := g k hk.1 hk.1
    omega
  by_cases e0 : j = pos
  · subst e0; exact ⟨h, ha⟩
  obtain ⟨k, rfl⟩ : ∃ k, j = pos + k := ⟨j - pos, by omega⟩
  have hk0 : 0 < k := by omega
  have hk : k < (Utf8.decode s pos).2 := by omega
  clear h2 h1
  unfold Utf8.decode at hk
  simp only at hk
  split at hk
  · simp at hk; omega
  split at hk
  · rename_i hc
    rw [Bool.and_eq_true] at hc
    split at hk
    · simp at hk
      obtain rfl : k = 1 := by omega
      exact c 1 hc.2
    · simp at hk; omega
  split at hk
  · rename_i hc
    rw [Bool.and_eq_true, Bool.and_eq_true] at hc
    split at hk
    · simp at hk
      rcases (by omega : k = 1 ∨ k = 2) with rfl | rfl
      · exact c 1 hc.1.2
      · exact c 2 hc.2
    · simp at hk; omega
  split at hk
  · rename_i hc
    rw [Bool.and_eq_true, Bool.and_eq_true, Bool.and_eq_true] at hc
    split at hk
    · simp at hk
      rcases (by omega : k = 1 ∨ k = 2 ∨ k = 3) with rfl | rfl | rfl
      · exact c 1 hc.1.1.2
      · exact c 2 hc.1.2
      · exact c 3 hc.2
    · simp at hk; omega
  · simp at hk; omega

theorem decode_top (s : ByteArray) (pos : Nat) : (Utf8.decode s pos).1 ≤ 1114111 := by
  unfold Utf8.decode
  simp only
  have hb : ∀ k, (s.get! (pos + k)).toNat < 256 := fun k => UInt8.toNat_lt _
  have h0 := hb 0; have h1 := hb 1; have h2 := hb 2; have h3 := hb 3
  split
  · simp at h0 ⊢; omega
  split
  · split
    · simp; omega
    · decide
  split
  · split
    · simp; omega
    · decide
  split
  · split
    · rename_i hc
      simp only [Bool.and_eq_true, decide_eq_true_eq] at hc
      have hv := hc.2
      simp only [Utf8.valid, Bool.or_eq_true, Bool.and_eq_true, decide_eq_true_eq] at hv
      simp only
      omega
    · decide
  · decide

theorem below_iterAt {B k : Nat} {a w : World} (h : Below B a w) (hk : B ≤ k) (s : ByteArray) (pos : Nat) : Below B a (w.iterAt k s pos) :=
  ⟨h.os, h.tape, h.output, by simp [World.iterAt]; exact h.size, fun j hj => by
    have : j ≠ k := by omega
    simp only [World.iterAt, Array.getElem?_setIfInBounds]
    rw [if_neg (by omega)]
    exact h.block j hj⟩
theorem iter_block (w : World) (s : ByteArray) : (w.iter s 0).heap[w.heap.size]? = some (.stringIter s 0) := by
  simp [World.iter, World.alloc, -World.alloc_eq]
theorem iter_below (w : World) (s : ByteArray) : Below w.heap.size w (w.iter s 0) := (Below.refl _ _).alloc (Nat.le_refl _) _
theorem noAny_span {s chars : List UInt8} {i n : Nat} (h : Lib.NoAny s chars i) (hh : ∀ j, i ≤ j → j < n → ∀ b, s[j]? = some b → 128 ≤ b.toNat) (hc : ∀ (j : Nat) b, chars[j]? = some b → b.toNat < 128) : Lib.NoAny s chars n := by
  intro j b hj hb
  by_cases hji : j < i
  · exact h j b hji hb
  · have h1 := hh j (by omega) hj b hb
    cases hq : chars.contains b
    · rfl
    · obtain ⟨m, hm⟩ := List.getElem?_of_mem (by simpa using hq : b ∈ chars)
      have := hc m b hm
      omega

set_option maxHeartbeats 8000000 in
set_option maxRecDepth 100000 in
theorem IndexAny_short (s chars : ByteArray) (w : World) (hk2 : 2 ≤ chars.size) (h8 : s.size ≤ 8) (hc : ∀ (j : Nat) b, chars.data.toList[j]? = some b → b.toNat < 128) :
    Calls Tryd.prog 21 #[.string s, .string chars] w fun e w' => e = .returned (.int .i64 (Lib.indexAny s.data.toList chars.data.toList)) ∧ Below w.heap.size w w' := by
  have HA := Lib.hid hc
  clear hc
  have hemp : chars.toList.isEmpty = false := by
    rw [Lib.toList_data]
    cases h : chars.data.toList with
    | nil => have := Lib.size_eq chars; rw [h, List.length_nil] at this; omega
    | cons _ _ => rfl
  have hn1 : ((chars.size : Int) == 1) = false := beq_eq_false_iff_ne.2 (by omega)
  have h8z : decide ((8 : Int) < (s.size : Int)) = false := decide_eq_false (by omega)
  go_enter Tryd.func21, Tryd.ntmps21
  go_wp2_with (go_at_call 34; refine (Tryd.strings_shouldUseASCIISet _ _).mono ?_; rintro e w' ⟨rfl, hw⟩; rw [hw, h8z])
  have hb0 := iter_below w s
  have hi0 := iter_block w s
  go_loopg [9, 10] s.size (fun g _ _ wx => ∃ i : Nat, s.size ≤ i + g ∧ i ≤ s.size ∧ wx.heap[w.heap.size]? = some (.stringIter s i) ∧ Below w.heap.size w wx ∧ Lib.NoAny s.data.toList chars.data.toList i)
  case atStart => exact ⟨0, by omega, by omega, hi0, hb0, Lib.NoAny.zero _ _⟩
  case round =>
    clear hb0 hi0
    obtain ⟨i, hig, hil, hit, hbw, hno⟩ := hrel
    have HN := Lib.hid hno
    have HI := Lib.hid hit
    clear hno
    by_cases hi : i < s.size
    · obtain ⟨g, rfl⟩ : ∃ g, gk = g + 1 := ⟨gk - 1, by omega⟩
      have HL := iterAt_heap wr w.heap.size s i
      by_cases hx : (s[i]'hi).toNat < 128
      · have hnx := fun ty => run_next_ascii_at (P := Tryd.prog) wr w.heap.size s i ty hit hi hx
        have hgx := get_at s i hi
        generalize (s[i]'hi) = x at hnx hx hgx
        have HG := Lib.hid hgx
        clear hgx hit
        have hback : ((x.toNat : Int)).toNat.toUInt8 = x := by simp
        have hcon := Lib.contains_iff_indexByte chars.data.toList x
        have HLs := Lib.hid (HL (i + 1) HI.out)
        clear HL
        cases hin : chars.data.toList.contains x
        · rw [hin] at hcon
          have hlt : ¬ ((0 : Int) ≤ Lib.indexByte chars.data.toList x) := of_decide_eq_false hcon.symm
          clear hcon
          go_wp2_with (go_at_call 33; refine (Tryd.strings_IndexRune_ascii _ _ _ (by omega) (by omega)).mono ?_; rintro e w' ⟨rfl, hw⟩; rw [hw, hback])
          go_roundg g
          case measure => omega
          case rel => exact ⟨i + 1, by omega, by omega, HLs.out, below_iterAt hbw (Nat.le_refl _) s _, HN.out.succ HG.out hin⟩
        · rw [hin] at hcon
          have hge : (0 : Int) ≤ Lib.indexByte chars.data.toList x := of_decide_eq_true hcon.symm
          clear hcon
          go_wp2_with (go_at_call 33; refine (Tryd.strings_IndexRune_ascii _ _ _ (by omega) (by omega)).mono ?_; rintro e w' ⟨rfl, hw⟩; rw [hw, hback])
          go_ret
          exact ⟨by rw [Lib.indexAny_hit HN.out HG.out hin]; rfl, below_iterAt hbw (Nat.le_refl _) s _⟩
      · have hx' : 128 ≤ (s[i]'hi).toNat := by omega
        have hnx := fun ty => run_next_any_at (P := Tryd.prog) wr w.heap.size s i ty hit hi
        have hdh := decode_high s i hi hx'
        have hdt := decode_top s i
        have hsp := decode_span s i hi hx'
        have HS := Lib.hid hsp
        clear hsp hit
        have HLs := Lib.hid (HL (i + (Utf8.decode s i).2) HI.out)
        clear HL
        have hend : i + (Utf8.decode s i).2 ≤ s.size := by
          have h1 := hdh.2
          obtain ⟨hj, _⟩ := HS.out (i + (Utf8.decode s i).2 - 1) (by omega) (by omega)
          omega
        have hspan : Lib.NoAny s.data.toList chars.data.toList (i + (Utf8.decode s i).2) := noAny_span HN.out (fun j h1 h2 b hb => by
          obtain ⟨hj, hv⟩ := HS.out j h1 h2
          rw [get_at s j hj] at hb
          cases hb
          exact hv) HA.out
        have HSp := Lib.hid hspan
        clear hspan
        obtain ⟨c, hcd⟩ : ∃ c, (Utf8.decode s i).1 = c := ⟨_, rfl⟩
        obtain ⟨wd, hwd⟩ : ∃ wd, (Utf8.decode s i).2 = wd := ⟨_, rfl⟩
        rw [hcd, hwd] at hnx
        rw [hcd, hwd] at hdh
        rw [hcd] at hdt
        rw [hwd] at hend HLs HSp
        clear hcd hwd HS
        have hd1 := hdh.1
        have hd2 := hdh.2
        have hwdk : Below w.heap.size w (wr.iterAt w.heap.size s (i + wd)) := below_iterAt hbw (Nat.le_refl _) s _
        have hneg : decide ((0 : Int) ≤ -1) = false := by decide
        go_wp2_with (go_at_call 33; refine (IndexRune_high _ _ _ HA.out (by omega) (by omega)).mono ?_; rintro e w' ⟨rfl, hw⟩)
        go_roundg g
        case measure => omega
        case rel =>
          refine ⟨i + wd, by omega, hend, ?_, ?_, HSp.out⟩
          · have hlt : w.heap.size < (wr.iterAt w.heap.size s (i + wd)).heap.size := by
              rcases Nat.lt_or_ge w.heap.size (wr.iterAt w.heap.size s (i + wd)).heap.size with h | h
              · exact h
              · have := HLs.out; rw [Array.getElem?_eq_none h] at this; cases this
            rw [hw.block _ hlt]; exact HLs.out
          · exact hwdk.trans (hw.mono (by have := hwdk.size; omega))
    · have hnx := fun ty => run_next_end_at (P := Tryd.prog) wr w.heap.size s i ty hit hi
      clear hit
      have hie : i = s.size := by omega
      have hfin := Lib.indexAny_none (s := s.data.toList) (chars := chars.data.toList) (by rw [← Lib.size_eq]; rw [← hie]; exact HN.out)
      have HF := Lib.hid hfin
      clear hfin hie
      go_wp2
      go_ret
      exact ⟨by rw [HF.out]; rfl, hbw⟩

theorem IndexAny_all (s chars : ByteArray) (w : World) (hk2 : 2 ≤ chars.size) (hcs : chars.size < 4294967281) (hs : s.size < 4294967281) (hc : ∀ (j : Nat) b, chars.data.toList[j]? = some b → b.toNat < 128) :
    Calls Tryd.prog 21 #[.string s, .string chars] w fun e w' => e = .returned (.int .i64 (Lib.indexAny s.data.toList chars.data.toList)) ∧ Below w.heap.size w w' := by
  by_cases h8 : s.size ≤ 8
  · exact IndexAny_short s chars w hk2 h8 hc
  · refine (Tryd.strings_IndexAny_long (zero_of_info (show (Tryd.prog.info? 58).map (fun i => (i.zero, i.size)) = some (some (.agg (Array.replicate 256 (.bool false))), 256) by kernel_rfl)).1 s chars w hk2 (by omega) hs hcs hc).mono fun e w' ⟨h1, h2⟩ => ⟨h1, ?_⟩
    rw [h2]
    exact ((Below.refl _ _).alloc (Nat.le_refl _) _).alloc (by simp) _

end Go.Proofs.YtgillodpbkpecaaDoor.Idx
