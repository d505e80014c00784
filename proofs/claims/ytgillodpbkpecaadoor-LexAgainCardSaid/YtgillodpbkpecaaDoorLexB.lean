/- The tokens that the program finds at a place, as plain functions: numbers, texts, bits, signs. -/
import Derived.Test.YtgillodpbkpecaaDoorLexA
namespace Go.Proofs.YtgillodpbkpecaaDoor.Lex
open Go.RowKit Go.Proofs.YtgillodpbkpecaaDoorW.PrintWords Go.Proofs.YtgillodpbkpecaaDoorW.PrintLast Go.Proofs.YtgillodpbkpecaaDoorW.PrintMore Go.Proofs.YtgillodpbkpecaaDoor.Ext Go.Proofs.YtgillodpbkpecaaDoor.PLx

theorem number_j0 (s : ByteArray) (hs : s.size ≤ 4096) (a : Nat) (ha : a < s.size) (g : Nat) (hg : g = if byteAt s a = 45 then 1 else 0) (k : Nat) (hk : s.size < k) :
    lex_number.j0 (k + 1) s (a : Int) (g : Int) = some (out (numTok s a)) := by
  have hg1 : g ≤ 1 := by rw [hg]; split <;> omega
  simp only [lex_number.j0]
  rw [w64 (n := (a : Int) + (g : Int)) (by omega) (by omega), show ((a : Int) + (g : Int)) = ((a + g : Nat) : Int) by omega,
    run_digit s (by omega) k (a + g) (by omega) hk]
  rw [Option.bind_some]
  have hle := run_le isDigit s (a + g) (by omega)
  have hin := run_inside isDigit s
  have htk := take_run isDigit s (a + g)
  unfold numTok
  simp only [← hg]
  generalize run isDigit s (a + g) = d at hle htk ⊢
  rw [w64 (n := ((a + g : Nat) : Int) + (d : Int)) (by omega) (by omega), show (((a + g : Nat) : Int) + (d : Int)) = ((a + g + d : Nat) : Int) by omega, if_pos (by omega), if_pos (by omega), if_pos (by omega)]
  by_cases h1 : d < 1
  · rw [if_pos (by omega), if_pos (.inl h1)]; rfl
  rw [if_neg (by omega)]
  by_cases h18 : 18 < d
  · rw [if_pos (by omega), if_pos (.inr (.inl h18))]; rfl
  rw [if_neg (by omega)]
  have hval := atoi_tok s a ha g hg d (by omega) (by omega) (by omega) htk
  simp only [Int.toNat_natCast]
  by_cases hm : 1 < d
  · rw [if_pos (by omega), if_pos (by omega), if_pos (by omega), bt_byteAt]
    by_cases h48 : byteAt s (a + g) = 48
    · rw [if_pos (by omega), if_pos (.inr (.inr ⟨hm, h48⟩))]; rfl
    · rw [if_neg (by omega), if_neg (by omega), hval]; rfl
  · rw [if_neg (by omega), if_neg (by omega), hval]; rfl

theorem number_f (s : ByteArray) (hs : s.size ≤ 4096) (a : Nat) (ha : a < s.size) (k : Nat) (hk : s.size < k) : lex_number.f (k + 1) s (a : Int) = some (out (numTok s a)) := by
  unfold lex_number.f
  rw [if_pos (by omega), if_pos (by omega), bt_byteAt]
  by_cases h : byteAt s a = 45
  · rw [if_pos (by omega)]
    have := number_j0 s hs a ha 1 (by rw [if_pos h]) k hk
    exact this
  · rw [if_neg (by omega)]
    have := number_j0 s hs a ha 0 (by rw [if_neg h]) k hk
    exact this

/-! ### texts -/
def notEnd (c : UInt8) : Bool := !isEnd c
theorem indexAny_run : ∀ (l : List UInt8), Lib.indexAny l [39, 10, 13] = if runL notEnd l = l.length then -1 else ((runL notEnd l : Nat) : Int)
  | [] => rfl
  | b :: l => by
    have ih := indexAny_run l
    have hle := runL_le notEnd l
    rw [Lib.indexAny, ends_c, runL_cons, List.length_cons]
    cases hb : isEnd b
    · have hn : notEnd b = true := by unfold notEnd; rw [hb]; rfl
      rw [if_neg (by decide), hn, if_pos rfl, ih]
      by_cases he : runL notEnd l = l.length
      · have h2 : runL notEnd l + 1 = l.length + 1 := by omega
        rw [if_pos he]; simp [h2]
      · have h2 : ¬ (runL notEnd l + 1 = l.length + 1) := by omega
        have h3 : ((((runL notEnd l : Nat) : Int)) == -1) = false := beq_eq_false_iff_ne.2 (by omega)
        rw [if_neg he, h3]
        simp [he]
    · have hn : notEnd b = false := by unfold notEnd; rw [hb]; rfl
      rw [if_pos rfl, hn]; simp

def textTok (s : ByteArray) (a : Nat) : Option Tok :=
  let n := run notEnd s (a + 1)
  if a + 1 + n = s.size ∨ 64 < n ∨ byteAt s (a + 1 + n) ≠ 39 then none
  else some (3, (a : Int), s.extract a (a + n + 2), 0, s.extract (a + 1) (a + 1 + n))

theorem text_f (s : ByteArray) (hs : s.size ≤ 4096) (a : Nat) (ha : a < s.size) : lex_text.f s (a : Int) = some (out (textTok s a)) := by
  unfold lex_text.f textTok
  rw [w64 (n := (a : Int) + 1) (by omega) (by omega), show ((a : Int) + 1) = ((a + 1 : Nat) : Int) by omega, if_pos (by omega), if_pos (by omega)]
  simp only [Int.toNat_natCast]
  have hle := run_le notEnd s (a + 1) (by omega)
  have hx : (s.extract (a + 1) s.size).data.toList = s.data.toList.drop (a + 1) := by rw [ext_data, size_list, List.take_length]
  have hia : strings_IndexAny.f (s.extract (a + 1) s.size) (⟨#[39, 10, 13]⟩ : ByteArray) = some (Lib.indexAny (s.data.toList.drop (a + 1)) [39, 10, 13]) := by
    unfold strings_IndexAny.f
    rw [if_pos (by decide), if_pos (by decide), if_pos (by rw [ext_size]; omega), if_pos (by decide), hx]
  rw [hia, Option.bind_some, indexAny_run]
  have hr : runL notEnd (s.data.toList.drop (a + 1)) = run notEnd s (a + 1) := rfl
  rw [hr, List.length_drop, ← size_list]
  generalize run notEnd s (a + 1) = n at hle ⊢
  by_cases he : a + 1 + n = s.size
  · rw [if_pos (c := n = s.size - (a + 1)) (by omega), if_pos (by omega), if_pos (.inl he)]; rfl
  rw [if_neg (c := n = s.size - (a + 1)) (by omega), if_neg (by omega)]
  by_cases h64 : 64 < n
  · rw [if_pos (by omega), if_pos (.inr (.inl h64))]; rfl
  rw [if_neg (by omega), w64 (n := ((a + 1 : Nat) : Int) + (n : Int)) (by omega) (by omega), show (((a + 1 : Nat) : Int) + (n : Int)) = ((a + 1 + n : Nat) : Int) by omega, if_pos (by omega), if_pos (by omega), bt_byteAt]
  by_cases h39 : byteAt s (a + 1 + n) = 39
  · rw [if_pos (by omega), if_pos (by omega), w64 (n := (a : Int) + (n : Int)) (by omega) (by omega), w64 (n := (a : Int) + (n : Int) + 2) (by omega) (by omega), show ((a : Int) + (n : Int) + 2) = ((a + n + 2 : Nat) : Int) by omega, if_pos (by omega), if_pos (by omega), if_pos (by omega), if_pos (by omega), if_neg (by omega)]
    simp only [Int.toNat_natCast]
    rfl
  · rw [if_neg (by omega), if_pos (.inr (.inr h39))]; rfl

/-! ### bits -/
def bitsTok (s : ByteArray) (a : Nat) : Option Tok :=
  if run isHexC s (a + 1) = 16 then some (5, (a : Int), s.extract a (a + 17), wrap64 ((Idx.hexVal 0 ((s.data.toList.drop (a + 1)).take 16) : Nat) : Int), nul) else none

theorem run_hex (s : ByteArray) (hs : s.size < 2 ^ 62) (k a : Nat) (ha : a ≤ s.size) (hk : s.size < k) : lex_run.f k s (a : Int) (⟨#[48, 49, 50, 51, 52, 53, 54, 55, 56, 57, 97, 98, 99, 100, 101, 102]⟩ : ByteArray) = some ((run isHexC s a : Nat) : Int) :=
  run_f isHexC _ (fun c => by rw [← hexs_c]) s hs k a ha hk
theorem bits_f (s : ByteArray) (hs : s.size ≤ 4096) (a : Nat) (ha : a < s.size) (k : Nat) (hk : s.size < k) : lex_bits.f k s (a : Int) = some (out (bitsTok s a)) := by
  unfold lex_bits.f bitsTok
  rw [w64 (n := (a : Int) + 1) (by omega) (by omega), show ((a : Int) + 1) = ((a + 1 : Nat) : Int) by omega, run_hex s (by omega) k (a + 1) (by omega) hk, Option.bind_some]
  have hle := run_le isHexC s (a + 1) (by omega)
  have htk := take_run isHexC s (a + 1)
  generalize run isHexC s (a + 1) = d at hle htk ⊢
  by_cases h : d = 16
  · subst h
    rw [if_pos (show (((16 : Nat) : Nat) : Int) = 16 from rfl), if_pos (show (16 : Nat) = 16 from rfl), w64 (n := (a : Int) + 17) (by omega) (by omega), show ((a : Int) + 17) = ((a + 17 : Nat) : Int) by omega, if_pos (by omega), if_pos (by omega), if_pos (by omega)]
    simp only [Int.toNat_natCast]
    have hx : (s.extract (a + 1) (a + 17)).data.toList = (s.data.toList.drop (a + 1)).take 16 := by rw [ext_data, List.drop_take]; congr 1; omega
    have hpu : strconv_ParseUint.f (s.extract (a + 1) (a + 17)) 16 64 = some (((Idx.hexVal 0 ((s.data.toList.drop (a + 1)).take 16) : Nat) : Int), none) := by
      unfold strconv_ParseUint.f
      rw [if_pos rfl, if_pos rfl, if_pos (by rw [ext_size]; omega), hx, if_pos]
      rw [List.all_eq_true]
      intro c hc
      have := htk c hc
      rw [hex_dig] at this
      simpa using this
    rw [hpu, Option.bind_some, if_pos (by omega), if_pos (by omega)]
    rfl
  · rw [if_neg (by omega), if_neg h]; rfl

/-! ### signs -/
def two (s : ByteArray) (a : Nat) (x : Nat) : Bool := decide (a + 1 < s.size) && decide (byteAt s a = x) && decide (byteAt s (a + 1) = 61)
def signTok (s : ByteArray) (a : Nat) : Option Tok :=
  if two s a 33 || two s a 60 || two s a 62 then some (4, (a : Int), s.extract a (a + 2), 0, nul)
  else if singles.contains (UInt8.ofNat (byteAt s a)) then some (4, (a : Int), s.extract a (a + 1), 0, nul) else none

theorem prefix2 (s : ByteArray) (a : Nat) (ha : a < s.size) (x : UInt8) : strings_HasPrefix.f (s.extract a s.size) (⟨#[x, 61]⟩ : ByteArray) = some (two s a x.toNat) := by
  unfold strings_HasPrefix.f stringslite_HasPrefix.f two
  have hz : (s.extract a s.size).size = s.size - a := by rw [ext_size]; omega
  have h2 : (⟨#[x, 61]⟩ : ByteArray).size = 2 := rfl
  rw [h2, hz]
  by_cases h : a + 1 < s.size
  · rw [if_pos (by omega), if_pos (by decide), if_pos (by omega), Option.bind_some]
    have e : ((s.extract a s.size).extract 0 (((2 : Nat) : Int)).toNat).toList = [s.data.toList[a]'(by simpa using ha), s.data.toList[a + 1]'(by simpa using h)] := by
      rw [ByteArray.toList_eq, ext_data, ext_data, List.drop_zero, size_list, List.take_length]
      rw [List.drop_eq_getElem_cons (l := s.data.toList) (i := a) (by simpa using ha), List.drop_eq_getElem_cons (l := s.data.toList) (i := a + 1) (by simpa using h)]
      rfl
    have e2 : (⟨#[x, 61]⟩ : ByteArray).toList = [x, 61] := by rw [ByteArray.toList_eq]
    rw [e, e2, byteAt_get s a ha, byteAt_get s (a + 1) h]
    generalize s.data.toList[a]'(by simpa using ha) = c
    generalize s.data.toList[a + 1]'(by simpa using h) = d
    congr 1
    rw [Bool.eq_iff_iff]
    simp only [beq_iff_eq, List.cons.injEq, and_true, Bool.and_eq_true, decide_eq_true_eq]
    constructor
    · rintro ⟨rfl, rfl⟩; exact ⟨⟨h, rfl⟩, rfl⟩
    · rintro ⟨⟨_, h1⟩, h2⟩; exact ⟨UInt8.toNat.inj h1, UInt8.toNat.inj h2⟩
  · rw [if_neg (by omega), Option.bind_some]
    simp [h]

theorem two_text (s : ByteArray) (a : Nat) (ha : a < s.size) (x : UInt8) (h : two s a x.toNat = true) : (⟨#[x, 61]⟩ : ByteArray) = s.extract a (a + 2) := by
  unfold two at h
  simp only [Bool.and_eq_true, decide_eq_true_eq] at h
  obtain ⟨⟨h1, h2⟩, h3⟩ := h
  apply ext_list
  rw [ext_data, List.drop_take, List.drop_eq_getElem_cons (l := s.data.toList) (i := a) (by simpa using ha), List.drop_eq_getElem_cons (l := s.data.toList) (i := a + 1) (by simpa using h1)]
  rw [byteAt_get s a ha] at h2
  rw [byteAt_get s (a + 1) h1] at h3
  rw [UInt8.toNat.inj h2, UInt8.toNat.inj (show (s.data.toList[a + 1]'(by simpa using h1)).toNat = (61 : UInt8).toNat from h3), show a + 2 - a = 2 by omega]
  rfl

theorem sign_f (s : ByteArray) (hs : s.size ≤ 4096) (a : Nat) (ha : a < s.size) (k : Nat) : lex_sign.f (k + 4) s (a : Int) = some (out (signTok s a)) := by
  unfold lex_sign.f
  rw [Option.bind_some]
  have p33 := prefix2 s a ha 33
  have p60 := prefix2 s a ha 60
  have p62 := prefix2 s a ha 62
  have t33 := two_text s a ha 33
  have t60 := two_text s a ha 60
  have t62 := two_text s a ha 62
  have r0 : rdOf ByteArray.empty [(⟨#[33, 61]⟩ : ByteArray), ⟨#[60, 61]⟩, ⟨#[62, 61]⟩] 0 = ⟨#[33, 61]⟩ := rfl
  have r1 : rdOf ByteArray.empty [(⟨#[33, 61]⟩ : ByteArray), ⟨#[60, 61]⟩, ⟨#[62, 61]⟩] 1 = ⟨#[60, 61]⟩ := rfl
  have r2 : rdOf ByteArray.empty [(⟨#[33, 61]⟩ : ByteArray), ⟨#[60, 61]⟩, ⟨#[62, 61]⟩] 2 = ⟨#[62, 61]⟩ := rfl
  have hl : (([(⟨#[33, 61]⟩ : ByteArray), ⟨#[60, 61]⟩, ⟨#[62, 61]⟩] : List ByteArray).length : Int) = 3 := rfl
  rw [hl]
  unfold signTok
  have e33 : ((33 : UInt8).toNat) = 33 := rfl
  have e60 : ((60 : UInt8).toNat) = 60 := rfl
  have e62 : ((62 : UInt8).toNat) = 62 := rfl
  rw [e33] at p33 t33
  rw [e60] at p60 t60
  rw [e62] at p62 t62
  simp only [lex_sign.l0]
  rw [if_pos (by decide), if_pos (by decide), hl, if_pos (by decide), if_pos (by omega), if_pos (by omega), r0, Int.toNat_natCast, p33, Option.bind_some]
  cases h33 : two s a 33
  · rw [if_neg (by decide), show wrap64 (0 + 1) = 1 from by unfold wrap64; omega, if_pos (by decide), if_pos (by decide), if_pos (by decide), if_pos (by omega), if_pos (by omega), r1, p60, Option.bind_some]
    cases h60 : two s a 60
    · rw [if_neg (by decide), show wrap64 (1 + 1) = 2 from by unfold wrap64; omega, if_pos (by decide), if_pos (by decide), if_pos (by decide), if_pos (by omega), if_pos (by omega), r2, p62, Option.bind_some]
      cases h62 : two s a 62
      · rw [if_neg (by decide), show wrap64 (2 + 1) = 3 from by unfold wrap64; omega, if_neg (by decide), if_pos (by omega), if_pos (by omega), bt_byteAt]
        unfold strings_IndexByte.f
        rw [Option.bind_some]
        have hc := Lib.contains_iff_indexByte singles (UInt8.ofNat (byteAt s a))
        have hb : (((byteAt s a : Nat) : Int)).toNat.toUInt8 = UInt8.ofNat (byteAt s a) := rfl
        rw [hb, show (⟨#[40, 41, 91, 93, 123, 125, 44, 59, 124, 42, 43, 63, 33, 61, 60, 62, 47]⟩ : ByteArray).data.toList = singles from rfl]
        cases hq : singles.contains (UInt8.ofNat (byteAt s a))
        · rw [hq] at hc
          have : ¬ (0 ≤ Lib.indexByte singles (UInt8.ofNat (byteAt s a))) := of_decide_eq_false hc.symm
          rw [if_pos (by omega)]; rfl
        · rw [hq] at hc
          have : 0 ≤ Lib.indexByte singles (UInt8.ofNat (byteAt s a)) := of_decide_eq_true hc.symm
          rw [if_neg (by omega), w64 (n := (a : Int) + 1) (by omega) (by omega), show ((a : Int) + 1) = ((a + 1 : Nat) : Int) by omega, if_pos (by omega), if_pos (by omega)]
          simp only [Int.toNat_natCast]; rfl
      · rw [if_pos rfl, if_pos (by decide), t62 h62]; rfl
    · rw [if_pos rfl, if_pos (by simp), t60 h60]; rfl
  · rw [if_pos rfl, if_pos (by simp), t33 h33]; rfl

end Go.Proofs.YtgillodpbkpecaaDoor.Lex
