/- The tokens that the program finds at a place: each by a plain function over lists. -/
import Derived.Test.YtgillodpbkpecaaDoorPLxx5
import Derived.Lib.AtoiAll
namespace Go.Proofs.YtgillodpbkpecaaDoor.Lex
open Go.RowKit Go.Proofs.YtgillodpbkpecaaDoorW.PrintWords Go.Proofs.YtgillodpbkpecaaDoorW.PrintLast Go.Proofs.YtgillodpbkpecaaDoorW.PrintMore Go.Proofs.YtgillodpbkpecaaDoor.Ext Go.Proofs.YtgillodpbkpecaaDoor.PLx

abbrev nul : ByteArray := ⟨#[]⟩
theorem w64 {n : Int} (h0 : -9223372036854775808 ≤ n) (h1 : n ≤ 9223372036854775807) : wrap64 n = n := by unfold wrap64; omega
theorem size_list (a : ByteArray) : a.size = a.data.toList.length := rfl
theorem bt_get (s : ByteArray) (i : Nat) (h : i < s.size) : bt s (i : Int) = ((s.data.toList[i]'(by simpa using h)).toNat : Int) := by
  unfold bt; simp only [Int.toNat_natCast]; rw [dif_pos h]; rfl
theorem ext_data (a : ByteArray) (i j : Nat) : (a.extract i j).data.toList = (a.data.toList.take j).drop i := by
  rw [ByteArray.data_extract, Array.toList_extract, List.extract_eq_take_drop, List.drop_take]
theorem ext_list {a b : ByteArray} (h : a.data.toList = b.data.toList) : a = b := ByteArray.ext (Array.ext' h)
theorem ext_size (a : ByteArray) (i j : Nat) : (a.extract i j).size = min j a.size - i := by simp [ByteArray.size_extract]

def isDigit (c : UInt8) : Bool := decide (48 ≤ c.toNat) && decide (c.toNat ≤ 57)
def isSmall (c : UInt8) : Bool := decide (97 ≤ c.toNat) && decide (c.toNat ≤ 122)
def isWordC (c : UInt8) : Bool := isSmall c || isDigit c || decide (c.toNat = 95)
def isHexC (c : UInt8) : Bool := isDigit c || (decide (97 ≤ c.toNat) && decide (c.toNat ≤ 102))
def isBlank (c : UInt8) : Bool := decide (c.toNat = 32) || decide (c.toNat = 9) || decide (c.toNat = 10) || decide (c.toNat = 13)
def isEnd (c : UInt8) : Bool := decide (c.toNat = 39) || decide (c.toNat = 10) || decide (c.toNat = 13)
def singles : List UInt8 := [40, 41, 91, 93, 123, 125, 44, 59, 124, 42, 43, 63, 33, 61, 60, 62, 47]

theorem all256 {p : UInt8 → Prop} [DecidablePred p] (h : ∀ n : Fin 256, p (UInt8.ofNat n.val)) (c : UInt8) : p c := by
  have := h ⟨c.toNat, c.toNat_lt⟩
  simpa using this
theorem digits_c (c : UInt8) : ([48, 49, 50, 51, 52, 53, 54, 55, 56, 57] : List UInt8).contains c = isDigit c := all256 (p := fun c => ([48, 49, 50, 51, 52, 53, 54, 55, 56, 57] : List UInt8).contains c = isDigit c) (by decide +kernel) c
theorem blanks_c (c : UInt8) : ([32, 9, 10, 13] : List UInt8).contains c = isBlank c := all256 (p := fun c => ([32, 9, 10, 13] : List UInt8).contains c = isBlank c) (by decide +kernel) c
theorem ends_c (c : UInt8) : ([39, 10, 13] : List UInt8).contains c = isEnd c := all256 (p := fun c => ([39, 10, 13] : List UInt8).contains c = isEnd c) (by decide +kernel) c
theorem hexs_c (c : UInt8) : ([48, 49, 50, 51, 52, 53, 54, 55, 56, 57, 97, 98, 99, 100, 101, 102] : List UInt8).contains c = isHexC c := all256 (p := fun c => ([48, 49, 50, 51, 52, 53, 54, 55, 56, 57, 97, 98, 99, 100, 101, 102] : List UInt8).contains c = isHexC c) (by decide +kernel) c
theorem words_c (c : UInt8) : ([97, 98, 99, 100, 101, 102, 103, 104, 105, 106, 107, 108, 109, 110, 111, 112, 113, 114, 115, 116, 117, 118, 119, 120, 121, 122, 48, 49, 50, 51, 52, 53, 54, 55, 56, 57, 95] : List UInt8).contains c = isWordC c := all256 (p := fun c => ([97, 98, 99, 100, 101, 102, 103, 104, 105, 106, 107, 108, 109, 110, 111, 112, 113, 114, 115, 116, 117, 118, 119, 120, 121, 122, 48, 49, 50, 51, 52, 53, 54, 55, 56, 57, 95] : List UInt8).contains c = isWordC c) (by decide +kernel) c
theorem hex_dig (c : UInt8) : isHexC c = decide (Idx.hexDig c ≠ 16) := all256 (p := fun c => isHexC c = decide (Idx.hexDig c ≠ 16)) (by decide +kernel) c

/-- how many bytes from a place on are of a kind. -/
def runL (p : UInt8 → Bool) (l : List UInt8) : Nat := (l.takeWhile p).length
theorem runL_le (p : UInt8 → Bool) (l : List UInt8) : runL p l ≤ l.length := (List.takeWhile_prefix p).length_le
theorem runL_cons (p : UInt8 → Bool) (c : UInt8) (l : List UInt8) : runL p (c :: l) = if p c = true then runL p l + 1 else 0 := by
  unfold runL; rw [List.takeWhile_cons]; split <;> simp
/-- at a place. -/
def run (p : UInt8 → Bool) (s : ByteArray) (i : Nat) : Nat := runL p (s.data.toList.drop i)
theorem run_le (p : UInt8 → Bool) (s : ByteArray) (i : Nat) (h : i ≤ s.size) : i + run p s i ≤ s.size := by
  have := runL_le p (s.data.toList.drop i); rw [List.length_drop, ← size_list] at this; unfold run; omega
theorem run_yes (p : UInt8 → Bool) (s : ByteArray) (i : Nat) (h : i < s.size) (hp : p (s.data.toList[i]'(by simpa using h)) = true) : run p s i = run p s (i + 1) + 1 := by
  unfold run; rw [List.drop_eq_getElem_cons (l := s.data.toList) (i := i) (by simpa using h), runL_cons, if_pos hp]
theorem run_no (p : UInt8 → Bool) (s : ByteArray) (i : Nat) (h : i < s.size) (hp : p (s.data.toList[i]'(by simpa using h)) = false) : run p s i = 0 := by
  unfold run; rw [List.drop_eq_getElem_cons (l := s.data.toList) (i := i) (by simpa using h), runL_cons, if_neg (by rw [hp]; exact Bool.false_ne_true)]
theorem run_end (p : UInt8 → Bool) (s : ByteArray) (i : Nat) (h : s.size ≤ i) : run p s i = 0 := by
  unfold run; rw [List.drop_of_length_le (by rw [← size_list]; exact h)]; rfl
/-- each byte within a run is of the kind. -/
theorem run_inside (p : UInt8 → Bool) (s : ByteArray) : ∀ (d i : Nat), d < run p s i → ∃ h : i + d < s.size, p (s.data.toList[i + d]'(by simpa using h)) = true
  | 0, i, h => by
    rcases Nat.lt_or_ge i s.size with hi | hi
    · cases hp : p (s.data.toList[i]'(by simpa using hi))
      · rw [run_no p s i hi hp] at h; omega
      · exact ⟨hi, hp⟩
    · rw [run_end p s i hi] at h; omega
  | d + 1, i, h => by
    rcases Nat.lt_or_ge i s.size with hi | hi
    · cases hp : p (s.data.toList[i]'(by simpa using hi))
      · rw [run_no p s i hi hp] at h; omega
      · rw [run_yes p s i hi hp] at h
        obtain ⟨h1, h2⟩ := run_inside p s d (i + 1) (by omega)
        have e : i + 1 + d = i + (d + 1) := by omega
        refine ⟨by omega, ?_⟩
        simp only [e] at h2
        exact h2
    · rw [run_end p s i hi] at h; omega

theorem run_l0 (p : UInt8 → Bool) (among : ByteArray) (hp : ∀ c, among.data.toList.contains c = p c) (s : ByteArray) (hs : s.size < 2 ^ 62) (a : Nat) (ha : a ≤ s.size) : ∀ (d k i : Nat), i + d = s.size → d < k →
    lex_run.l0 k s (a : Int) among (i : Int) = some (((i + run p s i : Nat) : Int) - (a : Int))
  | 0, k + 1, i, hd, _ => by
    simp only [lex_run.l0]
    rw [if_neg (by omega), run_end p s i (by omega), w64 (by omega) (by omega)]; rfl
  | d + 1, k + 1, i, hd, hk => by
    have hi : i < s.size := by omega
    simp only [lex_run.l0]
    rw [if_pos (by omega), if_pos (by omega), bt_get s i hi]
    unfold strings_IndexByte.f
    simp only [Option.bind_some]
    have hc := Lib.contains_iff_indexByte among.data.toList (s.data.toList[i]'(by simpa using hi))
    rw [hp] at hc
    have hb : ((((s.data.toList[i]'(by simpa using hi)).toNat : Nat) : Int).toNat.toUInt8) = s.data.toList[i]'(by simpa using hi) := by simp
    rw [hb]
    cases hq : p (s.data.toList[i]'(by simpa using hi))
    · rw [hq] at hc
      have : ¬ (0 ≤ Lib.indexByte among.data.toList (s.data.toList[i]'(by simpa using hi))) := of_decide_eq_false hc.symm
      rw [if_neg this, run_no p s i hi hq, w64 (by omega) (by omega)]; rfl
    · rw [hq] at hc
      have : 0 ≤ Lib.indexByte among.data.toList (s.data.toList[i]'(by simpa using hi)) := of_decide_eq_true hc.symm
      rw [if_pos this, w64 (by omega) (by omega), show ((i : Int) + 1) = ((i + 1 : Nat) : Int) by omega, run_l0 p among hp s hs a ha d k (i + 1) (by omega) (by omega), run_yes p s i hi hq]
      congr 1; omega

theorem run_f (p : UInt8 → Bool) (among : ByteArray) (hp : ∀ c, among.data.toList.contains c = p c) (s : ByteArray) (hs : s.size < 2 ^ 62) (k a : Nat) (ha : a ≤ s.size) (hk : s.size < k) :
    lex_run.f k s (a : Int) among = some ((run p s a : Nat) : Int) := by
  unfold lex_run.f
  rw [run_l0 p among hp s hs a ha (s.size - a) k a (by omega) (by omega)]
  congr 1; omega

theorem run_digit (s : ByteArray) (hs : s.size < 2 ^ 62) (k a : Nat) (ha : a ≤ s.size) (hk : s.size < k) : lex_run.f k s (a : Int) (⟨#[48, 49, 50, 51, 52, 53, 54, 55, 56, 57]⟩ : ByteArray) = some ((run isDigit s a : Nat) : Int) :=
  run_f isDigit _ (fun c => by rw [← digits_c c]) s hs k a ha hk

/-! ### numbers -/
def decVal (acc : Nat) (l : List UInt8) : Nat := l.foldl (fun a c => 10 * a + (c.toNat - 48)) acc
theorem decVal_lt : ∀ (l : List UInt8) (acc m : Nat), (∀ c ∈ l, isDigit c = true) → acc < 10 ^ m → decVal acc l < 10 ^ (m + l.length)
  | [], acc, m, _, h => by simpa [decVal] using h
  | c :: l, acc, m, hd, h => by
    have hc := hd c (by simp)
    simp only [isDigit, Bool.and_eq_true, decide_eq_true_eq] at hc
    have := decVal_lt l (10 * acc + (c.toNat - 48)) (m + 1) (fun d hd' => hd d (by simp [hd'])) (by rw [Nat.pow_succ]; omega)
    rw [List.length_cons, show m + (l.length + 1) = m + 1 + l.length by omega]
    exact this
theorem parse_dec : ∀ (l : List UInt8) (acc m : Nat), (∀ c ∈ l, isDigit c = true) → acc < 10 ^ m → m + l.length ≤ 18 → Lib.parseUint10 acc l = .ok (decVal acc l)
  | [], acc, m, _, _, _ => rfl
  | c :: l, acc, m, hd, h, hm => by
    have hc := hd c (by simp)
    simp only [isDigit, Bool.and_eq_true, decide_eq_true_eq] at hc
    rw [List.length_cons] at hm
    have h17 : acc < 10 ^ 17 := Nat.lt_of_lt_of_le h (Nat.pow_le_pow_right (by decide) (by omega))
    have h17' : (10 : Nat) ^ 17 = 100000000000000000 := by decide
    simp only [Lib.parseUint10]
    rw [if_pos hc, if_neg (by omega), if_neg (by omega)]
    have := parse_dec l (acc * 10 + (c.toNat - 48)) (m + 1) (fun d hd' => hd d (by simp [hd'])) (by rw [Nat.pow_succ]; omega) (by omega)
    rw [this]
    simp only [decVal, List.foldl_cons]
    rw [Nat.mul_comm acc 10]

/-- the value of a number's text. -/
def numVal (neg : Bool) (l : List UInt8) : Int := if neg then -((decVal 0 l : Nat) : Int) else ((decVal 0 l : Nat) : Int)
theorem atoi_pos (s : ByteArray) (h1 : 1 ≤ s.size) (h18 : s.size ≤ 18) (hd : ∀ c ∈ s.data.toList, isDigit c = true) : strconv_Atoi.f s = some (numVal false s.data.toList, none) := by
  unfold strconv_Atoi.f
  rw [if_pos (by omega)]
  have hlt := decVal_lt s.data.toList 0 0 hd (by decide)
  have hp := parse_dec s.data.toList 0 0 hd (by decide) (by rw [← size_list]; omega)
  have h18' : (10 : Nat) ^ (0 + s.data.toList.length) ≤ 10 ^ 18 := Nat.pow_le_pow_right (by decide) (by rw [← size_list]; omega)
  have h18'' : (10 : Nat) ^ 18 = 1000000000000000000 := by decide
  rw [size_list] at h1
  generalize s.data.toList = l at *
  match l, h1 with
  | c :: r, _ =>
    have hc := hd c (by simp)
    simp only [isDigit, Bool.and_eq_true, decide_eq_true_eq] at hc
    have e : (if c.toNat = 43 ∨ c.toNat = 45 then r else c :: r) = c :: r := if_neg (by omega)
    simp only [Lib.atoiAll]
    rw [e]
    unfold Lib.parseMag
    rw [if_neg (List.cons_ne_nil _ _), hp]
    simp only
    rw [if_neg (by omega), if_neg (by omega), if_neg (by omega)]
    rfl
theorem atoi_neg (s : ByteArray) (r : List UInt8) (hs : s.data.toList = 45 :: r) (h1 : 1 ≤ r.length) (h18 : r.length ≤ 18) (hd : ∀ c ∈ r, isDigit c = true) : strconv_Atoi.f s = some (numVal true r, none) := by
  unfold strconv_Atoi.f
  rw [if_pos (by rw [size_list, hs, List.length_cons]; omega)]
  have hlt := decVal_lt r 0 0 hd (by decide)
  have hp := parse_dec r 0 0 hd (by decide) (by omega)
  have h18' : (10 : Nat) ^ (0 + r.length) ≤ 10 ^ 18 := Nat.pow_le_pow_right (by decide) (by omega)
  have h18'' : (10 : Nat) ^ 18 = 1000000000000000000 := by decide
  rw [hs]
  have hr : r ≠ [] := by intro e; rw [e] at h1; simp at h1
  have h45 : (45 : UInt8).toNat = 45 := rfl
  have e : (if (45 : UInt8).toNat = 43 ∨ (45 : UInt8).toNat = 45 then r else 45 :: r) = r := if_pos (.inr rfl)
  simp only [Lib.atoiAll]
  rw [e]
  unfold Lib.parseMag
  rw [if_neg hr, hp]
  simp only
  rw [if_neg (fun h => h.1 rfl), if_neg (by omega)]
  simp [numVal]

/-- a token: kind, place, text, number, what stands between quotes. -/
abbrev Tok := Int × Int × ByteArray × Int × ByteArray
def out : Option Tok → Int × Int × ByteArray × Int × ByteArray × Bool
  | some (k, a, t, n, z) => (k, a, t, n, z, true)
  | none => (0, 0, nul, 0, nul, false)

def byteAt (s : ByteArray) (i : Nat) : Nat := (bt s (i : Int)).toNat
theorem bt_byteAt (s : ByteArray) (i : Nat) : bt s (i : Int) = ((byteAt s i : Nat) : Int) := by
  have := bt_range s (i : Int); unfold byteAt; omega
theorem byteAt_get (s : ByteArray) (i : Nat) (h : i < s.size) : byteAt s i = (s.data.toList[i]'(by simpa using h)).toNat := by
  unfold byteAt; rw [bt_get s i h]; simp

def numTok (s : ByteArray) (a : Nat) : Option Tok :=
  let g := if byteAt s a = 45 then 1 else 0
  let d := run isDigit s (a + g)
  if d < 1 ∨ 18 < d ∨ (1 < d ∧ byteAt s (a + g) = 48) then none
  else some (2, (a : Int), s.extract a (a + g + d), numVal (decide (g = 1)) ((s.data.toList.drop (a + g)).take d), nul)

theorem take_run (p : UInt8 → Bool) (s : ByteArray) (a : Nat) : ∀ c ∈ (s.data.toList.drop a).take (run p s a), p c = true := by
  unfold run runL
  intro c hc
  have : (s.data.toList.drop a).take (((s.data.toList.drop a).takeWhile p).length) = (s.data.toList.drop a).takeWhile p := (List.prefix_iff_eq_take.1 (List.takeWhile_prefix p)).symm
  rw [this] at hc
  exact List.all_eq_true.1 List.all_takeWhile c hc

theorem digs : (⟨#[48, 49, 50, 51, 52, 53, 54, 55, 56, 57]⟩ : ByteArray).data.toList = [48, 49, 50, 51, 52, 53, 54, 55, 56, 57] := rfl

theorem atoi_tok (s : ByteArray) (a : Nat) (ha : a < s.size) (g : Nat) (hg : g = if byteAt s a = 45 then 1 else 0) (d : Nat) (h1 : ¬ d < 1) (h18 : ¬ 18 < d) (hle : a + g + d ≤ s.size) (htk : ∀ c ∈ (s.data.toList.drop (a + g)).take d, isDigit c = true) :
    strconv_Atoi.f (s.extract a (a + g + d)) = some (numVal (decide (g = 1)) ((s.data.toList.drop (a + g)).take d), none) := by
  have hg1 : g ≤ 1 := by rw [hg]; split <;> omega
  have hx : (s.extract a (a + g + d)).data.toList = (s.data.toList.drop a).take (g + d) := by rw [ext_data, List.drop_take]; congr 1; omega
  by_cases hg0 : g = 0
  · subst hg0
    have e : (s.extract a (a + 0 + d)).data.toList = (s.data.toList.drop (a + 0)).take d := by rw [hx]; simp
    rw [atoi_pos _ (by rw [ext_size]; omega) (by rw [ext_size]; omega) (by rw [e]; exact htk), e]
    rfl
  · have hg1' : g = 1 := by omega
    subst hg1'
    have h45 : byteAt s a = 45 := by
      by_cases h : byteAt s a = 45
      · exact h
      · rw [if_neg h] at hg; omega
    have hc45 : (s.data.toList[a]'(by simpa using ha)) = 45 := by
      rw [byteAt_get s a ha] at h45
      exact UInt8.toNat.inj h45
    have e : (s.extract a (a + 1 + d)).data.toList = 45 :: (s.data.toList.drop (a + 1)).take d := by
      rw [hx, List.drop_eq_getElem_cons (l := s.data.toList) (i := a) (by simpa using ha), hc45, show 1 + d = d + 1 by omega, List.take_succ_cons]
    have hlen : ((s.data.toList.drop (a + 1)).take d).length = d := by rw [List.length_take, List.length_drop, ← size_list]; omega
    rw [atoi_neg _ _ e (by omega) (by omega) htk]
    rfl

end Go.Proofs.YtgillodpbkpecaaDoor.Lex
