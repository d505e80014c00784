/- book: a book as the program holds it; its small functions. · What stands at the front of bytes, as a number: plain. · A tape: bytes that are read from the front on. -/
import Derived.Test.YtiomhmdkaglelaaG12
import Derived.Test.YtiomhmdkaglelaaG1
import Derived.Test.YtiomhmdkaglelaaG2
import Derived.Laws.IdiomStrings
import Derived.Lib.Hide
namespace Go.Proofs.Ytiomhmdkaglelaa
open Go.RowKit
set_option linter.unusedSimpArgs false
set_option linter.unusedVariables false
/-- A book: its base, its matches (each: its slice, its picks). -/
structure Bk where
  base : Int
  l : List (Value × List Int)
/-- Block b is a book that is read (its row may have been cut by drop: its capacity is then no more than its length); all its memory lies in S. -/
def BookAt (w : World) (S : Nat → Prop) (b : Nat) (B : Bk) : Prop :=
  ∃ v, w.heap[b]? = some (.cells #[.int .i64 B.base, v] 72 (0, 0)) ∧ S b ∧ Mem.Rd w (fun k => S k ∧ k ≠ b) 1 v (B.l.map pk) ∧ ∀ p, p ∈ B.l → IntsR w (fun k => S k ∧ k ≠ b) p.1 p.2
theorem BookAt.step {w w1 : World} {S S' : Nat → Prop} {b : Nat} {B : Bk} (h : BookAt w S b B) (hs : w.heap.size ≤ w1.heap.size) (hm : ∀ k, S k → k < w.heap.size → w1.heap[k]? = w.heap[k]?) (hS : ∀ k, S k → S' k) : BookAt w1 S' b B := by
  obtain ⟨v, hb, sb, hw, hf⟩ := h
  exact ⟨v, (hm b sb (Mem.lt hb)).trans hb, hS b sb, (hw.step hs (fun k hk hl => hm k hk.1 hl)).mono (fun k hk => ⟨hS k hk.1, hk.2⟩), fun p hp => ((hf p hp).step hs (fun k hk hl => hm k hk.1 hl)).mono (fun k hk => ⟨hS k hk.1, hk.2⟩)⟩
theorem BookAt.below {w w1 : World} {S : Nat → Prop} {b : Nat} {B : Bk} (h : BookAt w S b B) (hb : Below w.heap.size w w1) : BookAt w1 S b B := h.step hb.size (fun k _ hk => hb.block k hk) (fun _ h => h)
theorem BookAt.mono {w : World} {S S' : Nat → Prop} {b : Nat} {B : Bk} (h : BookAt w S b B) (hS : ∀ k, S k → S' k) : BookAt w S' b B := h.step (Nat.le_refl _) (fun _ _ _ => rfl) hS
set_option maxRecDepth 100000 in
set_option maxHeartbeats 2000000 in
theorem BkNew_any (w : World) : Calls Try.prog 6 #[] w fun r w' => ∃ b, r = .returned (.pointer (some ⟨b, 0, none⟩)) ∧ BookAt w' (fun k => w.heap.size ≤ k ∧ k < w'.heap.size) b ⟨0, []⟩ ∧ Below w.heap.size w w' := by
  have hx := Mem.new w (.cells #[.int .i64 0, .slice none 0 0] 72)
  have hb : Below w.heap.size w (w.alloc (.cells #[.int .i64 0, .slice none 0 0] 72)) := (Below.refl _ w).alloc (Nat.le_refl _) _
  have H := Lib.hid (And.intro hx hb)
  clear hx hb
  go_enter Try.func6, Try.ntmps6
  go_wp2_with fail
  go_ret
  exact ⟨_, rfl, ⟨_, H.out.1, ⟨Nat.le_refl _, by simp⟩, Mem.Rd.nil _ _ _, (fun p hp => by cases hp)⟩, H.out.2⟩
set_option maxRecDepth 100000 in
set_option maxHeartbeats 2000000 in
theorem BkBase_any (S : Nat → Prop) (b : Nat) (B : Bk) (w : World) (h : BookAt w S b B) : Calls Try.prog 28 #[.pointer (some ⟨b, 0, none⟩)] w fun r w' => r = .returned (.int .i64 B.base) ∧ w' = w := by
  obtain ⟨v, hb, _⟩ := h
  have c0 : w.cell? ⟨b, 0, none⟩ = some (.int .i64 B.base) := Mem.cell hb rfl
  clear hb
  go_enter Try.func28, Try.ntmps28
  go_wp2_with fail
  go_ret
  exact ⟨rfl, rfl⟩
set_option maxRecDepth 100000 in
set_option maxHeartbeats 2000000 in
theorem BkEnd_any (S : Nat → Prop) (b : Nat) (B : Bk) (w : World) (h : BookAt w S b B) (h0 : 0 ≤ B.base ∧ B.base ≤ 1099511627776) (hl : B.l.length ≤ 100000) : Calls Try.prog 29 #[.pointer (some ⟨b, 0, none⟩)] w fun r w' => r = .returned (.int .i64 (B.base + (B.l.length : Int))) ∧ Below w.heap.size w w' := by
  obtain ⟨v, hb, _, hq, _⟩ := h
  obtain ⟨A, c, rfl⟩ := hq.slice
  rw [List.length_map] at hb
  have c0 : w.cell? ⟨b, 0, none⟩ = some (.int .i64 B.base) := Mem.cell hb rfl
  have c1 : w.cell? ⟨b, 1, none⟩ = some (.slice A B.l.length c) := Mem.cell hb rfl
  obtain ⟨x, hx⟩ : ∃ x, B.base = x := ⟨_, rfl⟩
  obtain ⟨n, hn⟩ : ∃ n, B.l.length = n := ⟨_, rfl⟩
  rw [hx] at h0 c0 ⊢
  rw [hn] at hl c1 ⊢
  clear hb hq hx hn
  have hw : IntKind.i64.wrap (x + (n : Int)) = x + (n : Int) := by simp [IntKind.wrap, IntKind.bits, IntKind.signed]; omega
  go_enter Try.func29, Try.ntmps29
  go_wp2_with fail
  go_quiet (fail)
  go_wp2_with fail
  go_ret
  exact ⟨rfl, by first | exact Below.refl _ _ | exact Mem.bdrewN (Below.refl _ _) _⟩
end Go.Proofs.Ytiomhmdkaglelaa
namespace Go.Proofs.Ytiomhmdkaglelaa.Sp
/-- The number that bytes say, the highest first. -/
def val (l : List UInt8) : Nat := l.foldl (fun a b => a * 256 + b.toNat) 0
theorem foldl_val : ∀ (l : List UInt8) (a : Nat), l.foldl (fun a b => a * 256 + b.toNat) a = a * 256 ^ l.length + val l
  | [], a => by simp [val]
  | c :: l, a => by
    rw [List.foldl_cons, foldl_val l]
    unfold val
    rw [List.foldl_cons, foldl_val l (0 * 256 + c.toNat), List.length_cons, Nat.pow_succ]
    simp only [Nat.zero_mul, Nat.zero_add, val]
    rw [Nat.add_mul, Nat.mul_assoc, Nat.mul_comm 256 (256 ^ l.length), Nat.add_assoc]
theorem val_cons (c : UInt8) (l : List UInt8) : val (c :: l) = c.toNat * 256 ^ l.length + val l := by
  show (c :: l).foldl _ 0 = _
  rw [List.foldl_cons, foldl_val]
  simp
theorem val_snoc (l : List UInt8) (c : UInt8) : val (l ++ [c]) = val l * 256 + c.toNat := by simp [val]
theorem val_lt : ∀ l : List UInt8, val l < 256 ^ l.length
  | [] => by simp [val]
  | c :: l => by
    have h := val_lt l
    have hc : c.toNat < 256 := c.toNat_lt
    rw [val_cons, List.length_cons, Nat.pow_succ]
    have : c.toNat * 256 ^ l.length ≤ 255 * 256 ^ l.length := Nat.mul_le_mul_right _ (by omega)
    omega
theorem val_be : ∀ (k n : Nat), val (be k n) = n % 256 ^ k
  | 0, n => by simp [be, val, Nat.mod_one]
  | k + 1, n => by
    rw [be, val_cons, be_length, val_be k n, Nat.pow_succ, UInt8.toNat_ofNat']
    rw [Nat.mod_mul, Nat.mul_comm (256 ^ k), Nat.add_comm]
theorem be_val : ∀ l : List UInt8, be l.length (val l) = l
  | [] => rfl
  | c :: l => by
    have hlt := val_lt l
    have hp : 0 < 256 ^ l.length := Nat.pow_pos (by decide)
    rw [List.length_cons, be, val_cons]
    have e1 : (c.toNat * 256 ^ l.length + val l) / 256 ^ l.length = c.toNat := by
      rw [Nat.mul_comm, Nat.mul_add_div hp, Nat.div_eq_of_lt hlt, Nat.add_zero]
    have e2 : be l.length (c.toNat * 256 ^ l.length + val l) = be l.length (val l) := by
      have hb : ∀ (k m : Nat) (x y : Nat), k ≤ m → be k (x * 256 ^ m + y) = be k y := by
        intro k
        induction k with
        | zero => intros; rfl
        | succ k ih =>
          intro m x y hk
          rw [be, be, ih m x y (by omega)]
          congr 1
          apply UInt8.toNat_inj.1
          rw [UInt8.toNat_ofNat', UInt8.toNat_ofNat']
          obtain ⟨d, rfl⟩ : ∃ d, m = k + 1 + d := ⟨m - (k + 1), by omega⟩
          rw [Nat.pow_add, Nat.pow_succ, show x * (256 ^ k * 256 * 256 ^ d) = 256 ^ k * (x * 256 ^ d * 256) by ac_rfl, Nat.mul_add_div (Nat.pow_pos (by decide)), Nat.add_comm, Nat.add_mul_mod_self_right]
      exact hb _ _ _ _ (Nat.le_refl _)
    rw [e1, e2, be_val l, UInt8.ofNat_toNat]
/-- The number at the front, how many bytes it has, the error (5 short, 3 form). -/
def rdN : List UInt8 → Nat × Nat × Int
  | [] => (0, 0, 5)
  | c :: r => if c.toNat ≤ 247 then (c.toNat, 1, 0) else if r.length < c.toNat - 247 then (0, 0, 5)
    else if r.headD 0 = 0 ∨ val (r.take (c.toNat - 247)) ≤ 247 then (0, 0, 3) else (val (r.take (c.toNat - 247)), c.toNat - 247 + 1, 0)
theorem width_ge : ∀ f n, 256 ^ (width f n - 1) ≤ n ∨ n < 256
  | 0, n => by simp only [width]; by_cases h : n < 256; exact .inr h; exact .inl (by simp; omega)
  | f + 1, n => by
    unfold width
    by_cases h : n < 256
    · exact .inr h
    · rw [if_neg h]
      refine .inl ?_
      have hp := width_pos f (n / 256)
      rcases width_ge f (n / 256) with h1 | h1
      · rw [show width f (n / 256) + 1 - 1 = width f (n / 256) - 1 + 1 by omega, Nat.pow_succ]
        exact Nat.le_trans (Nat.mul_le_mul_right 256 h1) (Nat.div_mul_le_self n 256)
      · cases f with
        | zero => simp [width]; omega
        | succ f => unfold width; rw [if_pos h1]; simp; omega
theorem wd_ge (n : Nat) (h : 256 ≤ n) : 256 ^ (wd n - 1) ≤ n := (width_ge 8 n).resolve_right (by omega)
theorem num_small_len (n : Nat) (h : n ≤ 247) : num n = [UInt8.ofNat n] := by unfold num; rw [if_pos h]
theorem num_great (n : Nat) (h : 247 < n) : num n = UInt8.ofNat (247 + wd n) :: be (wd n) n := by unfold num; rw [if_neg (by omega)]
/-- What is written is read. -/
theorem rdN_num (n : Nat) (h : n < 18446744073709551616) (rest : List UInt8) : rdN (num n ++ rest) = (n, (num n).length, 0) := by
  by_cases hs : n ≤ 247
  · rw [num_small_len n hs]
    simp only [List.cons_append, List.nil_append, rdN, UInt8.toNat_ofNat', List.length_singleton]
    rw [Nat.mod_eq_of_lt (by omega), if_pos hs]
  · have hw := wd_le n h
    have hp := wd_pos n
    rw [num_great n (by omega)]
    simp only [List.cons_append, rdN, UInt8.toNat_ofNat']
    rw [Nat.mod_eq_of_lt (by omega), if_neg (by omega), show 247 + wd n - 247 = wd n by omega, List.length_append, be_length, if_neg (by omega), List.take_left' (be_length _ _), val_be]
    have hlt : n < 256 ^ wd n := (wd_lt n (wd n) hp hw).2 (Nat.le_refl _)
    rw [Nat.mod_eq_of_lt hlt, if_neg, List.length_cons, be_length]
    rintro (h0 | h0)
    · obtain ⟨k, hk⟩ : ∃ k, wd n = k + 1 := ⟨wd n - 1, by omega⟩
      rw [hk, be, List.cons_append, List.headD_cons] at h0
      have h1 := congrArg UInt8.toNat h0
      rw [UInt8.toNat_ofNat'] at h1
      have hq : n / 256 ^ k < 256 := by rw [hk, Nat.pow_succ] at hlt; exact Nat.div_lt_of_lt_mul hlt
      rw [Nat.mod_eq_of_lt hq] at h1
      have hq1 : 1 ≤ n / 256 ^ k := by
        rw [Nat.le_div_iff_mul_le (Nat.pow_pos (by decide)), Nat.one_mul]
        by_cases hb : 256 ≤ n
        · have := wd_ge n hb; rw [hk] at this; exact this
        · have : wd n ≤ 1 := (wd_lt n 1 (by omega) (by omega)).1 (by omega)
          have hk0 : k = 0 := by omega
          subst hk0
          simp; omega
      have h1' : n / 256 ^ k = 0 := h1
      omega
    · omega
/-- What is read was written so. -/
theorem rdN_back (l : List UInt8) (n k : Nat) (h : rdN l = (n, k, 0)) : n < 18446744073709551616 ∧ 1 ≤ k ∧ k ≤ l.length ∧ l.take k = num n := by
  cases l with
  | nil => simp [rdN] at h
  | cons c r =>
    have hc : c.toNat < 256 := c.toNat_lt
    simp only [rdN] at h
    split at h
    · rename_i h1
      simp only [Prod.mk.injEq] at h
      obtain ⟨rfl, rfl, _⟩ := h
      refine ⟨by omega, Nat.le_refl _, by simp, ?_⟩
      rw [num_small_len _ h1, UInt8.ofNat_toNat]
      rfl
    · split at h
      · simp at h
      · split at h
        · simp at h
        · rename_i h1 h2 h3
          simp only [Prod.mk.injEq] at h
          obtain ⟨hn, hk, _⟩ := h
          have hlen : (r.take (c.toNat - 247)).length = c.toNat - 247 := by rw [List.length_take]; omega
          have hlt := val_lt (r.take (c.toNat - 247))
          rw [hlen, hn] at hlt
          have h8 : 256 ^ (c.toNat - 247) ≤ 256 ^ 8 := Nat.pow_le_pow_right (by decide) (by omega)
          have hn64 : n < 18446744073709551616 := Nat.lt_of_lt_of_le hlt h8
          have hwle : wd n ≤ c.toNat - 247 := (wd_lt n _ (by omega) (by omega)).1 hlt
          have hn247 : 247 < n := by
            have : ¬ val (r.take (c.toNat - 247)) ≤ 247 := fun hh => h3 (.inr hh)
            omega
          have hwge : c.toNat - 247 ≤ wd n := by
            by_cases hx : c.toNat - 247 ≤ wd n
            · exact hx
            · exfalso
              obtain ⟨m, hm⟩ : ∃ m, c.toNat - 247 = m + 1 := ⟨c.toNat - 247 - 1, by omega⟩
              have hm1 : wd n ≤ m := by omega
              have hpos := wd_pos n
              have hsm : n < 256 ^ m := (wd_lt n m (by omega) (by omega)).2 hm1
              cases r with
              | nil => simp at h2; omega
              | cons a r =>
                have ha : a ≠ 0 := fun hh => h3 (.inl (by simp [hh]))
                rw [hm, List.take_succ_cons, val_cons] at hn
                have hla : (r.take m).length = m := by rw [List.length_take]; simp at h2; omega
                rw [hla] at hn
                have ha1 : 1 ≤ a.toNat := by
                  have : a.toNat ≠ 0 := fun hh => ha (UInt8.toNat_inj.1 (by simpa using hh))
                  omega
                have := Nat.mul_le_mul_right (256 ^ m) ha1
                omega
          have hw : wd n = c.toNat - 247 := by omega
          refine ⟨hn64, by omega, by simp; omega, ?_⟩
          rw [num_great n hn247, hw, ← hk, List.take_succ_cons, show 247 + (c.toNat - 247) = c.toNat by omega, UInt8.ofNat_toNat]
          have := be_val (r.take (c.toNat - 247))
          rw [hlen, hn] at this
          rw [this]
end Go.Proofs.Ytiomhmdkaglelaa.Sp
namespace Go.Proofs.Ytiomhmdkaglelaa
open Go.RowKit
set_option linter.unusedSimpArgs false
set_option linter.unusedVariables false
/-- Block g is a tape. -/
def TapeAt (w : World) (g : Nat) (s : ByteArray) (e : Int) : Prop := w.heap[g]? = some (.cells #[.string s, .int .i64 e] 105 (0, 0))
theorem conv_bytes (w : World) (t : ByteArray) : ∃ cap W1, (convert 9 74 (.string t)).run Try.prog w = .ok (.slice (some ⟨w.heap.size, 0, none⟩) t.size cap) W1 ∧ Below w.heap.size w W1 ∧ w.heap.size < W1.heap.size ∧
    ∀ j, j < t.size → W1.cell? ⟨w.heap.size, j, none⟩ = some (.int .u8 ((t.data.toList.getD j 0).toNat : Int)) := by
  refine ⟨_, _, run_bytes_of_string w 9 74 5 t Try.underlying9 Try.underlying74 Try.underlying5, (Mem.bdrewN (Below.refl _ w) 1).alloc (Nat.le_refl _) _, by simp, fun j hj => ?_⟩
  have hj' : j < t.data.size := hj
  have hnew : (w.drew.alloc (.cells (bytesRow t (grownCap w t.size 0 5)) 5 ((bytesRow t (grownCap w t.size 0 5)).size, (bytesRow t (grownCap w t.size 0 5)).size + 1))).heap[w.heap.size]? = some (.cells (bytesRow t (grownCap w t.size 0 5)) 5 ((bytesRow t (grownCap w t.size 0 5)).size, (bytesRow t (grownCap w t.size 0 5)).size + 1)) := Mem.new w.drew _
  generalize hC : bytesRow t (grownCap w t.size 0 5) = C at hnew ⊢
  have hj2 : C[j]? = some (.int .u8 ((t.data.toList.getD j 0).toNat : Int)) := by
    rw [← hC]
    unfold bytesRow
    rw [Array.getElem?_append_left (by simpa using hj'), Array.getElem?_map, Array.getElem?_eq_getElem hj', List.getD, Array.getElem?_toList, Array.getElem?_eq_getElem hj']
    rfl
  simp only [World.cell?, hnew, hj2]
  rfl
theorem or_byte (a b : Nat) (h : b < 256) : a * 256 ||| b = a * 256 + b := by
  have := Nat.two_pow_add_eq_or_of_lt (i := 8) (b := b) (by simpa using h) a
  rw [Nat.mul_comm a 256]
  exact this.symm
theorem or_u64 (V b : Nat) (hV : V < 72057594037927936) (hb : b < 256) : bits .or .u64 (IntKind.u64.wrap ((V : Int) * 256)) (IntKind.u64.wrap (b : Int)) = ((V * 256 + b : Nat) : Int) := by
  have e1 : IntKind.u64.wrap ((V : Int) * 256) = ((V * 256 : Nat) : Int) := by
    show ((V : Int) * 256) % 18446744073709551616 = _
    omega
  have e2 : IntKind.u64.wrap (b : Int) = (b : Int) := by
    show (b : Int) % 18446744073709551616 = _
    omega
  rw [e1, e2, u64_or_nat (V * 256) b (by omega) (by omega), or_byte V b hb]
theorem tmeas {n k : Nat} (h : k < n) : n - (intOf (.int .i64 ((k : Int) + 1))).toNat < n - (intOf (.int .i64 (k : Int))).toNat := by
  show n - ((k : Int) + 1).toNat < n - ((k : Int)).toNat; omega
theorem val_next {r : List UInt8} {m j V bb : Nat} (hlt : j < m) (hmr : m ≤ r.length) (hv : Sp.val (r.take j) = V) (hb : ((r.take m).getD j 0).toNat = bb) : V * 256 + bb = Sp.val (r.take (j + 1)) := by
  have hj : j < r.length := by omega
  rw [List.take_add_one, List.getElem?_eq_getElem hj, Option.toList, Sp.val_snoc, hv, ← hb]
  congr 2
  simp [List.getD, List.getElem?_take, hlt, List.getElem?_eq_getElem hj]
theorem rd_form {s : ByteArray} {c r0 : UInt8} {r r' : List UInt8} {m V : Nat} (hl : s.data.toList = c :: r) (hr : r = r0 :: r') (hm : c.toNat = 247 + m) (h1 : 1 ≤ m) (hn : ¬ r.length < m) (hv : Sp.val (r.take m) = V) (h : r0.toNat = 0 ∨ V ≤ 247) :
    Ending.returned (.tuple #[.int .u64 0, .int .i64 0, .int .i64 3]) = Ending.returned (.tuple #[.int .u64 ((Sp.rdN s.data.toList).1 : Nat), .int .i64 ((Sp.rdN s.data.toList).2.1 : Nat), .int .i64 (Sp.rdN s.data.toList).2.2]) := by
  have e : Sp.rdN s.data.toList = (0, 0, 3) := by
    rw [hl, Sp.rdN, if_neg (by omega), show c.toNat - 247 = m by omega, if_neg hn, if_pos]
    rcases h with h | h
    · exact .inl (by rw [hr]; exact UInt8.toNat_inj.1 (by simpa using h))
    · exact .inr (by rw [hv]; exact h)
  rw [e]
  rfl
theorem rd_great {s : ByteArray} {c r0 : UInt8} {r r' : List UInt8} {m V : Nat} (hl : s.data.toList = c :: r) (hr : r = r0 :: r') (hm : c.toNat = 247 + m) (h1 : 1 ≤ m) (hn : ¬ r.length < m) (hv : Sp.val (r.take m) = V) (h0 : r0.toNat ≠ 0) (hV : 247 < V) :
    Ending.returned (.tuple #[.int .u64 V, .int .i64 ((m : Int) + 1), .int .i64 0]) = Ending.returned (.tuple #[.int .u64 ((Sp.rdN s.data.toList).1 : Nat), .int .i64 ((Sp.rdN s.data.toList).2.1 : Nat), .int .i64 (Sp.rdN s.data.toList).2.2]) := by
  have e : Sp.rdN s.data.toList = (V, m + 1, 0) := by
    rw [hl, Sp.rdN, if_neg (by omega), show c.toNat - 247 = m by omega, if_neg hn, if_neg, hv]
    rintro (h | h)
    · rw [hr] at h
      exact h0 (by rw [show r0 = 0 from h]; rfl)
    · omega
  rw [e]
  rfl
set_option maxRecDepth 100000 in
set_option maxHeartbeats 2000000 in
theorem tnum_any (s : ByteArray) (g : Nat) (w : World) (h : TapeAt w g s 0) (hs : s.size ≤ 140737488351232) :
    Calls Try.prog 52 #[.pointer (some ⟨g, 0, none⟩)] w fun r w' => r = .returned (.tuple #[.int .u64 ((Sp.rdN s.data.toList).1 : Nat), .int .i64 ((Sp.rdN s.data.toList).2.1 : Nat), .int .i64 (Sp.rdN s.data.toList).2.2]) ∧ Below w.heap.size w w' := by
  have c0 : w.cell? ⟨g, 0, none⟩ = some (.string s) := Mem.cell h rfl
  have HT := Lib.hid h
  clear h
  by_cases h0 : s.size = 0
  · have hl : s.data.toList = [] := by rw [← List.length_eq_zero_iff, Array.length_toList]; exact h0
    have HL := Lib.hid hl
    have hnil : s.toList = [] := by rw [ByteArray.toList_eq]; exact hl
    have hnil2 : s.toList.isEmpty = true := by rw [hnil]; rfl
    clear hl hnil
    go_enter Try.func52, Try.ntmps52
    go_wp2_with fail
    refine bodyPost_ret (v := .tuple #[.int .u64 0, .int .i64 0, .int .i64 5]) (by simp [results, Try.results52, go_sem, *]) rfl ⟨?_, Below.refl _ _⟩
    rw [HL.out]
    rfl
  · have hpos : 0 < s.size := by omega
    obtain ⟨c, r, hl⟩ : ∃ c r, s.data.toList = c :: r := by
      cases hh : s.data.toList with
      | nil => have := congrArg List.length hh; rw [Array.length_toList] at this; exact absurd this h0
      | cons c r => exact ⟨c, r, rfl⟩
    have hc0 : s[0] = c := by
      have h1 : s.data.toList[0]? = some s[0] := by rw [Array.getElem?_toList]; exact Array.getElem?_eq_getElem (xs := s.data) (i := 0) hpos
      rw [hl] at h1
      simpa using h1.symm
    have hsz : s.size = r.length + 1 := by have := congrArg List.length hl; rw [Array.length_toList] at this; exact this
    have hne : (!s.toList.isEmpty) = true := by rw [ByteArray.toList_eq, hl]; rfl
    have hne2 : s.toList.isEmpty = false := by rw [ByteArray.toList_eq, hl]; rfl
    have HL := Lib.hid hl
    clear hl
    by_cases h247 : c.toNat ≤ 247
    · have hi : (c.toNat : Int) ≤ 247 := by omega
      go_enter Try.func52, Try.ntmps52
      go_wp2_with fail
      refine bodyPost_ret (v := .tuple #[.int .u64 c.toNat, .int .i64 1, .int .i64 0]) (by simp [results, Try.results52, go_sem, *]; done) rfl ⟨?_, Below.refl _ _⟩
      rw [HL.out, Sp.rdN, if_pos h247]
      rfl
    · have hcl : c.toNat < 256 := c.toNat_lt
      obtain ⟨m, hm⟩ : ∃ m, c.toNat = 247 + m := ⟨c.toNat - 247, by omega⟩
      have hi : 247 < (c.toNat : Int) := by omega
      have e1 : wrap64 (c.toNat : Int) = c.toNat := by unfold wrap64; omega
      have e2 : wrap64 ((c.toNat : Int) - 247) = (m : Int) := by unfold wrap64; omega
      have e3 : wrap64 ((m : Int) + 1) = (m : Int) + 1 := by unfold wrap64; omega
      by_cases hr : r.length < m
      · have hr1 : (r.length : Int) + 1 ≤ (m : Int) := by omega
        go_enter Try.func52, Try.ntmps52
        go_wp2_with fail
        refine bodyPost_ret (v := .tuple #[.int .u64 0, .int .i64 0, .int .i64 5]) (by simp [results, Try.results52, go_sem, *]) rfl ⟨?_, Below.refl _ _⟩
        rw [HL.out, Sp.rdN, if_neg h247, if_pos (by omega)]
        rfl
      · have hr1 : ¬ (r.length : Int) + 1 ≤ (m : Int) := by omega
        have hr2 : (m : Int) + 1 ≤ (r.length : Int) + 1 := by omega
        have hr3 : (1 : Int) ≤ (m : Int) + 1 := by omega
        obtain ⟨cap, W1, hcv, hb1, hlt1, hcell⟩ := conv_bytes w (s.extract 1 (m + 1))
        have hm1 : 1 ≤ m := by omega
        have hm8 : m ≤ 8 := by omega
        have hmin : min m r.length = m := by omega
        have hex : (s.extract 1 (m + 1)).data.toList = r.take m := by
          have e : (s.extract 1 (m + 1)).data = s.data.extract 1 (m + 1) := by simp
          rw [e, Array.toList_extract, HL.out]
          simp
        have hexs : (s.extract 1 (m + 1)).size = m := by
          have := congrArg List.length hex
          rw [Array.length_toList, List.length_take, hmin] at this
          exact this
        rw [hexs, hex] at hcell
        obtain ⟨r0, r', hr0⟩ : ∃ r0 r', r = r0 :: r' := by
          cases r with
          | nil => simp at hr; omega
          | cons x y => exact ⟨x, y, rfl⟩
        have hs1 : 1 < s.size := by rw [hsz, hr0]; simp
        have hc1 : s[1] = r0 := by
          have h1 : s.data.toList[1]? = some s[1] := by rw [Array.getElem?_toList]; exact Array.getElem?_eq_getElem (xs := s.data) (i := 1) hs1
          rw [HL.out, hr0] at h1
          simpa using h1.symm
        have HM := Lib.hid (And.intro hm (And.intro hcl (And.intro hcell (And.intro hr0 (And.intro h247 (And.intro hb1 hr))))))
        have HQ := Lib.hid (And.intro hm1 (And.intro hm8 (show m ≤ r.length by omega)))
        have c0' : W1.cell? ⟨g, 0, none⟩ = some (.string s) := Mem.cell ((hb1.block g (Mem.lt HT.out)).trans HT.out) rfl
        clear hm hcl hcell hr0 hex hexs h247 hb1 hlt1 hm1 hm8 hr
        go_enter Try.func52, Try.ntmps52
        go_wp2_with fail
        go_loopw [7, 43] (fun n i wr => ∃ j : Nat, j ≤ m ∧ n = .int .u64 (Sp.val (r.take j) : Nat) ∧ i = .int .i64 (j : Int) ∧ wr = W1) (fun _ i _ => m - (intOf i).toNat)
        case atStart => exact ⟨0, Nat.zero_le _, rfl, rfl, rfl⟩
        case round =>
          obtain ⟨j, hj, rfl, rfl, rfl⟩ := hrel
          by_cases hlt : j < m
          · have hlt' : (j : Int) < (m : Int) := by omega
            have hcell := HM.out.2.2.1 j hlt
            have hvl := Sp.val_lt (r.take j)
            have hbl : ((r.take m).getD j 0).toNat < 256 := UInt8.toNat_lt _
            generalize hv : Sp.val (r.take j) = V at hvl ⊢
            have hvv : V < 72057594037927936 := by
              have h1 : (r.take j).length ≤ 7 := by rw [List.length_take]; have := HQ.out.2.1; omega
              have h2 : 256 ^ (r.take j).length ≤ 256 ^ 7 := Nat.pow_le_pow_right (by decide) h1
              exact Nat.lt_of_lt_of_le hvl h2
            generalize hbb : ((r.take m).getD j 0).toNat = bb at hcell hbl
            have HV := Lib.hid hv
            have HBB := Lib.hid hbb
            have HL2 := Lib.hid (And.intro hvv hbl)
            clear hv hbb hvv hbl hvl
            go_wp2_with fail
            go_roundw
            case rel => exact ⟨j + 1, hlt, by rw [or_u64 V bb HL2.out.1 HL2.out.2, val_next hlt (HQ.out.2.2) HV.out HBB.out], rfl, trivial⟩
            case measure => exact tmeas hlt
          · have hjm : (m : Int) ≤ (j : Int) := by omega
            have hjeq : j = m := by omega
            subst hjeq
            generalize hv : Sp.val (r.take j) = V
            have HV := Lib.hid hv
            clear hv hjm hj hlt
            have hjj : ¬ (j : Int) < (j : Int) := by omega
            by_cases z0 : (r0.toNat : Int) = 0
            · go_wp2_with fail
              refine bodyPost_ret (v := .tuple #[.int .u64 0, .int .i64 0, .int .i64 3]) (by simp [results, Try.results52, go_sem, *]) rfl ⟨?_, HM.out.2.2.2.2.2.1⟩
              exact rd_form HL.out HM.out.2.2.2.1 HM.out.1 HQ.out.1 HM.out.2.2.2.2.2.2 HV.out (.inl (by omega))
            · by_cases z1 : (V : Int) ≤ 247
              · go_wp2_with fail
                refine bodyPost_ret (v := .tuple #[.int .u64 0, .int .i64 0, .int .i64 3]) (by simp [results, Try.results52, go_sem, *]) rfl ⟨?_, HM.out.2.2.2.2.2.1⟩
                exact rd_form HL.out HM.out.2.2.2.1 HM.out.1 HQ.out.1 HM.out.2.2.2.2.2.2 HV.out (.inr (by omega))
              · go_wp2_with fail
                refine bodyPost_ret (v := .tuple #[.int .u64 V, .int .i64 (j + 1), .int .i64 0]) (by simp [results, Try.results52, go_sem, *]) rfl ⟨?_, HM.out.2.2.2.2.2.1⟩
                exact rd_great HL.out HM.out.2.2.2.1 HM.out.1 HQ.out.1 HM.out.2.2.2.2.2.2 HV.out (by omega) (by omega)
end Go.Proofs.Ytiomhmdkaglelaa
