/- What stands at the front of bytes, as a number: plain. -/
import Derived.Test.YtbpnhaeladcbnaaDoorSp
namespace Go.Proofs.YtbpnhaeladcbnaaDoor.Sp
/-- The number that bytes say, the highest first. -/
def val (l : List UInt8) : Nat := l.foldl (fun a b => a * 256 + b.toNat) 0
theorem foldl_val : ∀ (l : List UInt8) (a : Nat), l.foldl (fun a b => a * 256 + b.toNat) a = a * 256 ^ l.length + val l
  | [], a => by simp [val]
  | c :: l, a => by
    rw [List.foldl_cons, foldl_val l]
    unfold val
    rw [List.foldl_cons, foldl_val l (0 * 256 + c.toNat), List.length_cons, Nat.pow_succ]
    simp only [Nat.zero_mul, Nat.zero_add, val]
    rw [Nat.add_mul, Nat.mul_assoc, Nat.mul_comm 256 (256 ^ l.length), Nat.add_assoc]
theorem val_cons (c : UInt8) (l : List UInt8) : val (c :: l) = c.toNat * 256 ^ l.length + val l := by
  show (c :: l).foldl _ 0 = _
  rw [List.foldl_cons, foldl_val]
  simp
theorem val_snoc (l : List UInt8) (c : UInt8) : val (l ++ [c]) = val l * 256 + c.toNat := by simp [val]
theorem val_lt : ∀ l : List UInt8, val l < 256 ^ l.length
  | [] => by simp [val]
  | c :: l => by
    have h := val_lt l
    have hc : c.toNat < 256 := c.toNat_lt
    rw [val_cons, List.length_cons, Nat.pow_succ]
    have : c.toNat * 256 ^ l.length ≤ 255 * 256 ^ l.length := Nat.mul_le_mul_right _ (by omega)
    omega
theorem val_be : ∀ (k n : Nat), val (be k n) = n % 256 ^ k
  | 0, n => by simp [be, val, Nat.mod_one]
  | k + 1, n => by
    rw [be, val_cons, be_length, val_be k n, Nat.pow_succ, UInt8.toNat_ofNat']
    rw [Nat.mod_mul, Nat.mul_comm (256 ^ k), Nat.add_comm]
theorem be_val : ∀ l : List UInt8, be l.length (val l) = l
  | [] => rfl
  | c :: l => by
    have hlt := val_lt l
    have hp : 0 < 256 ^ l.length := Nat.pow_pos (by decide)
    rw [List.length_cons, be, val_cons]
    have e1 : (c.toNat * 256 ^ l.length + val l) / 256 ^ l.length = c.toNat := by
      rw [Nat.mul_comm, Nat.mul_add_div hp, Nat.div_eq_of_lt hlt, Nat.add_zero]
    have e2 : be l.length (c.toNat * 256 ^ l.length + val l) = be l.length (val l) := by
      have hb : ∀ (k m : Nat) (x y : Nat), k ≤ m → be k (x * 256 ^ m + y) = be k y := by
        intro k
        induction k with
        | zero => intros; rfl
        | succ k ih =>
          intro m x y hk
          rw [be, be, ih m x y (by omega)]
          congr 1
          apply UInt8.toNat_inj.1
          rw [UInt8.toNat_ofNat', UInt8.toNat_ofNat']
          obtain ⟨d, rfl⟩ : ∃ d, m = k + 1 + d := ⟨m - (k + 1), by omega⟩
          rw [Nat.pow_add, Nat.pow_succ, show x * (256 ^ k * 256 * 256 ^ d) = 256 ^ k * (x * 256 ^ d * 256) by ac_rfl, Nat.mul_add_div (Nat.pow_pos (by decide)), Nat.add_comm, Nat.add_mul_mod_self_right]
      exact hb _ _ _ _ (Nat.le_refl _)
    rw [e1, e2, be_val l, UInt8.ofNat_toNat]
/-- The number at the front, how many bytes it has, the error (5 short, 3 form). -/
def rdN : List UInt8 → Nat × Nat × Int
  | [] => (0, 0, 5)
  | c :: r => if c.toNat ≤ 247 then (c.toNat, 1, 0) else if r.length < c.toNat - 247 then (0, 0, 5)
    else if r.headD 0 = 0 ∨ val (r.take (c.toNat - 247)) ≤ 247 then (0, 0, 3) else (val (r.take (c.toNat - 247)), c.toNat - 247 + 1, 0)
theorem width_ge : ∀ f n, 256 ^ (width f n - 1) ≤ n ∨ n < 256
  | 0, n => by simp only [width]; by_cases h : n < 256; exact .inr h; exact .inl (by simp; omega)
  | f + 1, n => by
    unfold width
    by_cases h : n < 256
    · exact .inr h
    · rw [if_neg h]
      refine .inl ?_
      have hp := width_pos f (n / 256)
      rcases width_ge f (n / 256) with h1 | h1
      · rw [show width f (n / 256) + 1 - 1 = width f (n / 256) - 1 + 1 by omega, Nat.pow_succ]
        exact Nat.le_trans (Nat.mul_le_mul_right 256 h1) (Nat.div_mul_le_self n 256)
      · cases f with
        | zero => simp [width]; omega
        | succ f => unfold width; rw [if_pos h1]; simp; omega
theorem wd_ge (n : Nat) (h : 256 ≤ n) : 256 ^ (wd n - 1) ≤ n := (width_ge 8 n).resolve_right (by omega)
theorem num_small_len (n : Nat) (h : n ≤ 247) : num n = [UInt8.ofNat n] := by unfold num; rw [if_pos h]
theorem num_great (n : Nat) (h : 247 < n) : num n = UInt8.ofNat (247 + wd n) :: be (wd n) n := by unfold num; rw [if_neg (by omega)]
/-- What is written is read. -/
theorem rdN_num (n : Nat) (h : n < 18446744073709551616) (rest : List UInt8) : rdN (num n ++ rest) = (n, (num n).length, 0) := by
  by_cases hs : n ≤ 247
  · rw [num_small_len n hs]
    simp only [List.cons_append, List.nil_append, rdN, UInt8.toNat_ofNat', List.length_singleton]
    rw [Nat.mod_eq_of_lt (by omega), if_pos hs]
  · have hw := wd_le n h
    have hp := wd_pos n
    rw [num_great n (by omega)]
    simp only [List.cons_append, rdN, UInt8.toNat_ofNat']
    rw [Nat.mod_eq_of_lt (by omega), if_neg (by omega), show 247 + wd n - 247 = wd n by omega, List.length_append, be_length, if_neg (by omega), List.take_left' (be_length _ _), val_be]
    have hlt : n < 256 ^ wd n := (wd_lt n (wd n) hp hw).2 (Nat.le_refl _)
    rw [Nat.mod_eq_of_lt hlt, if_neg, List.length_cons, be_length]
    rintro (h0 | h0)
    · obtain ⟨k, hk⟩ : ∃ k, wd n = k + 1 := ⟨wd n - 1, by omega⟩
      rw [hk, be, List.cons_append, List.headD_cons] at h0
      have h1 := congrArg UInt8.toNat h0
      rw [UInt8.toNat_ofNat'] at h1
      have hq : n / 256 ^ k < 256 := by rw [hk, Nat.pow_succ] at hlt; exact Nat.div_lt_of_lt_mul hlt
      rw [Nat.mod_eq_of_lt hq] at h1
      have hq1 : 1 ≤ n / 256 ^ k := by
        rw [Nat.le_div_iff_mul_le (Nat.pow_pos (by decide)), Nat.one_mul]
        by_cases hb : 256 ≤ n
        · have := wd_ge n hb; rw [hk] at this; exact this
        · have : wd n ≤ 1 := (wd_lt n 1 (by omega) (by omega)).1 (by omega)
          have hk0 : k = 0 := by omega
          subst hk0
          simp; omega
      have h1' : n / 256 ^ k = 0 := h1
      omega
    · omega
/-- What is read was written so. -/
theorem rdN_back (l : List UInt8) (n k : Nat) (h : rdN l = (n, k, 0)) : n < 18446744073709551616 ∧ 1 ≤ k ∧ k ≤ l.length ∧ l.take k = num n := by
  cases l with
  | nil => simp [rdN] at h
  | cons c r =>
    have hc : c.toNat < 256 := c.toNat_lt
    simp only [rdN] at h
    split at h
    · rename_i h1
      simp only [Prod.mk.injEq] at h
      obtain ⟨rfl, rfl, _⟩ := h
      refine ⟨by omega, Nat.le_refl _, by simp, ?_⟩
      rw [num_small_len _ h1, UInt8.ofNat_toNat]
      rfl
    · split at h
      · simp at h
      · split at h
        · simp at h
        · rename_i h1 h2 h3
          simp only [Prod.mk.injEq] at h
          obtain ⟨hn, hk, _⟩ := h
          have hlen : (r.take (c.toNat - 247)).length = c.toNat - 247 := by rw [List.length_take]; omega
          have hlt := val_lt (r.take (c.toNat - 247))
          rw [hlen, hn] at hlt
          have h8 : 256 ^ (c.toNat - 247) ≤ 256 ^ 8 := Nat.pow_le_pow_right (by decide) (by omega)
          have hn64 : n < 18446744073709551616 := Nat.lt_of_lt_of_le hlt h8
          have hwle : wd n ≤ c.toNat - 247 := (wd_lt n _ (by omega) (by omega)).1 hlt
          have hn247 : 247 < n := by
            have : ¬ val (r.take (c.toNat - 247)) ≤ 247 := fun hh => h3 (.inr hh)
            omega
          have hwge : c.toNat - 247 ≤ wd n := by
            by_cases hx : c.toNat - 247 ≤ wd n
            · exact hx
            · exfalso
              obtain ⟨m, hm⟩ : ∃ m, c.toNat - 247 = m + 1 := ⟨c.toNat - 247 - 1, by omega⟩
              have hm1 : wd n ≤ m := by omega
              have hpos := wd_pos n
              have hsm : n < 256 ^ m := (wd_lt n m (by omega) (by omega)).2 hm1
              cases r with
              | nil => simp at h2; omega
              | cons a r =>
                have ha : a ≠ 0 := fun hh => h3 (.inl (by simp [hh]))
                rw [hm, List.take_succ_cons, val_cons] at hn
                have hla : (r.take m).length = m := by rw [List.length_take]; simp at h2; omega
                rw [hla] at hn
                have ha1 : 1 ≤ a.toNat := by
                  have : a.toNat ≠ 0 := fun hh => ha (UInt8.toNat_inj.1 (by simpa using hh))
                  omega
                have := Nat.mul_le_mul_right (256 ^ m) ha1
                omega
          have hw : wd n = c.toNat - 247 := by omega
          refine ⟨hn64, by omega, by simp; omega, ?_⟩
          rw [num_great n hn247, hw, ← hk, List.take_succ_cons, show 247 + (c.toNat - 247) = c.toNat by omega, UInt8.ofNat_toNat]
          have := be_val (r.take (c.toNat - 247))
          rw [hlen, hn] at this
          rw [this]
end Go.Proofs.YtbpnhaeladcbnaaDoor.Sp
