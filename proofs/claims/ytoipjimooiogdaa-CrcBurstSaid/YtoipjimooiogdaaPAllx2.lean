-- By a program of this session (a patched scratch copy of a print): this claim's text.
import Derived.Test.YtoipjimooiogdaaPAllx0
import Derived.Test.YtoipjimooiogdaaPAllx1
namespace Go.Proofs.Ytoipjimooiogdaa.PAll
open Go.RowKit Go.Proofs.YtoipjimooiogdaaW.PrintWords Go.Proofs.YtoipjimooiogdaaW.PrintLast Go.Proofs.YtoipjimooiogdaaW.PrintMore
attribute [local go_sem] max2_int min2_int max_two min_two max_three min_three max_four min_four   -- for this text's walks alone
set_option linter.unusedVariables false
set_option linter.unusedSimpArgs false

/-! ### auspiceref02_Sum: function 12 -/
mutual
def auspiceref02_Sum.l0 : Nat → ByteArray → Int → Int → Option (Int)
  | 0, _, _, _ => none
  | k + 1, x0, x3, x4 => if x4 < (x0.size : Int) then (auspiceref02_Sum.l1 k x0 x3 x4 0) else (some (Go.bits .xor .u32 x3 4294967295))
def auspiceref02_Sum.l1 : Nat → ByteArray → Int → Int → Int → Option (Int)
  | 0, _, _, _, _ => none
  | k + 1, x0, x3, x4, x5 => if x5 < 8 then (if 0 ≤ x4 then (if x4 < (x0.size : Int) then (if 0 ≤ (IntKind.u64.wrap (x5)) then (if (Go.bits .xor .u32 (Go.bits .and .u32 x3 1) (Go.bits .and .u32 ((shr .u8 (bt x0 x4) (IntKind.u64.wrap (x5))) % 4294967296) 1)) = 1 then (auspiceref02_Sum.l1 k x0 (Go.bits .xor .u32 (x3 / 2) 2197175160) x4 (wrap64 (x5 + 1))) else (auspiceref02_Sum.l1 k x0 (x3 / 2) x4 (wrap64 (x5 + 1)))) else (none)) else (none)) else (none)) else (auspiceref02_Sum.l0 k x0 x3 (wrap64 (x4 + 1)))
end
def auspiceref02_Sum.f (k : Nat) (a0 : ByteArray) : Option (Int) := auspiceref02_Sum.l0 k a0 4294967295 0
theorem auspiceref02_Sum.mono_l : ∀ k, (∀ y0 y1 y2, LeO (auspiceref02_Sum.l0 k y0 y1 y2) (auspiceref02_Sum.l0 (k + 1) y0 y1 y2)) ∧ (∀ y0 y1 y2 y3, LeO (auspiceref02_Sum.l1 k y0 y1 y2 y3) (auspiceref02_Sum.l1 (k + 1) y0 y1 y2 y3))
  | 0 => ⟨fun _ _ _ r h => by simp [auspiceref02_Sum.l0] at h, fun _ _ _ _ r h => by simp [auspiceref02_Sum.l1] at h⟩
  | k + 1 => by
    obtain ⟨ih0, ih1⟩ := auspiceref02_Sum.mono_l k
    refine ⟨?_, ?_⟩
    · intro y0 y1 y2
      unfold auspiceref02_Sum.l0
      repeat' first
      | (with_reducible exact ih0 _ _ _)
      | (with_reducible exact ih1 _ _ _ _)
      | (with_reducible exact LeO.refl _)
      | (with_reducible exact LeO.none _)
      | (with_reducible refine LeO.ite ?_ ?_)
      | (with_reducible refine LeO.bind ?_ (fun _ => ?_))
      | exact ih0 _ _ _
      | exact ih1 _ _ _ _
      | exact LeO.none _
      | refine LeO.ite ?_ ?_
      | refine LeO.bind ?_ (fun _ => ?_)
    · intro y0 y1 y2 y3
      unfold auspiceref02_Sum.l1
      repeat' first
      | (with_reducible exact ih0 _ _ _)
      | (with_reducible exact ih1 _ _ _ _)
      | (with_reducible exact LeO.refl _)
      | (with_reducible exact LeO.none _)
      | (with_reducible refine LeO.ite ?_ ?_)
      | (with_reducible refine LeO.bind ?_ (fun _ => ?_))
      | exact ih0 _ _ _
      | exact ih1 _ _ _ _
      | exact LeO.none _
      | refine LeO.ite ?_ ?_
      | refine LeO.bind ?_ (fun _ => ?_)
theorem auspiceref02_Sum.mono : ∀ a0 k, LeO (auspiceref02_Sum.f k a0) (auspiceref02_Sum.f (k + 1) a0) := by
  intro a0 k
  obtain ⟨ih0, ih1⟩ := auspiceref02_Sum.mono_l k
  unfold auspiceref02_Sum.f
  repeat' first
      | (with_reducible exact ih0 _ _ _)
      | (with_reducible exact ih1 _ _ _ _)
      | (with_reducible exact LeO.refl _)
      | (with_reducible exact LeO.none _)
      | (with_reducible refine LeO.ite ?_ ?_)
      | (with_reducible refine LeO.bind ?_ (fun _ => ?_))
      | exact ih0 _ _ _
      | exact ih1 _ _ _ _
      | exact LeO.none _
      | refine LeO.ite ?_ ?_
      | refine LeO.bind ?_ (fun _ => ?_)
set_option maxHeartbeats 8000000 in
set_option maxRecDepth 100000 in
theorem auspiceref02_Sum.calls (k : Nat) (a0 : ByteArray) (r : Int) (w : World) (h : auspiceref02_Sum.f k a0 = some r) :
    Calls Try.prog 12 #[.string a0] w fun e w' => e = .returned (.int .u32 r) ∧ Drawn0 w w' := by
  have H : (auspiceref02_Sum.l0 k a0 4294967295 0) = some r := h
  clear h
  have H' := Aside0.mk H
  clear H
  go_enter Try.func12, Try.ntmps12
  go_wp2
  go_loopg [3, 4] k (fun kq v3 v4 w' => ∃ (x3_1 : Int) (x4_1 : Int), v3 = .int .u32 x3_1 ∧ v4 = .int .i64 x4_1 ∧ Aside0 (auspiceref02_Sum.l0 kq a0 x3_1 x4_1 = some r) ∧ Aside0 (kq ≤ k) ∧ Drawn0 w w')
  case atStart => exact ⟨(4294967295), (0), (by first | rfl | (simp; done) | (simp [*]; done)), (by first | rfl | (simp; done) | (simp [*]; done)), H', ⟨Nat.le_refl _⟩, by repeat (first | exact Drawn0.refl _ | apply Drawn0.step)⟩
  case round =>
    clear H'
    try clear c1
    obtain ⟨x3_1, x4_1, rfl, rfl, HA, HK1, ⟨m1, rfl⟩⟩ := hrel
    cases gk with
    | zero => exact absurd HA.out (by simp [auspiceref02_Sum.l0])
    | succ k1 =>
      have H := HA.out
      clear HA
      simp only [auspiceref02_Sum.l0] at H
      by_cases c2 : x4_1 < (a0.size : Int)
      · rw [if_pos c2] at H
        have c2b0 : decide (x4_1 < (a0.size : Int)) = true := decide_eq_true c2
        clear c2
        have H' := Aside0.mk H
        clear H
        go_wp2
        go_loopg [3, 5] k1 (fun kq v3 v5 w' => ∃ (x3_2 : Int) (x5_2 : Int), v3 = .int .u32 x3_2 ∧ v5 = .int .i64 x5_2 ∧ Aside0 (auspiceref02_Sum.l1 kq a0 x3_2 x4_1 x5_2 = some r) ∧ Aside0 (kq ≤ k1) ∧ Drawn0 w w')
        case atStart => exact ⟨(x3_1), (0), (by first | rfl | (simp; done) | (simp [*]; done)), (by first | rfl | (simp; done) | (simp [*]; done)), H', ⟨Nat.le_refl _⟩, by repeat (first | exact Drawn0.refl _ | apply Drawn0.step)⟩
        case round =>
          clear H'
          try clear c1
          try clear c2
          try clear c2b0
          try clear p2
          obtain ⟨x3_2, x5_2, rfl, rfl, HA, HK2, ⟨m2, rfl⟩⟩ := hrel
          cases gk with
          | zero => exact absurd HA.out (by simp [auspiceref02_Sum.l1])
          | succ k2 =>
            have H := HA.out
            clear HA
            simp only [auspiceref02_Sum.l1] at H
            by_cases c3 : x5_2 < 8
            · rw [if_pos c3] at H
              have c3b0 : decide (x5_2 < 8) = true := decide_eq_true c3
              clear c3
              by_cases c4 : 0 ≤ x4_1
              · rw [if_pos c4] at H
                have c4b0 : decide (0 ≤ x4_1) = true := decide_eq_true c4
                clear c4
                by_cases c5 : x4_1 < (a0.size : Int)
                · rw [if_pos c5] at H
                  have c5b0 : decide (x4_1 < (a0.size : Int)) = true := decide_eq_true c5
                  clear c5
                  obtain ⟨ji7, hji7⟩ : ∃ j_ : Int, (IntKind.u64.wrap (x5_2)) = j_ := ⟨_, rfl⟩
                  replace H : (if 0 ≤ (ji7) then (if (Go.bits .xor .u32 (Go.bits .and .u32 x3_2 1) (Go.bits .and .u32 ((shr .u8 (bt a0 x4_1) (ji7)) % 4294967296) 1)) = 1 then (auspiceref02_Sum.l1 k2 a0 (Go.bits .xor .u32 (x3_2 / 2) 2197175160) x4_1 (wrap64 (x5_2 + 1))) else (auspiceref02_Sum.l1 k2 a0 (x3_2 / 2) x4_1 (wrap64 (x5_2 + 1)))) else (none)) = some r := by first | (rw [hji7] at H; exact H) | (simp only [hji7] at H ⊢; exact H)
                  by_cases c8 : 0 ≤ (ji7)
                  · rw [if_pos c8] at H
                    have c8b0 := eq_true c8
                    have c8b1 : decide (0 ≤ (ji7)) = true := decide_eq_true c8
                    clear c8
                    obtain ⟨ji9, hji9⟩ : ∃ j_ : Int, (shr .u8 (bt a0 x4_1) (ji7)) = j_ := ⟨_, rfl⟩
                    replace H : (if (Go.bits .xor .u32 (Go.bits .and .u32 x3_2 1) (Go.bits .and .u32 ((ji9) % 4294967296) 1)) = 1 then (auspiceref02_Sum.l1 k2 a0 (Go.bits .xor .u32 (x3_2 / 2) 2197175160) x4_1 (wrap64 (x5_2 + 1))) else (auspiceref02_Sum.l1 k2 a0 (x3_2 / 2) x4_1 (wrap64 (x5_2 + 1)))) = some r := by first | (rw [hji9] at H; exact H) | (simp only [hji9] at H ⊢; exact H)
                    have hji9_ : ((bt a0 x4_1) / 2 ^ min (ji7).toNat 8) = ji9 := hji9
                    have hji9z : (ji7) ≤ 8 → ((bt a0 x4_1) / 2 ^ (ji7).toNat) = ji9 := shr_small hji9
                    by_cases c10 : (Go.bits .xor .u32 (Go.bits .and .u32 x3_2 1) (Go.bits .and .u32 ((ji9) % 4294967296) 1)) = 1
                    · rw [if_pos c10] at H
                      have c10b0 : ((Go.bits .xor .u32 (Go.bits .and .u32 x3_2 1) (Go.bits .and .u32 ((ji9) % 4294967296) 1)) == 1) = true := beq_iff_eq.mpr c10
                      have c10b1 : ((Go.bits .xor .u32 (Go.bits .and .u32 x3_2 1) (Go.bits .and .u32 ((ji9) % 4294967296) 1)) != 1) = false := bne_eq_false_iff_eq.mpr c10
                      clear c10
                      have H' := Aside0.mk H
                      clear H
                      have p6 : 0 ≤ (x4_1 : Int) := of_decide_eq_true (by first | (with_reducible assumption) | assumption)
                      have q6 : x4_1 < (a0.size : Int) := of_decide_eq_true (by first | (with_reducible assumption) | assumption)
                      have hx6 := bt_at a0 x4_1
                      replace p6 := eq_true p6
                      replace q6 := eq_true q6
                      go_wp2
                      go_roundg k2
                      case measure => have := HK1.out; have := HK2.out; omega
                      case rel => exact ⟨(Go.bits .xor .u32 (x3_2 / 2) 2197175160), (wrap64 (x5_2 + 1)), (by first | rfl | (simp; done) | (simp [*]; done)), (by first | rfl | (simp; done) | (simp [*]; done)), H', ⟨by have := HK1.out; have := HK2.out; omega⟩, by repeat (first | exact Drawn0.refl _ | apply Drawn0.step)⟩
                    · rw [if_neg c10] at H
                      have c10b0 : ((Go.bits .xor .u32 (Go.bits .and .u32 x3_2 1) (Go.bits .and .u32 ((ji9) % 4294967296) 1)) == 1) = false := beq_eq_false_iff_ne.mpr c10
                      have c10b1 : ((Go.bits .xor .u32 (Go.bits .and .u32 x3_2 1) (Go.bits .and .u32 ((ji9) % 4294967296) 1)) != 1) = true := bne_iff_ne.mpr c10
                      have H' := Aside0.mk H
                      clear H
                      have p6 : 0 ≤ (x4_1 : Int) := of_decide_eq_true (by first | (with_reducible assumption) | assumption)
                      have q6 : x4_1 < (a0.size : Int) := of_decide_eq_true (by first | (with_reducible assumption) | assumption)
                      have hx6 := bt_at a0 x4_1
                      replace p6 := eq_true p6
                      replace q6 := eq_true q6
                      go_wp2
                      go_roundg k2
                      case measure => have := HK1.out; have := HK2.out; omega
                      case rel => exact ⟨(x3_2 / 2), (wrap64 (x5_2 + 1)), (by first | rfl | (simp; done) | (simp [*]; done)), (by first | rfl | (simp; done) | (simp [*]; done)), H', ⟨by have := HK1.out; have := HK2.out; omega⟩, by repeat (first | exact Drawn0.refl _ | apply Drawn0.step)⟩
                  · rw [if_neg c8] at H
                    exact absurd H (by simp)
                · rw [if_neg c5] at H
                  exact absurd H (by simp)
              · rw [if_neg c4] at H
                exact absurd H (by simp)
            · rw [if_neg c3] at H
              have c3b0 : decide (x5_2 < 8) = false := decide_eq_false c3
              clear c3
              have H' := Aside0.mk H
              clear H
              go_wp2
              go_roundg k2
              case measure => have := HK1.out; have := HK2.out; omega
              case rel => exact ⟨(x3_2), (wrap64 (x4_1 + 1)), (by first | rfl | (simp; done) | (simp [*]; done)), (by first | rfl | (simp; done) | (simp [*]; done)), H', ⟨by have := HK1.out; have := HK2.out; omega⟩, by repeat (first | exact Drawn0.refl _ | apply Drawn0.step)⟩
      · rw [if_neg c2] at H
        have c2b0 : decide (x4_1 < (a0.size : Int)) = false := decide_eq_false c2
        clear c2
        obtain rfl := Option.some.inj H
        go_wp2
        go_ret
        exact ⟨by first | rfl | (simp; done) | (simp [*]; done), by repeat (first | exact Drawn0.refl _ | apply Drawn0.step)⟩

/-! ### auspiceref02_Pack: function 10 -/
def auspiceref02_Pack.f (k : Nat) (a0 : ByteArray) : Option (ByteArray × Int) := if (a0.size : Int) > 1048576 then (some ((⟨#[]⟩ : ByteArray), 2)) else ((some (([(wrap64 ((a0.size : Int) / 65536)) % 256, (Int.tmod (wrap64 ((a0.size : Int) / 256)) 256) % 256, (a0.size : Int) % 256] : List Int) : List Int)).bind fun y116 => (if (strOfNums y116).size + a0.size ≤ 9223372036854775807 then ((auspiceref02_Sum.f k ((strOfNums y116) ++ a0)).bind fun t119 => ((some (([(Int.tmod t119 256) % 256, ((Int.tdiv t119 256) % 4294967296) % 256, ((Int.tdiv t119 65536) % 4294967296) % 256, ((Int.tdiv t119 16777216) % 4294967296) % 256] : List Int) : List Int)).bind fun y120 => (if ((strOfNums y116) ++ a0).size + (strOfNums y120).size ≤ 9223372036854775807 then (some (((strOfNums y116) ++ a0) ++ (strOfNums y120), 0)) else (none)))) else (none)))
theorem auspiceref02_Pack.mono : ∀ a0 k, LeO (auspiceref02_Pack.f k a0) (auspiceref02_Pack.f (k + 1) a0) := by
  intro a0 k
  unfold auspiceref02_Pack.f
  repeat' first
      | (with_reducible exact auspiceref02_Sum.mono _ _)
      | (with_reducible exact LeO.refl _)
      | (with_reducible exact LeO.none _)
      | (with_reducible refine LeO.ite ?_ ?_)
      | (with_reducible refine LeO.bind ?_ (fun _ => ?_))
      | exact auspiceref02_Sum.mono _ _
      | exact LeO.none _
      | refine LeO.ite ?_ ?_
      | refine LeO.bind ?_ (fun _ => ?_)
set_option maxHeartbeats 8000000 in
set_option maxRecDepth 100000 in
theorem auspiceref02_Pack.calls (k : Nat) (a0 : ByteArray) (r1 : ByteArray) (r2 : Int) (w : World) (h : auspiceref02_Pack.f k a0 = some (r1, r2)) :
    Calls Try.prog 10 #[.string a0] w fun e w' => e = .returned (.tuple #[.string r1, .int .i64 r2]) ∧ Below w.heap.size w w' := by
  have HB := Aside0.mk (Below.refl w.heap.size w)
  have H : (if (a0.size : Int) > 1048576 then (some ((⟨#[]⟩ : ByteArray), 2)) else ((some (([(wrap64 ((a0.size : Int) / 65536)) % 256, (Int.tmod (wrap64 ((a0.size : Int) / 256)) 256) % 256, (a0.size : Int) % 256] : List Int) : List Int)).bind fun y116 => (if (strOfNums y116).size + a0.size ≤ 9223372036854775807 then ((auspiceref02_Sum.f k ((strOfNums y116) ++ a0)).bind fun t119 => ((some (([(Int.tmod t119 256) % 256, ((Int.tdiv t119 256) % 4294967296) % 256, ((Int.tdiv t119 65536) % 4294967296) % 256, ((Int.tdiv t119 16777216) % 4294967296) % 256] : List Int) : List Int)).bind fun y120 => (if ((strOfNums y116) ++ a0).size + (strOfNums y120).size ≤ 9223372036854775807 then (some (((strOfNums y116) ++ a0) ++ (strOfNums y120), 0)) else (none)))) else (none)))) = some (r1, r2) := h
  clear h
  by_cases c2 : (a0.size : Int) > 1048576
  · rw [if_pos c2] at H
    have c2b0 : decide (1048576 < (a0.size : Int)) = true := decide_eq_true c2
    have c2b1 : decide (1048576 < a0.size) = true := decide_eq_true (by omega)
    clear c2
    simp only [Option.some.injEq, Prod.mk.injEq] at H
    obtain ⟨rfl, rfl⟩ := H
    go_enter Try.func10, Try.ntmps10
    go_wp2
    go_ret2
    exact ⟨by first | rfl | (simp [errW_none, errW_some] <;> rfl) | (simp [*, errW_none, errW_some] <;> rfl), by repeat (first | (with_reducible first | exact HB.out | apply below_alloc | apply pw_below_drewN | apply below_drew1) | exact HB.out)⟩
  · rw [if_neg c2] at H
    have hs1 : wrap64 ((a0.size : Int) / 65536) = (a0.size : Int) / 65536 := by unfold wrap64; omega
    have hs2 : Int.tmod (wrap64 ((a0.size : Int) / 256)) 256 = (a0.size : Int) / 256 % 256 := by rw [show wrap64 ((a0.size : Int) / 256) = (a0.size : Int) / 256 from by unfold wrap64; omega]; exact Int.tmod_eq_emod_of_nonneg (by omega)
    rw [hs1, hs2] at H
    clear hs1 hs2
    have c2b0 : decide (1048576 < (a0.size : Int)) = false := decide_eq_false c2
    have c2b1 : decide (1048576 < a0.size) = false := decide_eq_false (by omega)
    clear c2
    obtain ⟨y116, hy116⟩ : ∃ y_ : List Int, y_ = (([((a0.size : Int) / 65536) % 256, ((a0.size : Int) / 256 % 256) % 256, (a0.size : Int) % 256] : List Int)) := ⟨_, rfl⟩
    replace H : (if (strOfNums y116).size + a0.size ≤ 9223372036854775807 then ((auspiceref02_Sum.f k ((strOfNums y116) ++ a0)).bind fun t119 => ((some (([(Int.tmod t119 256) % 256, ((Int.tdiv t119 256) % 4294967296) % 256, ((Int.tdiv t119 65536) % 4294967296) % 256, ((Int.tdiv t119 16777216) % 4294967296) % 256] : List Int) : List Int)).bind fun y120 => (if ((strOfNums y116) ++ a0).size + (strOfNums y120).size ≤ 9223372036854775807 then (some (((strOfNums y116) ++ a0) ++ (strOfNums y120), 0)) else (none)))) else (none)) = some (r1, r2) := by first | (rw [hy116]; with_reducible exact H) | (have H2_ := (Option.bind_some _ _).symm.trans H; rw [hy116]; with_reducible exact H2_) | (have H2_ := (Option.bind_some _ _).symm.trans H; with_reducible exact H2_) | with_reducible exact H | (rw [hy116]; exact H) | exact H
    have Ny116 := Aside0.mk hy116
    clear hy116
    by_cases c3 : (strOfNums y116).size + a0.size ≤ 9223372036854775807
    · rw [if_pos c3] at H
      have c3b0 := eq_true c3
      have c3b1 : decide ((strOfNums y116).size + a0.size ≤ 9223372036854775807) = true := decide_eq_true c3
      try have c3b2 : (9223372036854775807 < (strOfNums y116).size + a0.size) = False := eq_false (Nat.not_lt.2 c3)
      replace H := Option.bind_eq_some_iff.mp H
      obtain ⟨t119, A40, H⟩ := H
      replace H : ((some (([(Int.tmod t119 256) % 256, ((Int.tdiv t119 256) % 4294967296) % 256, ((Int.tdiv t119 65536) % 4294967296) % 256, ((Int.tdiv t119 16777216) % 4294967296) % 256] : List Int) : List Int)).bind fun y120 => (if ((strOfNums y116) ++ a0).size + (strOfNums y120).size ≤ 9223372036854775807 then (some (((strOfNums y116) ++ a0) ++ (strOfNums y120), 0)) else (none))) = some (r1, r2) := H
      have A4 := Aside0.mk A40
      clear A40
      obtain ⟨y120, hy120⟩ : ∃ y_ : List Int, y_ = (([(Int.tmod t119 256) % 256, ((Int.tdiv t119 256) % 4294967296) % 256, ((Int.tdiv t119 65536) % 4294967296) % 256, ((Int.tdiv t119 16777216) % 4294967296) % 256] : List Int)) := ⟨_, rfl⟩
      replace H : (if ((strOfNums y116) ++ a0).size + (strOfNums y120).size ≤ 9223372036854775807 then (some (((strOfNums y116) ++ a0) ++ (strOfNums y120), 0)) else (none)) = some (r1, r2) := by first | (rw [hy120]; with_reducible exact H) | (have H2_ := (Option.bind_some _ _).symm.trans H; rw [hy120]; with_reducible exact H2_) | (have H2_ := (Option.bind_some _ _).symm.trans H; with_reducible exact H2_) | with_reducible exact H | (rw [hy120]; exact H) | exact H
      have Ny120 := Aside0.mk hy120
      clear hy120
      by_cases c5 : ((strOfNums y116) ++ a0).size + (strOfNums y120).size ≤ 9223372036854775807
      · rw [if_pos c5] at H
        have c5b0 := eq_true c5
        have c5b1 : decide (((strOfNums y116) ++ a0).size + (strOfNums y120).size ≤ 9223372036854775807) = true := decide_eq_true c5
        try have c5b2 : (9223372036854775807 < ((strOfNums y116) ++ a0).size + (strOfNums y120).size) = False := eq_false (Nat.not_lt.2 c5)
        simp only [Option.some.injEq, Prod.mk.injEq] at H
        obtain ⟨rfl, rfl⟩ := H
        go_enter Try.func10, Try.ntmps10
        go_wp2_with (first | ((with_reducible refine gate_dst (N := 21) rfl ?_); refine Kd.R_lit (Kd.int .u8) _ 5 ?hg (N := 21) ?hd (xs := ([((a0.size : Int) / 65536) % 256, ((a0.size : Int) / 256 % 256) % 256, (a0.size : Int) % 256] : List Int)) (inner := [.int .u8 (((a0.size : Int) / 65536) % 256), .int .u8 (((a0.size : Int) / 256 % 256) % 256), .int .u8 ((a0.size : Int) % 256)]) (ok := fun _ => True) (okp := fun _ => True) ?hr ?hp (fun _ hk => hk) trivial (Below.refl _ _) (Nat.le_refl _) (by simp) ?_; (case hd => rfl); (case hg => rfl); (case hr => first | (go_simp; done) | (go_simp; rfl)); (case hp => exact (Reps.one (show Kd.M (Kd.int .u8) _ _ _ (((a0.size : Int) / 65536) % 256) [.int .u8 (((a0.size : Int) / 65536) % 256)] from rfl) (Reps.one (show Kd.M (Kd.int .u8) _ _ _ (((a0.size : Int) / 256 % 256) % 256) [.int .u8 (((a0.size : Int) / 256 % 256) % 256)] from rfl) (Reps.one (show Kd.M (Kd.int .u8) _ _ _ ((a0.size : Int) % 256) [.int .u8 ((a0.size : Int) % 256)] from rfl) (Reps.none _ _))))); intro v117 w6 ho7 hb hg_ hnew_; clear hg_ hnew_; (first | rw [← Ny116.out] at ho7 | (simp only [Int.reduceToNat] at ho7; rw [← Ny116.out] at ho7)); have n0_ := Aside0.mk (Kd.R_lower ho7 (below_size (by repeat (first | (with_reducible first | exact HB.out | apply below_alloc | apply pw_below_drewN | apply below_drew1) | exact HB.out)))); have n1_ := Aside0.mk (below_step (by repeat (first | (with_reducible first | exact HB.out | apply below_alloc | apply pw_below_drewN | apply below_drew1) | exact HB.out)) hb); clear HB; have HO118 := n0_; have HB := n1_; clear n0_ n1_; clear hb ho7; have hcv8 := own_string (P := Try.prog) Try.underlying31 Try.underlying5 Try.underlying9 (Kd.own_of_R HO118.out)) | ((with_reducible refine gate_callee (f := 12) rfl ?_); refine goesL_ (some 26) rfl rfl Try.func12 (by kernel_rfl) rfl #[.string ((strOfNums y116) ++ a0)] rfl (by (try simp only [List.map_toArray, List.map_cons, List.map_nil]); first | done | rfl | (simp only [List.length_drop, List.length_take]; rfl)) ?_; (with_reducible refine (auspiceref02_Sum.calls k ((strOfNums y116) ++ a0) t119 _ A4.out).mono ?_); rintro e w' ⟨rfl, ⟨nd, rfl⟩⟩; refine ⟨_, rfl, ?_⟩) | ((with_reducible refine gate_dst (N := 42) rfl ?_); refine Kd.R_lit (Kd.int .u8) _ 5 ?hg (N := 42) ?hd (xs := ([(Int.tmod t119 256) % 256, ((Int.tdiv t119 256) % 4294967296) % 256, ((Int.tdiv t119 65536) % 4294967296) % 256, ((Int.tdiv t119 16777216) % 4294967296) % 256] : List Int)) (inner := [.int .u8 ((Int.tmod t119 256) % 256), .int .u8 (((Int.tdiv t119 256) % 4294967296) % 256), .int .u8 (((Int.tdiv t119 65536) % 4294967296) % 256), .int .u8 (((Int.tdiv t119 16777216) % 4294967296) % 256)]) (ok := fun _ => True) (okp := fun _ => True) ?hr ?hp (fun _ hk => hk) trivial (Below.refl _ _) (Nat.le_refl _) (by simp) ?_; (case hd => rfl); (case hg => rfl); (case hr => first | (go_simp; done) | (go_simp; rfl)); (case hp => exact (Reps.one (show Kd.M (Kd.int .u8) _ _ _ ((Int.tmod t119 256) % 256) [.int .u8 ((Int.tmod t119 256) % 256)] from rfl) (Reps.one (show Kd.M (Kd.int .u8) _ _ _ (((Int.tdiv t119 256) % 4294967296) % 256) [.int .u8 (((Int.tdiv t119 256) % 4294967296) % 256)] from rfl) (Reps.one (show Kd.M (Kd.int .u8) _ _ _ (((Int.tdiv t119 65536) % 4294967296) % 256) [.int .u8 (((Int.tdiv t119 65536) % 4294967296) % 256)] from rfl) (Reps.one (show Kd.M (Kd.int .u8) _ _ _ (((Int.tdiv t119 16777216) % 4294967296) % 256) [.int .u8 (((Int.tdiv t119 16777216) % 4294967296) % 256)] from rfl) (Reps.none _ _)))))); intro v121 w9 ho10 hb hg_ hnew_; clear hg_ hnew_; (first | rw [← Ny120.out] at ho10 | (simp only [Int.reduceToNat] at ho10; rw [← Ny120.out] at ho10)); have n0_ := Aside0.mk (Kd.R_elder' (by (with_reducible repeat (first | apply Kd.R_alloc | apply Kd.R_drewN | apply Kd.R_drew)); exact HO118.out) (Kd.R_base ho10) hb); have n1_ := Aside0.mk (Kd.R_lower (Kd.R_new' ho10 (Kd.R_lt (by (with_reducible repeat (first | apply Kd.R_alloc | apply Kd.R_drewN | apply Kd.R_drew)); exact HO118.out))) (below_size (by repeat (first | (with_reducible first | exact HB.out | apply below_alloc | apply pw_below_drewN | apply below_drew1) | exact HB.out)))); have n2_ := Aside0.mk (below_step (by repeat (first | (with_reducible first | exact HB.out | apply below_alloc | apply pw_below_drewN | apply below_drew1) | exact HB.out)) hb); clear HO118; clear HB; have HO118 := n0_; have HO122 := n1_; have HB := n2_; clear n0_ n1_ n2_; clear hb ho10; have hcv11 := own_string (P := Try.prog) Try.underlying31 Try.underlying5 Try.underlying9 (Kd.own_of_R HO122.out)))
        go_ret2
        exact ⟨by first | rfl | (simp [errW_none, errW_some] <;> rfl) | (simp [*, errW_none, errW_some] <;> rfl), by repeat (first | (with_reducible first | exact HB.out | apply below_alloc | apply pw_below_drewN | apply below_drew1) | exact HB.out)⟩
      · rw [if_neg c5] at H
        exact absurd H (by simp)
    · rw [if_neg c3] at H
      exact absurd H (by simp)

/-! ### auspiceref02_Unpack: function 14 -/
def auspiceref02_Unpack.f (k : Nat) (a0 : ByteArray) : Option (ByteArray × ByteArray × Int) := if (a0.size : Int) < 3 then (some ((⟨#[]⟩ : ByteArray), (⟨#[]⟩ : ByteArray), 5)) else (if 0 < (a0.size : Int) then (if 1 < (a0.size : Int) then (if 2 < (a0.size : Int) then (if (wrap64 ((wrap64 ((wrap64 (65536 * (wrap64 (bt a0 0)))) + (wrap64 (256 * (wrap64 (bt a0 1)))))) + (wrap64 (bt a0 2)))) > 1048576 then (some ((⟨#[]⟩ : ByteArray), (⟨#[]⟩ : ByteArray), 2)) else (if (a0.size : Int) < (wrap64 ((wrap64 ((wrap64 ((wrap64 (65536 * (wrap64 (bt a0 0)))) + (wrap64 (256 * (wrap64 (bt a0 1)))))) + (wrap64 (bt a0 2)))) + 7)) then (some ((⟨#[]⟩ : ByteArray), (⟨#[]⟩ : ByteArray), 5)) else (if 3 ≤ (wrap64 ((wrap64 ((wrap64 ((wrap64 (65536 * (wrap64 (bt a0 0)))) + (wrap64 (256 * (wrap64 (bt a0 1)))))) + (wrap64 (bt a0 2)))) + 3)) then (if (wrap64 ((wrap64 ((wrap64 ((wrap64 (65536 * (wrap64 (bt a0 0)))) + (wrap64 (256 * (wrap64 (bt a0 1)))))) + (wrap64 (bt a0 2)))) + 3)) ≤ (a0.size : Int) then ((auspiceref02_Pack.f k (a0.extract 3 ((wrap64 ((wrap64 ((wrap64 ((wrap64 (65536 * (wrap64 (bt a0 0)))) + (wrap64 (256 * (wrap64 (bt a0 1)))))) + (wrap64 (bt a0 2)))) + 3)) : Int).toNat)).bind fun bt123 => (if 0 ≤ (wrap64 ((wrap64 ((wrap64 ((wrap64 (65536 * (wrap64 (bt a0 0)))) + (wrap64 (256 * (wrap64 (bt a0 1)))))) + (wrap64 (bt a0 2)))) + 7)) then (if (wrap64 ((wrap64 ((wrap64 ((wrap64 (65536 * (wrap64 (bt a0 0)))) + (wrap64 (256 * (wrap64 (bt a0 1)))))) + (wrap64 (bt a0 2)))) + 7)) ≤ (a0.size : Int) then (if bt123.1.toList = (a0.extract 0 ((wrap64 ((wrap64 ((wrap64 ((wrap64 (65536 * (wrap64 (bt a0 0)))) + (wrap64 (256 * (wrap64 (bt a0 1)))))) + (wrap64 (bt a0 2)))) + 7)) : Int).toNat).toList then (some (a0.extract 3 ((wrap64 ((wrap64 ((wrap64 ((wrap64 (65536 * (wrap64 (bt a0 0)))) + (wrap64 (256 * (wrap64 (bt a0 1)))))) + (wrap64 (bt a0 2)))) + 3)) : Int).toNat, a0.extract ((wrap64 ((wrap64 ((wrap64 ((wrap64 (65536 * (wrap64 (bt a0 0)))) + (wrap64 (256 * (wrap64 (bt a0 1)))))) + (wrap64 (bt a0 2)))) + 7)) : Int).toNat a0.size, 0)) else (some ((⟨#[]⟩ : ByteArray), (⟨#[]⟩ : ByteArray), 6))) else (none)) else (none))) else (none)) else (none)))) else (none)) else (none)) else (none))
theorem auspiceref02_Unpack.mono : ∀ a0 k, LeO (auspiceref02_Unpack.f k a0) (auspiceref02_Unpack.f (k + 1) a0) := by
  intro a0 k
  unfold auspiceref02_Unpack.f
  repeat' first
      | (with_reducible exact auspiceref02_Pack.mono _ _)
      | (with_reducible exact LeO.refl _)
      | (with_reducible exact LeO.none _)
      | (with_reducible refine LeO.ite ?_ ?_)
      | (with_reducible refine LeO.bind ?_ (fun _ => ?_))
      | exact auspiceref02_Pack.mono _ _
      | exact LeO.none _
      | refine LeO.ite ?_ ?_
      | refine LeO.bind ?_ (fun _ => ?_)
set_option maxHeartbeats 8000000 in
set_option maxRecDepth 100000 in
theorem auspiceref02_Unpack.calls (k : Nat) (a0 : ByteArray) (r1 : ByteArray) (r2 : ByteArray) (r3 : Int) (w : World) (h : auspiceref02_Unpack.f k a0 = some (r1, r2, r3)) :
    Calls Try.prog 14 #[.string a0] w fun e w' => e = .returned (.tuple #[.string r1, .string r2, .int .i64 r3]) ∧ Below w.heap.size w w' := by
  have HB := Aside0.mk (Below.refl w.heap.size w)
  have H : (if (a0.size : Int) < 3 then (some ((⟨#[]⟩ : ByteArray), (⟨#[]⟩ : ByteArray), 5)) else (if 0 < (a0.size : Int) then (if 1 < (a0.size : Int) then (if 2 < (a0.size : Int) then (if (wrap64 ((wrap64 ((wrap64 (65536 * (wrap64 (bt a0 0)))) + (wrap64 (256 * (wrap64 (bt a0 1)))))) + (wrap64 (bt a0 2)))) > 1048576 then (some ((⟨#[]⟩ : ByteArray), (⟨#[]⟩ : ByteArray), 2)) else (if (a0.size : Int) < (wrap64 ((wrap64 ((wrap64 ((wrap64 (65536 * (wrap64 (bt a0 0)))) + (wrap64 (256 * (wrap64 (bt a0 1)))))) + (wrap64 (bt a0 2)))) + 7)) then (some ((⟨#[]⟩ : ByteArray), (⟨#[]⟩ : ByteArray), 5)) else (if 3 ≤ (wrap64 ((wrap64 ((wrap64 ((wrap64 (65536 * (wrap64 (bt a0 0)))) + (wrap64 (256 * (wrap64 (bt a0 1)))))) + (wrap64 (bt a0 2)))) + 3)) then (if (wrap64 ((wrap64 ((wrap64 ((wrap64 (65536 * (wrap64 (bt a0 0)))) + (wrap64 (256 * (wrap64 (bt a0 1)))))) + (wrap64 (bt a0 2)))) + 3)) ≤ (a0.size : Int) then ((auspiceref02_Pack.f k (a0.extract 3 ((wrap64 ((wrap64 ((wrap64 ((wrap64 (65536 * (wrap64 (bt a0 0)))) + (wrap64 (256 * (wrap64 (bt a0 1)))))) + (wrap64 (bt a0 2)))) + 3)) : Int).toNat)).bind fun bt123 => (if 0 ≤ (wrap64 ((wrap64 ((wrap64 ((wrap64 (65536 * (wrap64 (bt a0 0)))) + (wrap64 (256 * (wrap64 (bt a0 1)))))) + (wrap64 (bt a0 2)))) + 7)) then (if (wrap64 ((wrap64 ((wrap64 ((wrap64 (65536 * (wrap64 (bt a0 0)))) + (wrap64 (256 * (wrap64 (bt a0 1)))))) + (wrap64 (bt a0 2)))) + 7)) ≤ (a0.size : Int) then (if bt123.1.toList = (a0.extract 0 ((wrap64 ((wrap64 ((wrap64 ((wrap64 (65536 * (wrap64 (bt a0 0)))) + (wrap64 (256 * (wrap64 (bt a0 1)))))) + (wrap64 (bt a0 2)))) + 7)) : Int).toNat).toList then (some (a0.extract 3 ((wrap64 ((wrap64 ((wrap64 ((wrap64 (65536 * (wrap64 (bt a0 0)))) + (wrap64 (256 * (wrap64 (bt a0 1)))))) + (wrap64 (bt a0 2)))) + 3)) : Int).toNat, a0.extract ((wrap64 ((wrap64 ((wrap64 ((wrap64 (65536 * (wrap64 (bt a0 0)))) + (wrap64 (256 * (wrap64 (bt a0 1)))))) + (wrap64 (bt a0 2)))) + 7)) : Int).toNat a0.size, 0)) else (some ((⟨#[]⟩ : ByteArray), (⟨#[]⟩ : ByteArray), 6))) else (none)) else (none))) else (none)) else (none)))) else (none)) else (none)) else (none))) = some (r1, r2, r3) := h
  clear h
  by_cases c2 : (a0.size : Int) < 3
  · rw [if_pos c2] at H
    have c2b0 : decide ((a0.size : Int) < 3) = true := decide_eq_true c2
    have c2b1 : decide (a0.size < 3) = true := decide_eq_true (by omega)
    clear c2
    simp only [Option.some.injEq, Prod.mk.injEq] at H
    obtain ⟨rfl, rfl, rfl⟩ := H
    go_enter Try.func14, Try.ntmps14
    go_wp2
    repeat (go_quiet (fail); try go_wp2)
    go_ret3
    exact ⟨by first | rfl | (simp [errW_none, errW_some] <;> rfl) | (simp [*, errW_none, errW_some] <;> rfl), by repeat (first | (with_reducible first | exact HB.out | apply below_alloc | apply pw_below_drewN | apply below_drew1) | exact HB.out)⟩
  · rw [if_neg c2] at H
    have c2b0 : decide ((a0.size : Int) < 3) = false := decide_eq_false c2
    have c2b1 : decide (a0.size < 3) = false := decide_eq_false (by omega)
    clear c2
    by_cases c3 : 0 < (a0.size : Int)
    · rw [if_pos c3] at H
      have c3b0 : decide (0 < (a0.size : Int)) = true := decide_eq_true c3
      have c3b1 : decide (0 < a0.size) = true := decide_eq_true (by omega)
      clear c3
      by_cases c5 : 1 < (a0.size : Int)
      · rw [if_pos c5] at H
        have c5b0 : decide (1 < (a0.size : Int)) = true := decide_eq_true c5
        have c5b1 : decide (1 < a0.size) = true := decide_eq_true (by omega)
        clear c5
        by_cases c7 : 2 < (a0.size : Int)
        · rw [if_pos c7] at H
          have c7b0 : decide (2 < (a0.size : Int)) = true := decide_eq_true c7
          have c7b1 : decide (2 < a0.size) = true := decide_eq_true (by omega)
          clear c7
          by_cases c9 : (wrap64 ((wrap64 ((wrap64 (65536 * (wrap64 (bt a0 0)))) + (wrap64 (256 * (wrap64 (bt a0 1)))))) + (wrap64 (bt a0 2)))) > 1048576
          · rw [if_pos c9] at H
            have c9b0 : decide (1048576 < (wrap64 ((wrap64 ((wrap64 (65536 * (wrap64 (bt a0 0)))) + (wrap64 (256 * (wrap64 (bt a0 1)))))) + (wrap64 (bt a0 2))))) = true := decide_eq_true c9
            clear c9
            simp only [Option.some.injEq, Prod.mk.injEq] at H
            obtain ⟨rfl, rfl, rfl⟩ := H
            have p4 : 0 ≤ (0 : Int) := (by omega)
            have q4 : 0 < a0.size := (by have : (0 : Int) < (a0.size : Int) := of_decide_eq_true (by first | (with_reducible assumption) | assumption); omega)
            have hx4 : ∀ h : 0 < a0.size, ((a0[0]'h).toNat : Int) = bt a0 0 := bt_at a0 0
            clear p4
            have qi4 : (0 < (a0.size : Int)) = True := eq_true (of_decide_eq_true (by first | (with_reducible assumption) | assumption))
            replace q4 := eq_true q4
            have p6 : 0 ≤ (1 : Int) := (by omega)
            have q6 : 1 < a0.size := (by have : (1 : Int) < (a0.size : Int) := of_decide_eq_true (by first | (with_reducible assumption) | assumption); omega)
            have hx6 : ∀ h : 1 < a0.size, ((a0[1]'h).toNat : Int) = bt a0 1 := bt_at a0 1
            clear p6
            have qi6 : (1 < (a0.size : Int)) = True := eq_true (of_decide_eq_true (by first | (with_reducible assumption) | assumption))
            replace q6 := eq_true q6
            have p8 : 0 ≤ (2 : Int) := (by omega)
            have q8 : 2 < a0.size := (by have : (2 : Int) < (a0.size : Int) := of_decide_eq_true (by first | (with_reducible assumption) | assumption); omega)
            have hx8 : ∀ h : 2 < a0.size, ((a0[2]'h).toNat : Int) = bt a0 2 := bt_at a0 2
            clear p8
            have qi8 : (2 < (a0.size : Int)) = True := eq_true (of_decide_eq_true (by first | (with_reducible assumption) | assumption))
            replace q8 := eq_true q8
            go_enter Try.func14, Try.ntmps14
            go_wp2
            repeat (go_quiet (fail); try go_wp2)
            go_ret3
            exact ⟨by first | rfl | (simp [errW_none, errW_some] <;> rfl) | (simp [*, errW_none, errW_some] <;> rfl), by repeat (first | (with_reducible first | exact HB.out | apply below_alloc | apply pw_below_drewN | apply below_drew1) | exact HB.out)⟩
          · rw [if_neg c9] at H
            have c9b0 : decide (1048576 < (wrap64 ((wrap64 ((wrap64 (65536 * (wrap64 (bt a0 0)))) + (wrap64 (256 * (wrap64 (bt a0 1)))))) + (wrap64 (bt a0 2))))) = false := decide_eq_false c9
            clear c9
            by_cases c10 : (a0.size : Int) < (wrap64 ((wrap64 ((wrap64 ((wrap64 (65536 * (wrap64 (bt a0 0)))) + (wrap64 (256 * (wrap64 (bt a0 1)))))) + (wrap64 (bt a0 2)))) + 7))
            · rw [if_pos c10] at H
              have c10b0 : decide ((a0.size : Int) < (wrap64 ((wrap64 ((wrap64 ((wrap64 (65536 * (wrap64 (bt a0 0)))) + (wrap64 (256 * (wrap64 (bt a0 1)))))) + (wrap64 (bt a0 2)))) + 7))) = true := decide_eq_true c10
              clear c10
              simp only [Option.some.injEq, Prod.mk.injEq] at H
              obtain ⟨rfl, rfl, rfl⟩ := H
              have p4 : 0 ≤ (0 : Int) := (by omega)
              have q4 : 0 < a0.size := (by have : (0 : Int) < (a0.size : Int) := of_decide_eq_true (by first | (with_reducible assumption) | assumption); omega)
              have hx4 : ∀ h : 0 < a0.size, ((a0[0]'h).toNat : Int) = bt a0 0 := bt_at a0 0
              clear p4
              have qi4 : (0 < (a0.size : Int)) = True := eq_true (of_decide_eq_true (by first | (with_reducible assumption) | assumption))
              replace q4 := eq_true q4
              have p6 : 0 ≤ (1 : Int) := (by omega)
              have q6 : 1 < a0.size := (by have : (1 : Int) < (a0.size : Int) := of_decide_eq_true (by first | (with_reducible assumption) | assumption); omega)
              have hx6 : ∀ h : 1 < a0.size, ((a0[1]'h).toNat : Int) = bt a0 1 := bt_at a0 1
              clear p6
              have qi6 : (1 < (a0.size : Int)) = True := eq_true (of_decide_eq_true (by first | (with_reducible assumption) | assumption))
              replace q6 := eq_true q6
              have p8 : 0 ≤ (2 : Int) := (by omega)
              have q8 : 2 < a0.size := (by have : (2 : Int) < (a0.size : Int) := of_decide_eq_true (by first | (with_reducible assumption) | assumption); omega)
              have hx8 : ∀ h : 2 < a0.size, ((a0[2]'h).toNat : Int) = bt a0 2 := bt_at a0 2
              clear p8
              have qi8 : (2 < (a0.size : Int)) = True := eq_true (of_decide_eq_true (by first | (with_reducible assumption) | assumption))
              replace q8 := eq_true q8
              go_enter Try.func14, Try.ntmps14
              go_wp2
              repeat (go_quiet (fail); try go_wp2)
              go_ret3
              exact ⟨by first | rfl | (simp [errW_none, errW_some] <;> rfl) | (simp [*, errW_none, errW_some] <;> rfl), by repeat (first | (with_reducible first | exact HB.out | apply below_alloc | apply pw_below_drewN | apply below_drew1) | exact HB.out)⟩
            · rw [if_neg c10] at H
              have c10b0 : decide ((a0.size : Int) < (wrap64 ((wrap64 ((wrap64 ((wrap64 (65536 * (wrap64 (bt a0 0)))) + (wrap64 (256 * (wrap64 (bt a0 1)))))) + (wrap64 (bt a0 2)))) + 7))) = false := decide_eq_false c10
              clear c10
              by_cases c11 : 3 ≤ (wrap64 ((wrap64 ((wrap64 ((wrap64 (65536 * (wrap64 (bt a0 0)))) + (wrap64 (256 * (wrap64 (bt a0 1)))))) + (wrap64 (bt a0 2)))) + 3))
              · rw [if_pos c11] at H
                have c11b0 := eq_true c11
                have c11b1 : decide (3 ≤ (wrap64 ((wrap64 ((wrap64 ((wrap64 (65536 * (wrap64 (bt a0 0)))) + (wrap64 (256 * (wrap64 (bt a0 1)))))) + (wrap64 (bt a0 2)))) + 3))) = true := decide_eq_true c11
                by_cases c12 : (wrap64 ((wrap64 ((wrap64 ((wrap64 (65536 * (wrap64 (bt a0 0)))) + (wrap64 (256 * (wrap64 (bt a0 1)))))) + (wrap64 (bt a0 2)))) + 3)) ≤ (a0.size : Int)
                · rw [if_pos c12] at H
                  have c12b0 := eq_true c12
                  have c12b1 : decide ((wrap64 ((wrap64 ((wrap64 ((wrap64 (65536 * (wrap64 (bt a0 0)))) + (wrap64 (256 * (wrap64 (bt a0 1)))))) + (wrap64 (bt a0 2)))) + 3)) ≤ (a0.size : Int)) = true := decide_eq_true c12
                  replace H := Option.bind_eq_some_iff.mp H
                  obtain ⟨⟨t123, t124⟩, A130, H⟩ := H
                  replace H : (if 0 ≤ (wrap64 ((wrap64 ((wrap64 ((wrap64 (65536 * (wrap64 (bt a0 0)))) + (wrap64 (256 * (wrap64 (bt a0 1)))))) + (wrap64 (bt a0 2)))) + 7)) then (if (wrap64 ((wrap64 ((wrap64 ((wrap64 (65536 * (wrap64 (bt a0 0)))) + (wrap64 (256 * (wrap64 (bt a0 1)))))) + (wrap64 (bt a0 2)))) + 7)) ≤ (a0.size : Int) then (if t123.toList = (a0.extract 0 ((wrap64 ((wrap64 ((wrap64 ((wrap64 (65536 * (wrap64 (bt a0 0)))) + (wrap64 (256 * (wrap64 (bt a0 1)))))) + (wrap64 (bt a0 2)))) + 7)) : Int).toNat).toList then (some (a0.extract 3 ((wrap64 ((wrap64 ((wrap64 ((wrap64 (65536 * (wrap64 (bt a0 0)))) + (wrap64 (256 * (wrap64 (bt a0 1)))))) + (wrap64 (bt a0 2)))) + 3)) : Int).toNat, a0.extract ((wrap64 ((wrap64 ((wrap64 ((wrap64 (65536 * (wrap64 (bt a0 0)))) + (wrap64 (256 * (wrap64 (bt a0 1)))))) + (wrap64 (bt a0 2)))) + 7)) : Int).toNat a0.size, 0)) else (some ((⟨#[]⟩ : ByteArray), (⟨#[]⟩ : ByteArray), 6))) else (none)) else (none)) = some (r1, r2, r3) := H
                  have A13 := Aside0.mk A130
                  clear A130
                  obtain ⟨ji14, hji14⟩ : ∃ j_ : Int, (wrap64 ((wrap64 ((wrap64 ((wrap64 (65536 * (wrap64 (bt a0 0)))) + (wrap64 (256 * (wrap64 (bt a0 1)))))) + (wrap64 (bt a0 2)))) + 7)) = j_ := ⟨_, rfl⟩
                  replace H : (if 0 ≤ (ji14) then (if (ji14) ≤ (a0.size : Int) then (if t123.toList = (a0.extract 0 ((ji14) : Int).toNat).toList then (some (a0.extract 3 ((wrap64 ((wrap64 ((wrap64 ((wrap64 (65536 * (wrap64 (bt a0 0)))) + (wrap64 (256 * (wrap64 (bt a0 1)))))) + (wrap64 (bt a0 2)))) + 3)) : Int).toNat, a0.extract ((ji14) : Int).toNat a0.size, 0)) else (some ((⟨#[]⟩ : ByteArray), (⟨#[]⟩ : ByteArray), 6))) else (none)) else (none)) = some (r1, r2, r3) := by first | (rw [hji14] at H; exact H) | (simp only [hji14] at H ⊢; exact H)
                  (try rw [hji14] at c10b0)
                  (try rw [hji14] at A13)
                  have hji14w : (IntKind.i64.wrap ((wrap64 ((wrap64 ((wrap64 (65536 * (wrap64 (bt a0 0)))) + (wrap64 (256 * (wrap64 (bt a0 1)))))) + (wrap64 (bt a0 2)))) + 7)) = ji14 := (i64_w _).trans hji14
                  by_cases c15 : 0 ≤ (ji14)
                  · rw [if_pos c15] at H
                    have c15b0 := eq_true c15
                    have c15b1 : decide (0 ≤ (ji14)) = true := decide_eq_true c15
                    clear c15
                    by_cases c16 : (ji14) ≤ (a0.size : Int)
                    · rw [if_pos c16] at H
                      have c16b0 := eq_true c16
                      have c16b1 : decide ((ji14) ≤ (a0.size : Int)) = true := decide_eq_true c16
                      clear c16
                      by_cases c17 : t123.toList = (a0.extract 0 ((ji14) : Int).toNat).toList
                      · rw [if_pos c17] at H
                        have c17b0 : (t123.toList == (a0.extract 0 ((ji14) : Int).toNat).toList) = true := beq_iff_eq.mpr c17
                        have c17b1 : (t123.toList != (a0.extract 0 ((ji14) : Int).toNat).toList) = false := bne_eq_false_iff_eq.mpr c17
                        clear c17
                        have c18b0 := eq_true (of_decide_eq_true (by first | (with_reducible assumption) | assumption) : 3 ≤ (wrap64 ((wrap64 ((wrap64 ((wrap64 (65536 * (wrap64 (bt a0 0)))) + (wrap64 (256 * (wrap64 (bt a0 1)))))) + (wrap64 (bt a0 2)))) + 3)))
                        have c19b0 := eq_true (of_decide_eq_true (by first | (with_reducible assumption) | assumption) : (wrap64 ((wrap64 ((wrap64 ((wrap64 (65536 * (wrap64 (bt a0 0)))) + (wrap64 (256 * (wrap64 (bt a0 1)))))) + (wrap64 (bt a0 2)))) + 3)) ≤ (a0.size : Int))
                        have c20b0 := eq_true (of_decide_eq_true (by first | (with_reducible assumption) | assumption) : 0 ≤ (ji14))
                        have c21b0 := eq_true (of_decide_eq_true (by first | (with_reducible assumption) | assumption) : (ji14) ≤ (a0.size : Int))
                        simp only [Option.some.injEq, Prod.mk.injEq] at H
                        obtain ⟨rfl, rfl, rfl⟩ := H
                        have p4 : 0 ≤ (0 : Int) := (by omega)
                        have q4 : 0 < a0.size := (by have : (0 : Int) < (a0.size : Int) := of_decide_eq_true (by first | (with_reducible assumption) | assumption); omega)
                        have hx4 : ∀ h : 0 < a0.size, ((a0[0]'h).toNat : Int) = bt a0 0 := bt_at a0 0
                        clear p4
                        have qi4 : (0 < (a0.size : Int)) = True := eq_true (of_decide_eq_true (by first | (with_reducible assumption) | assumption))
                        replace q4 := eq_true q4
                        have p6 : 0 ≤ (1 : Int) := (by omega)
                        have q6 : 1 < a0.size := (by have : (1 : Int) < (a0.size : Int) := of_decide_eq_true (by first | (with_reducible assumption) | assumption); omega)
                        have hx6 : ∀ h : 1 < a0.size, ((a0[1]'h).toNat : Int) = bt a0 1 := bt_at a0 1
                        clear p6
                        have qi6 : (1 < (a0.size : Int)) = True := eq_true (of_decide_eq_true (by first | (with_reducible assumption) | assumption))
                        replace q6 := eq_true q6
                        have p8 : 0 ≤ (2 : Int) := (by omega)
                        have q8 : 2 < a0.size := (by have : (2 : Int) < (a0.size : Int) := of_decide_eq_true (by first | (with_reducible assumption) | assumption); omega)
                        have hx8 : ∀ h : 2 < a0.size, ((a0[2]'h).toNat : Int) = bt a0 2 := bt_at a0 2
                        clear p8
                        have qi8 : (2 < (a0.size : Int)) = True := eq_true (of_decide_eq_true (by first | (with_reducible assumption) | assumption))
                        replace q8 := eq_true q8
                        go_enter Try.func14, Try.ntmps14
                        go_wp2_with (first | (go_at_call 10; (with_reducible refine (auspiceref02_Pack.calls k (a0.extract 3 ((wrap64 ((wrap64 ((wrap64 ((wrap64 (65536 * (wrap64 (bt a0 0)))) + (wrap64 (256 * (wrap64 (bt a0 1)))))) + (wrap64 (bt a0 2)))) + 3)) : Int).toNat) t123 t124 _ A13.out).mono ?_); rintro e w22 ⟨rfl, hb⟩; have n0_ := Aside0.mk (below_step (by repeat (first | (with_reducible first | exact HB.out | apply below_alloc | apply pw_below_drewN | apply below_drew1) | exact HB.out)) hb); clear HB; have HB := n0_; clear n0_; (try clear hb); (try clear hb2); (try clear hk); (try clear hi)))
                        repeat (go_quiet (first | (go_at_call 10; (with_reducible refine (auspiceref02_Pack.calls k (a0.extract 3 ((wrap64 ((wrap64 ((wrap64 ((wrap64 (65536 * (wrap64 (bt a0 0)))) + (wrap64 (256 * (wrap64 (bt a0 1)))))) + (wrap64 (bt a0 2)))) + 3)) : Int).toNat) t123 t124 _ A13.out).mono ?_); rintro e w22 ⟨rfl, hb⟩; have n0_ := Aside0.mk (below_step (by repeat (first | (with_reducible first | exact HB.out | apply below_alloc | apply pw_below_drewN | apply below_drew1) | exact HB.out)) hb); clear HB; have HB := n0_; clear n0_; (try clear hb); (try clear hb2); (try clear hk); (try clear hi))); try go_wp2_with (first | (go_at_call 10; (with_reducible refine (auspiceref02_Pack.calls k (a0.extract 3 ((wrap64 ((wrap64 ((wrap64 ((wrap64 (65536 * (wrap64 (bt a0 0)))) + (wrap64 (256 * (wrap64 (bt a0 1)))))) + (wrap64 (bt a0 2)))) + 3)) : Int).toNat) t123 t124 _ A13.out).mono ?_); rintro e w22 ⟨rfl, hb⟩; have n0_ := Aside0.mk (below_step (by repeat (first | (with_reducible first | exact HB.out | apply below_alloc | apply pw_below_drewN | apply below_drew1) | exact HB.out)) hb); clear HB; have HB := n0_; clear n0_; (try clear hb); (try clear hb2); (try clear hk); (try clear hi))))
                        go_ret3
                        exact ⟨by first | rfl | (simp [errW_none, errW_some] <;> rfl) | (simp only [← hji14]; first | rfl | (simp [errW_none, errW_some] <;> rfl)) | (simp [*, errW_none, errW_some] <;> rfl), by repeat (first | (with_reducible first | exact HB.out | apply below_alloc | apply pw_below_drewN | apply below_drew1) | exact HB.out)⟩
                      · rw [if_neg c17] at H
                        have c17b0 : (t123.toList == (a0.extract 0 ((ji14) : Int).toNat).toList) = false := beq_eq_false_iff_ne.mpr c17
                        have c17b1 : (t123.toList != (a0.extract 0 ((ji14) : Int).toNat).toList) = true := bne_iff_ne.mpr c17
                        simp only [Option.some.injEq, Prod.mk.injEq] at H
                        obtain ⟨rfl, rfl, rfl⟩ := H
                        have p4 : 0 ≤ (0 : Int) := (by omega)
                        have q4 : 0 < a0.size := (by have : (0 : Int) < (a0.size : Int) := of_decide_eq_true (by first | (with_reducible assumption) | assumption); omega)
                        have hx4 : ∀ h : 0 < a0.size, ((a0[0]'h).toNat : Int) = bt a0 0 := bt_at a0 0
                        clear p4
                        have qi4 : (0 < (a0.size : Int)) = True := eq_true (of_decide_eq_true (by first | (with_reducible assumption) | assumption))
                        replace q4 := eq_true q4
                        have p6 : 0 ≤ (1 : Int) := (by omega)
                        have q6 : 1 < a0.size := (by have : (1 : Int) < (a0.size : Int) := of_decide_eq_true (by first | (with_reducible assumption) | assumption); omega)
                        have hx6 : ∀ h : 1 < a0.size, ((a0[1]'h).toNat : Int) = bt a0 1 := bt_at a0 1
                        clear p6
                        have qi6 : (1 < (a0.size : Int)) = True := eq_true (of_decide_eq_true (by first | (with_reducible assumption) | assumption))
                        replace q6 := eq_true q6
                        have p8 : 0 ≤ (2 : Int) := (by omega)
                        have q8 : 2 < a0.size := (by have : (2 : Int) < (a0.size : Int) := of_decide_eq_true (by first | (with_reducible assumption) | assumption); omega)
                        have hx8 : ∀ h : 2 < a0.size, ((a0[2]'h).toNat : Int) = bt a0 2 := bt_at a0 2
                        clear p8
                        have qi8 : (2 < (a0.size : Int)) = True := eq_true (of_decide_eq_true (by first | (with_reducible assumption) | assumption))
                        replace q8 := eq_true q8
                        go_enter Try.func14, Try.ntmps14
                        go_wp2_with (first | (go_at_call 10; (with_reducible refine (auspiceref02_Pack.calls k (a0.extract 3 ((wrap64 ((wrap64 ((wrap64 ((wrap64 (65536 * (wrap64 (bt a0 0)))) + (wrap64 (256 * (wrap64 (bt a0 1)))))) + (wrap64 (bt a0 2)))) + 3)) : Int).toNat) t123 t124 _ A13.out).mono ?_); rintro e w23 ⟨rfl, hb⟩; have n0_ := Aside0.mk (below_step (by repeat (first | (with_reducible first | exact HB.out | apply below_alloc | apply pw_below_drewN | apply below_drew1) | exact HB.out)) hb); clear HB; have HB := n0_; clear n0_; (try clear hb); (try clear hb2); (try clear hk); (try clear hi)))
                        repeat (go_quiet (first | (go_at_call 10; (with_reducible refine (auspiceref02_Pack.calls k (a0.extract 3 ((wrap64 ((wrap64 ((wrap64 ((wrap64 (65536 * (wrap64 (bt a0 0)))) + (wrap64 (256 * (wrap64 (bt a0 1)))))) + (wrap64 (bt a0 2)))) + 3)) : Int).toNat) t123 t124 _ A13.out).mono ?_); rintro e w23 ⟨rfl, hb⟩; have n0_ := Aside0.mk (below_step (by repeat (first | (with_reducible first | exact HB.out | apply below_alloc | apply pw_below_drewN | apply below_drew1) | exact HB.out)) hb); clear HB; have HB := n0_; clear n0_; (try clear hb); (try clear hb2); (try clear hk); (try clear hi))); try go_wp2_with (first | (go_at_call 10; (with_reducible refine (auspiceref02_Pack.calls k (a0.extract 3 ((wrap64 ((wrap64 ((wrap64 ((wrap64 (65536 * (wrap64 (bt a0 0)))) + (wrap64 (256 * (wrap64 (bt a0 1)))))) + (wrap64 (bt a0 2)))) + 3)) : Int).toNat) t123 t124 _ A13.out).mono ?_); rintro e w23 ⟨rfl, hb⟩; have n0_ := Aside0.mk (below_step (by repeat (first | (with_reducible first | exact HB.out | apply below_alloc | apply pw_below_drewN | apply below_drew1) | exact HB.out)) hb); clear HB; have HB := n0_; clear n0_; (try clear hb); (try clear hb2); (try clear hk); (try clear hi))))
                        go_ret3
                        exact ⟨by first | rfl | (simp [errW_none, errW_some] <;> rfl) | (simp only [← hji14]; first | rfl | (simp [errW_none, errW_some] <;> rfl)) | (simp [*, errW_none, errW_some] <;> rfl), by repeat (first | (with_reducible first | exact HB.out | apply below_alloc | apply pw_below_drewN | apply below_drew1) | exact HB.out)⟩
                    · rw [if_neg c16] at H
                      exact absurd H (by simp)
                  · rw [if_neg c15] at H
                    exact absurd H (by simp)
                · rw [if_neg c12] at H
                  exact absurd H (by simp)
              · rw [if_neg c11] at H
                exact absurd H (by simp)
        · rw [if_neg c7] at H
          exact absurd H (by simp)
      · rw [if_neg c5] at H
        exact absurd H (by simp)
    · rw [if_neg c3] at H
      exact absurd H (by simp)

/-! ### crc_All: function 15 -/
def crc_All.l0 : Nat → ByteArray → List ByteArray → Option (List ByteArray × ByteArray)
  | 0, _, _ => none
  | k + 1, x0, x2 => (crc_Unpack.f k x0).bind fun bt125 => (if bt125.2.2 = 0 then (if x2.length < 8796093022208 then (crc_All.l0 k bt125.2.1 (x2 ++ [bt125.1])) else (none)) else (some (x2, x0)))
def crc_All.f (k : Nat) (a0 : ByteArray) : Option (List ByteArray × ByteArray) := crc_All.l0 k a0 ([] : List ByteArray)
theorem crc_All.mono_l : ∀ k, (∀ y0 y1, LeO (crc_All.l0 k y0 y1) (crc_All.l0 (k + 1) y0 y1))
  | 0 => fun _ _ r h => by simp [crc_All.l0] at h
  | k + 1 => by
    have ih0 := crc_All.mono_l k
    · intro y0 y1
      unfold crc_All.l0
      repeat' first
      | (with_reducible exact ih0 _ _)
      | (with_reducible exact crc_Unpack.mono _ _)
      | (with_reducible exact LeO.refl _)
      | (with_reducible exact LeO.none _)
      | (with_reducible refine LeO.ite ?_ ?_)
      | (with_reducible refine LeO.bind ?_ (fun _ => ?_))
      | exact ih0 _ _
      | exact crc_Unpack.mono _ _
      | exact LeO.none _
      | refine LeO.ite ?_ ?_
      | refine LeO.bind ?_ (fun _ => ?_)
theorem crc_All.mono : ∀ a0 k, LeO (crc_All.f k a0) (crc_All.f (k + 1) a0) := by
  intro a0 k
  have ih0 := crc_All.mono_l k
  unfold crc_All.f
  repeat' first
      | (with_reducible exact ih0 _ _)
      | (with_reducible exact crc_Unpack.mono _ _)
      | (with_reducible exact LeO.refl _)
      | (with_reducible exact LeO.none _)
      | (with_reducible refine LeO.ite ?_ ?_)
      | (with_reducible refine LeO.bind ?_ (fun _ => ?_))
      | exact ih0 _ _
      | exact crc_Unpack.mono _ _
      | exact LeO.none _
      | refine LeO.ite ?_ ?_
      | refine LeO.bind ?_ (fun _ => ?_)
set_option maxHeartbeats 8000000 in
set_option maxRecDepth 100000 in
theorem crc_All.calls (k : Nat) (a0 : ByteArray) (r1 : List ByteArray) (r2 : ByteArray) (w : World) (h : crc_All.f k a0 = some (r1, r2)) :
    Calls Try.prog 15 #[.string a0] w fun e w' => ∃ v0_ : Value, e = .returned (.tuple #[v0_, .string r2]) ∧ Kd.R Kd.string 9 w' w.heap.size (fun _ => True) v0_ r1 ∧ Below w.heap.size w w' := by
  have HB := Aside0.mk (Below.refl w.heap.size w)
  have H : (crc_All.l0 k a0 ([] : List ByteArray)) = some (r1, r2) := h
  clear h
  have H' := Aside0.mk H
  clear H
  go_enter Try.func15, Try.ntmps15
  go_wp2
  go_loopg [0, 2] k (fun kq v0 v2 w' => ∃ (x0_1 : ByteArray) (x2_1 : List ByteArray), v0 = .string x0_1 ∧ Aside0 (crc_All.l0 kq x0_1 x2_1 = some (r1, r2)) ∧ Aside0 (kq ≤ k) ∧ Aside0 (Kd.R Kd.string 9 w' w.heap.size (fun _ => True) v2 x2_1) ∧ Aside0 (Below w.heap.size w w'))
  case atStart => exact ⟨(a0), (([] : List ByteArray)), (by first | rfl | (simp; done) | (simp [*]; done)), H', ⟨Nat.le_refl _⟩, ⟨by first | exact Kd.R_nil _ _ _ _ _ | exact Kd.N_nil _ _ _ _ _ | exact Kd.V_nil _ _ _ _ _ | exact Kd.Q_nil _ _ _ _ _ | exact Kd.S_nil _ _ _ _ _⟩, ⟨by repeat (first | (with_reducible first | exact HB.out | apply below_alloc | apply pw_below_drewN | apply below_drew1) | exact HB.out)⟩⟩
  case round =>
    clear H'
    try clear c1
    obtain ⟨x0_1, x2_1, rfl, HA, HK1, HO_2, HB⟩ := hrel
    cases gk with
    | zero => exact absurd HA.out (by simp [crc_All.l0])
    | succ k1 =>
      have H := HA.out
      clear HA
      simp only [crc_All.l0] at H
      replace H := Option.bind_eq_some_iff.mp H
      obtain ⟨⟨t125, t126, t127⟩, A20, H⟩ := H
      replace H : (if t127 = 0 then (if x2_1.length < 8796093022208 then (crc_All.l0 k1 t126 (x2_1 ++ [t125])) else (none)) else (some (x2_1, x0_1))) = some (r1, r2) := H
      have A2 := Aside0.mk A20
      clear A20
      by_cases c3 : t127 = 0
      · rw [if_pos c3] at H
        have c3b0 : (t127 == 0) = true := beq_iff_eq.mpr c3
        have c3b1 : (t127 != 0) = false := bne_eq_false_iff_eq.mpr c3
        clear c3
        by_cases c4 : x2_1.length < 8796093022208
        · rw [if_pos c4] at H
          have LMc4 := Aside0.mk c4
          clear c4
          obtain ⟨y128, hy128⟩ : ∃ y_ : List ByteArray, y_ = (x2_1 ++ [t125]) := ⟨_, rfl⟩
          replace H : (crc_All.l0 k1 t126 y128) = some (r1, r2) := by first | (rw [hy128]; with_reducible exact H) | (have H2_ := (Option.bind_some _ _).symm.trans H; rw [hy128]; with_reducible exact H2_) | (have H2_ := (Option.bind_some _ _).symm.trans H; with_reducible exact H2_) | with_reducible exact H | (rw [hy128]; exact H) | exact H
          have Ny128 := Aside0.mk hy128
          clear hy128
          have H' := Aside0.mk H
          clear H
          go_wp2_with (first | ((with_reducible refine gate_callee (f := 13) rfl ?_); refine goesL_ (some 9) rfl rfl Try.func13 (by kernel_rfl) rfl #[.string x0_1] rfl (by (try simp only [List.map_toArray, List.map_cons, List.map_nil]); first | done | rfl | (simp only [List.length_drop, List.length_take]; rfl)) ?_; (with_reducible refine (crc_Unpack.calls k1 x0_1 t125 t126 t127 _ A2.out).mono ?_); rintro e w' ⟨rfl, ⟨nd, rfl⟩⟩; refine ⟨_, rfl, ?_⟩) | ((with_reducible refine gate_builtin (b := .append) (xs := #[.tmp 17, .tmp 19]) rfl ?_); at_builtin; refine Kd.R_append Kd.string (w0 := w) w.heap.size rfl (.tmp 17) (.tmp 19) 38 9 (.string ⟨#[]⟩) 16 rfl Try.underlying38 info9 rfl (by decide) (by omega) u2 x2_1 t125 [.string t125] (fun _ => True) (fun _ => False) rfl rfl ?aP (fun _ hk => hk.elim) ?aF ?aO ?aB ?aS ?aL ?_; (case aP => exact rfl); (case aB => exact (by repeat (first | (with_reducible first | exact HB.out | apply below_alloc | apply pw_below_drewN | apply below_drew1) | exact HB.out))); (case aF => exact (fun _ _ => trivial)); (case aO => exact (by (with_reducible repeat (first | apply Kd.R_alloc | apply Kd.R_drewN | apply Kd.R_drew)); exact HO_2.out)); (case aS => exact (below_size (by repeat (first | (with_reducible first | exact HB.out | apply below_alloc | apply pw_below_drewN | apply below_drew1) | exact HB.out)))); (case aL => have := LMc4.out; omega); intro v129 w5 ho hb hg hat; rw [← Ny128.out] at ho; have n0_ := Aside0.mk (hb); have n1_ := Aside0.mk (ho); clear HB; clear HO_2; have HB := n0_; have HO130 := n1_; clear n0_ n1_; clear ho hb hg hat))
          go_roundg k1
          case measure => have := HK1.out; omega
          case rel => exact ⟨(t126), (y128), (by first | rfl | (simp; done) | (simp [*]; done)), H', ⟨by have := HK1.out; omega⟩, ⟨by (with_reducible repeat (first | apply Kd.R_alloc | apply Kd.R_drewN | apply Kd.R_drew)); exact HO130.out⟩, ⟨by repeat (first | (with_reducible first | exact HB.out | apply below_alloc | apply pw_below_drewN | apply below_drew1) | exact HB.out)⟩⟩
        · rw [if_neg c4] at H
          exact absurd H (by simp)
      · rw [if_neg c3] at H
        have c3b0 : (t127 == 0) = false := beq_eq_false_iff_ne.mpr c3
        have c3b1 : (t127 != 0) = true := bne_iff_ne.mpr c3
        simp only [Option.some.injEq, Prod.mk.injEq] at H
        obtain ⟨rfl, rfl⟩ := H
        go_wp2_with (first | ((with_reducible refine gate_callee (f := 13) rfl ?_); refine goesL_ (some 9) rfl rfl Try.func13 (by kernel_rfl) rfl #[.string x0_1] rfl (by (try simp only [List.map_toArray, List.map_cons, List.map_nil]); first | done | rfl | (simp only [List.length_drop, List.length_take]; rfl)) ?_; (with_reducible refine (crc_Unpack.calls k1 x0_1 t125 t126 t127 _ A2.out).mono ?_); rintro e w' ⟨rfl, ⟨nd, rfl⟩⟩; refine ⟨_, rfl, ?_⟩))
        go_ret2
        exact ⟨_, by first | rfl | (simp [errW_none, errW_some] <;> rfl) | (simp [*, errW_none, errW_some] <;> rfl), by (with_reducible repeat (first | apply Kd.R_alloc | apply Kd.R_drewN | apply Kd.R_drew)); exact HO_2.out, by repeat (first | (with_reducible first | exact HB.out | apply below_alloc | apply pw_below_drewN | apply below_drew1) | exact HB.out)⟩

/-! ### auspiceref02_All: function 16 -/
def auspiceref02_All.l0 : Nat → ByteArray → List ByteArray → ByteArray → ByteArray → Int → Option (List ByteArray × ByteArray)
  | 0, _, _, _, _, _ => none
  | k + 1, x0, x4, x5, x6, x7 => if x7 = 0 then (if x4.length < 8796093022208 then ((auspiceref02_Unpack.f k x6).bind fun bt137 => (auspiceref02_All.l0 k x6 (x4 ++ [x5]) bt137.1 bt137.2.1 bt137.2.2)) else (none)) else (some (x4, x0))
def auspiceref02_All.f (k : Nat) (a0 : ByteArray) : Option (List ByteArray × ByteArray) := (auspiceref02_Unpack.f k a0).bind fun bt131 => (auspiceref02_All.l0 k a0 ([] : List ByteArray) bt131.1 bt131.2.1 bt131.2.2)
theorem auspiceref02_All.mono_l : ∀ k, (∀ y0 y1 y2 y3 y4, LeO (auspiceref02_All.l0 k y0 y1 y2 y3 y4) (auspiceref02_All.l0 (k + 1) y0 y1 y2 y3 y4))
  | 0 => fun _ _ _ _ _ r h => by simp [auspiceref02_All.l0] at h
  | k + 1 => by
    have ih0 := auspiceref02_All.mono_l k
    · intro y0 y1 y2 y3 y4
      unfold auspiceref02_All.l0
      repeat' first
      | (with_reducible exact ih0 _ _ _ _ _)
      | (with_reducible exact auspiceref02_Unpack.mono _ _)
      | (with_reducible exact LeO.refl _)
      | (with_reducible exact LeO.none _)
      | (with_reducible refine LeO.ite ?_ ?_)
      | (with_reducible refine LeO.bind ?_ (fun _ => ?_))
      | exact ih0 _ _ _ _ _
      | exact auspiceref02_Unpack.mono _ _
      | exact LeO.none _
      | refine LeO.ite ?_ ?_
      | refine LeO.bind ?_ (fun _ => ?_)
theorem auspiceref02_All.mono : ∀ a0 k, LeO (auspiceref02_All.f k a0) (auspiceref02_All.f (k + 1) a0) := by
  intro a0 k
  have ih0 := auspiceref02_All.mono_l k
  unfold auspiceref02_All.f
  repeat' first
      | (with_reducible exact ih0 _ _ _ _ _)
      | (with_reducible exact auspiceref02_Unpack.mono _ _)
      | (with_reducible exact LeO.refl _)
      | (with_reducible exact LeO.none _)
      | (with_reducible refine LeO.ite ?_ ?_)
      | (with_reducible refine LeO.bind ?_ (fun _ => ?_))
      | exact ih0 _ _ _ _ _
      | exact auspiceref02_Unpack.mono _ _
      | exact LeO.none _
      | refine LeO.ite ?_ ?_
      | refine LeO.bind ?_ (fun _ => ?_)
set_option maxHeartbeats 8000000 in
set_option maxRecDepth 100000 in
theorem auspiceref02_All.calls (k : Nat) (a0 : ByteArray) (r1 : List ByteArray) (r2 : ByteArray) (w : World) (h : auspiceref02_All.f k a0 = some (r1, r2)) :
    Calls Try.prog 16 #[.string a0] w fun e w' => ∃ v0_ : Value, e = .returned (.tuple #[v0_, .string r2]) ∧ Kd.R Kd.string 9 w' w.heap.size (fun _ => True) v0_ r1 ∧ Below w.heap.size w w' := by
  have HB := Aside0.mk (Below.refl w.heap.size w)
  have H : ((auspiceref02_Unpack.f k a0).bind fun bt131 => (auspiceref02_All.l0 k a0 ([] : List ByteArray) bt131.1 bt131.2.1 bt131.2.2)) = some (r1, r2) := h
  clear h
  replace H := Option.bind_eq_some_iff.mp H
  obtain ⟨⟨t131, t132, t133⟩, A20, H⟩ := H
  replace H : (auspiceref02_All.l0 k a0 ([] : List ByteArray) t131 t132 t133) = some (r1, r2) := H
  have A2 := Aside0.mk A20
  clear A20
  have H' := Aside0.mk H
  clear H
  go_enter Try.func16, Try.ntmps16
  go_wp2_with (first | ((with_reducible refine gate_callee (f := 14) rfl ?_); refine goesL_ (some 10) rfl rfl Try.func14 (by kernel_rfl) rfl #[.string a0] rfl (by (try simp only [List.map_toArray, List.map_cons, List.map_nil]); first | done | rfl | (simp only [List.length_drop, List.length_take]; rfl)) ?_; (with_reducible refine (auspiceref02_Unpack.calls k a0 t131 t132 t133 _ A2.out).mono ?_); rintro e w3 ⟨rfl, hb⟩; refine ⟨_, rfl, ?_⟩; have n0_ := Aside0.mk (below_step (by repeat (first | (with_reducible first | exact HB.out | apply below_alloc | apply pw_below_drewN | apply below_drew1) | exact HB.out)) hb); clear HB; have HB := n0_; clear n0_; (try clear hb); (try clear hb2); (try clear hk); (try clear hi)))
  go_loopg [0, 4, 5, 6, 7] k (fun kq v0 v4 v5 v6 v7 w' => ∃ (x0_1 : ByteArray) (x4_1 : List ByteArray) (x5_1 : ByteArray) (x6_1 : ByteArray) (x7_1 : Int), v0 = .string x0_1 ∧ v5 = .string x5_1 ∧ v6 = .string x6_1 ∧ v7 = .int .i64 x7_1 ∧ Aside0 (auspiceref02_All.l0 kq x0_1 x4_1 x5_1 x6_1 x7_1 = some (r1, r2)) ∧ Aside0 (kq ≤ k) ∧ Aside0 (Kd.R Kd.string 9 w' w.heap.size (fun _ => True) v4 x4_1) ∧ Aside0 (Below w.heap.size w w'))
  case atStart => exact ⟨(a0), (([] : List ByteArray)), (t131), (t132), (t133), (by first | rfl | (simp; done) | (simp [*]; done)), (by first | rfl | (simp; done) | (simp [*]; done)), (by first | rfl | (simp; done) | (simp [*]; done)), (by first | rfl | (simp; done) | (simp [*]; done)), H', ⟨Nat.le_refl _⟩, ⟨by first | exact Kd.R_nil _ _ _ _ _ | exact Kd.N_nil _ _ _ _ _ | exact Kd.V_nil _ _ _ _ _ | exact Kd.Q_nil _ _ _ _ _ | exact Kd.S_nil _ _ _ _ _⟩, ⟨by repeat (first | (with_reducible first | exact HB.out | apply below_alloc | apply pw_below_drewN | apply below_drew1) | exact HB.out)⟩⟩
  case round =>
    clear H'
    try clear c1
    try clear p2
    obtain ⟨x0_1, x4_1, x5_1, x6_1, x7_1, rfl, rfl, rfl, rfl, HA, HK1, HO_4, HB⟩ := hrel
    cases gk with
    | zero => exact absurd HA.out (by simp [auspiceref02_All.l0])
    | succ k1 =>
      have H := HA.out
      clear HA
      simp only [auspiceref02_All.l0] at H
      by_cases c4 : x7_1 = 0
      · rw [if_pos c4] at H
        have c4b0 : (x7_1 == 0) = true := beq_iff_eq.mpr c4
        have c4b1 : (x7_1 != 0) = false := bne_eq_false_iff_eq.mpr c4
        clear c4
        by_cases c5 : x4_1.length < 8796093022208
        · rw [if_pos c5] at H
          have LMc5 := Aside0.mk c5
          clear c5
          obtain ⟨y134, hy134⟩ : ∃ y_ : List ByteArray, y_ = (x4_1 ++ [x5_1]) := ⟨_, rfl⟩
          replace H : ((auspiceref02_Unpack.f k1 x6_1).bind fun bt137 => (auspiceref02_All.l0 k1 x6_1 y134 bt137.1 bt137.2.1 bt137.2.2)) = some (r1, r2) := by first | (rw [hy134]; with_reducible exact H) | (have H2_ := (Option.bind_some _ _).symm.trans H; rw [hy134]; with_reducible exact H2_) | (have H2_ := (Option.bind_some _ _).symm.trans H; with_reducible exact H2_) | with_reducible exact H | (rw [hy134]; exact H) | exact H
          have Ny134 := Aside0.mk hy134
          clear hy134
          replace H := Option.bind_eq_some_iff.mp H
          obtain ⟨⟨t137, t138, t139⟩, A60, H⟩ := H
          replace H : (auspiceref02_All.l0 k1 x6_1 y134 t137 t138 t139) = some (r1, r2) := H
          have A6 := Aside0.mk A60
          clear A60
          have H' := Aside0.mk H
          clear H
          go_wp2_with (first | ((with_reducible refine gate_builtin (b := .append) (xs := #[.tmp 16, .tmp 18]) rfl ?_); at_builtin; refine Kd.R_append Kd.string (w0 := w) w.heap.size rfl (.tmp 16) (.tmp 18) 38 9 (.string ⟨#[]⟩) 16 rfl Try.underlying38 info9 rfl (by decide) (by omega) u4 x4_1 x5_1 [.string x5_1] (fun _ => True) (fun _ => False) rfl rfl ?aP (fun _ hk => hk.elim) ?aF ?aO ?aB ?aS ?aL ?_; (case aP => exact rfl); (case aB => exact (by repeat (first | (with_reducible first | exact HB.out | apply below_alloc | apply pw_below_drewN | apply below_drew1) | exact HB.out))); (case aF => exact (fun _ _ => trivial)); (case aO => exact (by (with_reducible repeat (first | apply Kd.R_alloc | apply Kd.R_drewN | apply Kd.R_drew)); exact HO_4.out)); (case aS => exact (below_size (by repeat (first | (with_reducible first | exact HB.out | apply below_alloc | apply pw_below_drewN | apply below_drew1) | exact HB.out)))); (case aL => have := LMc5.out; omega); intro v135 w7 ho hb hg hat; rw [← Ny134.out] at ho; have n0_ := Aside0.mk (hb); have n1_ := Aside0.mk (ho); clear HB; clear HO_4; have HB := n0_; have HO136 := n1_; clear n0_ n1_; clear ho hb hg hat) | ((with_reducible refine gate_callee (f := 14) rfl ?_); refine goesL_ (some 23) rfl rfl Try.func14 (by kernel_rfl) rfl #[.string x6_1] rfl (by (try simp only [List.map_toArray, List.map_cons, List.map_nil]); first | done | rfl | (simp only [List.length_drop, List.length_take]; rfl)) ?_; (with_reducible refine (auspiceref02_Unpack.calls k1 x6_1 t137 t138 t139 _ A6.out).mono ?_); rintro e w8 ⟨rfl, hb⟩; refine ⟨_, rfl, ?_⟩; have n0_ := Aside0.mk (Kd.R_below (by (with_reducible repeat (first | apply Kd.R_alloc | apply Kd.R_drewN | apply Kd.R_drew)); exact HO136.out) hb); have n1_ := Aside0.mk (below_step (by repeat (first | (with_reducible first | exact HB.out | apply below_alloc | apply pw_below_drewN | apply below_drew1) | exact HB.out)) hb); clear HO136; clear HB; have HO136 := n0_; have HB := n1_; clear n0_ n1_; (try clear hb); (try clear hb2); (try clear hk); (try clear hi)))
          go_roundg k1
          case measure => have := HK1.out; omega
          case rel => exact ⟨(x6_1), (y134), (t137), (t138), (t139), (by first | rfl | (simp; done) | (simp [*]; done)), (by first | rfl | (simp; done) | (simp [*]; done)), (by first | rfl | (simp; done) | (simp [*]; done)), (by first | rfl | (simp; done) | (simp [*]; done)), H', ⟨by have := HK1.out; omega⟩, ⟨by (with_reducible repeat (first | apply Kd.R_alloc | apply Kd.R_drewN | apply Kd.R_drew)); exact HO136.out⟩, ⟨by repeat (first | (with_reducible first | exact HB.out | apply below_alloc | apply pw_below_drewN | apply below_drew1) | exact HB.out)⟩⟩
        · rw [if_neg c5] at H
          exact absurd H (by simp)
      · rw [if_neg c4] at H
        have c4b0 : (x7_1 == 0) = false := beq_eq_false_iff_ne.mpr c4
        have c4b1 : (x7_1 != 0) = true := bne_iff_ne.mpr c4
        simp only [Option.some.injEq, Prod.mk.injEq] at H
        obtain ⟨rfl, rfl⟩ := H
        go_wp2
        go_ret2
        exact ⟨_, by first | rfl | (simp [errW_none, errW_some] <;> rfl) | (simp [*, errW_none, errW_some] <;> rfl), by (with_reducible repeat (first | apply Kd.R_alloc | apply Kd.R_drewN | apply Kd.R_drew)); exact HO_4.out, by repeat (first | (with_reducible first | exact HB.out | apply below_alloc | apply pw_below_drewN | apply below_drew1) | exact HB.out)⟩

/-! ### auspiceref02_Same: function 17 -/
def auspiceref02_Same.l0 : Nat → List ByteArray → List ByteArray → Int → Option (Bool)
  | 0, _, _, _ => none
  | k + 1, x0, x1, x5 => if x5 < (x0.length : Int) then (if 0 ≤ x5 then (if x5 < (x1.length : Int) then (if (rdOf ByteArray.empty x0 x5).toList = (rdOf ByteArray.empty x1 x5).toList then (auspiceref02_Same.l0 k x0 x1 (wrap64 (x5 + 1))) else (some false)) else (none)) else (none)) else (some true)
def auspiceref02_Same.f (k : Nat) (l0 : List ByteArray) (l1 : List ByteArray) : Option (Bool) := if (l0.length : Int) = (l1.length : Int) then (auspiceref02_Same.l0 k l0 l1 0) else (some false)
theorem auspiceref02_Same.mono_l : ∀ k, (∀ y0 y1 y2, LeO (auspiceref02_Same.l0 k y0 y1 y2) (auspiceref02_Same.l0 (k + 1) y0 y1 y2))
  | 0 => fun _ _ _ r h => by simp [auspiceref02_Same.l0] at h
  | k + 1 => by
    have ih0 := auspiceref02_Same.mono_l k
    · intro y0 y1 y2
      unfold auspiceref02_Same.l0
      repeat' first
      | (with_reducible exact ih0 _ _ _)
      | (with_reducible exact LeO.refl _)
      | (with_reducible exact LeO.none _)
      | (with_reducible refine LeO.ite ?_ ?_)
      | (with_reducible refine LeO.bind ?_ (fun _ => ?_))
      | exact ih0 _ _ _
      | exact LeO.none _
      | refine LeO.ite ?_ ?_
      | refine LeO.bind ?_ (fun _ => ?_)
theorem auspiceref02_Same.mono : ∀ a0 a1 k, LeO (auspiceref02_Same.f k a0 a1) (auspiceref02_Same.f (k + 1) a0 a1) := by
  intro a0 a1 k
  have ih0 := auspiceref02_Same.mono_l k
  unfold auspiceref02_Same.f
  repeat' first
      | (with_reducible exact ih0 _ _ _)
      | (with_reducible exact LeO.refl _)
      | (with_reducible exact LeO.none _)
      | (with_reducible refine LeO.ite ?_ ?_)
      | (with_reducible refine LeO.bind ?_ (fun _ => ?_))
      | exact ih0 _ _ _
      | exact LeO.none _
      | refine LeO.ite ?_ ?_
      | refine LeO.bind ?_ (fun _ => ?_)
set_option maxHeartbeats 8000000 in
set_option maxRecDepth 100000 in
theorem auspiceref02_Same.calls (k : Nat) (A0 : Option Addr) (c0 : Nat) (l0 : List ByteArray) (A1 : Option Addr) (c1 : Nat) (l1 : List ByteArray) (r : Bool) (w : World) (hr0 : Kd.C Kd.string w A0 l0.length l0) (hc0 : l0.length ≤ c0) (hr1 : Kd.C Kd.string w A1 l1.length l1) (hc1 : l1.length ≤ c1) (h : auspiceref02_Same.f k l0 l1 = some r) :
    Calls Try.prog 17 #[.slice A0 l0.length c0, .slice A1 l1.length c1] w fun e w' => e = .returned (.bool r) ∧ Drawn0 w w' := by
  have HR0 := Aside0.mk hr0
  have HC0 := Aside0.mk hc0
  clear hr0 hc0
  have HR1 := Aside0.mk hr1
  have HC1 := Aside0.mk hc1
  clear hr1 hc1
  have H : (if (l0.length : Int) = (l1.length : Int) then (auspiceref02_Same.l0 k l0 l1 0) else (some false)) = some r := h
  clear h
  by_cases c3 : (l0.length : Int) = (l1.length : Int)
  · rw [if_pos c3] at H
    have c3b0 : ((l0.length : Int) == (l1.length : Int)) = true := beq_iff_eq.mpr c3
    have c3b1 : ((l0.length : Int) != (l1.length : Int)) = false := bne_eq_false_iff_eq.mpr c3
    have c3b2 : (l0.length == l1.length) = true := by first | simpa using c3 | (simp at c3 ⊢; omega)
    clear c3
    have H' := Aside0.mk H
    clear H
    go_enter Try.func17, Try.ntmps17
    go_wp2
    repeat (go_quiet (fail); try go_wp2)
    go_loopg [5] k (fun kq v5 w' => ∃ (x5_1 : Int), v5 = .int .i64 x5_1 ∧ Aside0 (auspiceref02_Same.l0 kq l0 l1 x5_1 = some r) ∧ Aside0 (kq ≤ k) ∧ Drawn0 w w')
    case atStart => exact ⟨(0), (by first | rfl | (simp; done) | (simp [*]; done)), H', ⟨Nat.le_refl _⟩, by repeat (first | exact Drawn0.refl _ | apply Drawn0.step)⟩
    case round =>
      clear H'
      try clear c1
      try clear p2
      try clear c3
      try clear c3b0
      try clear c3b1
      try clear c3b2
      obtain ⟨x5_1, rfl, HA, HK1, ⟨m1, rfl⟩⟩ := hrel
      cases gk with
      | zero => exact absurd HA.out (by simp [auspiceref02_Same.l0])
      | succ k1 =>
        have H := HA.out
        clear HA
        simp only [auspiceref02_Same.l0] at H
        by_cases c4 : x5_1 < (l0.length : Int)
        · rw [if_pos c4] at H
          have c4b0 : decide (x5_1 < (l0.length : Int)) = true := decide_eq_true c4
          clear c4
          by_cases c5 : 0 ≤ x5_1
          · rw [if_pos c5] at H
            have c5b0 : decide (0 ≤ x5_1) = true := decide_eq_true c5
            clear c5
            by_cases c6 : x5_1 < (l1.length : Int)
            · rw [if_pos c6] at H
              have c6b0 : decide (x5_1 < (l1.length : Int)) = true := decide_eq_true c6
              clear c6
              by_cases c7 : (rdOf ByteArray.empty l0 x5_1).toList = (rdOf ByteArray.empty l1 x5_1).toList
              · rw [if_pos c7] at H
                have c7b0 : ((rdOf ByteArray.empty l0 x5_1).toList == (rdOf ByteArray.empty l1 x5_1).toList) = true := beq_iff_eq.mpr c7
                have c7b1 : ((rdOf ByteArray.empty l0 x5_1).toList != (rdOf ByteArray.empty l1 x5_1).toList) = false := bne_eq_false_iff_eq.mpr c7
                clear c7
                have H' := Aside0.mk H
                clear H
                have p140 : 0 ≤ (x5_1 : Int) := of_decide_eq_true (by first | (with_reducible assumption) | assumption)
                have q140 : x5_1 < (l0.length : Int) := of_decide_eq_true (by first | (with_reducible assumption) | assumption)
                obtain ⟨ad140, e140, hx140_0⟩ := Kd.at_string HR0.out x5_1 p140 q140
                cases e140
                replace p140 := eq_true p140
                replace q140 := eq_true q140
                have p141 : 0 ≤ (x5_1 : Int) := of_decide_eq_true (by first | (with_reducible assumption) | assumption)
                have q141 : x5_1 < (l1.length : Int) := of_decide_eq_true (by first | (with_reducible assumption) | assumption)
                obtain ⟨ad141, e141, hx141_0⟩ := Kd.at_string HR1.out x5_1 p141 q141
                cases e141
                replace p141 := eq_true p141
                replace q141 := eq_true q141
                go_wp2
                repeat (go_quiet (fail); try go_wp2)
                go_roundg k1
                case measure => have := HK1.out; omega
                case rel => exact ⟨(wrap64 (x5_1 + 1)), (by first | rfl | (simp; done) | (simp [*]; done)), H', ⟨by have := HK1.out; omega⟩, by repeat (first | exact Drawn0.refl _ | apply Drawn0.step)⟩
              · rw [if_neg c7] at H
                have c7b0 : ((rdOf ByteArray.empty l0 x5_1).toList == (rdOf ByteArray.empty l1 x5_1).toList) = false := beq_eq_false_iff_ne.mpr c7
                have c7b1 : ((rdOf ByteArray.empty l0 x5_1).toList != (rdOf ByteArray.empty l1 x5_1).toList) = true := bne_iff_ne.mpr c7
                obtain rfl := Option.some.inj H
                have p140 : 0 ≤ (x5_1 : Int) := of_decide_eq_true (by first | (with_reducible assumption) | assumption)
                have q140 : x5_1 < (l0.length : Int) := of_decide_eq_true (by first | (with_reducible assumption) | assumption)
                obtain ⟨ad140, e140, hx140_0⟩ := Kd.at_string HR0.out x5_1 p140 q140
                cases e140
                replace p140 := eq_true p140
                replace q140 := eq_true q140
                have p141 : 0 ≤ (x5_1 : Int) := of_decide_eq_true (by first | (with_reducible assumption) | assumption)
                have q141 : x5_1 < (l1.length : Int) := of_decide_eq_true (by first | (with_reducible assumption) | assumption)
                obtain ⟨ad141, e141, hx141_0⟩ := Kd.at_string HR1.out x5_1 p141 q141
                cases e141
                replace p141 := eq_true p141
                replace q141 := eq_true q141
                go_wp2
                repeat (go_quiet (fail); try go_wp2)
                go_ret
                exact ⟨by first | rfl | (simp; done) | (simp [*]; done), by repeat (first | exact Drawn0.refl _ | apply Drawn0.step)⟩
            · rw [if_neg c6] at H
              exact absurd H (by simp)
          · rw [if_neg c5] at H
            exact absurd H (by simp)
        · rw [if_neg c4] at H
          have c4b0 : decide (x5_1 < (l0.length : Int)) = false := decide_eq_false c4
          clear c4
          obtain rfl := Option.some.inj H
          go_wp2
          repeat (go_quiet (fail); try go_wp2)
          go_ret
          exact ⟨by first | rfl | (simp; done) | (simp [*]; done), by repeat (first | exact Drawn0.refl _ | apply Drawn0.step)⟩
  · rw [if_neg c3] at H
    have c3b0 : ((l0.length : Int) == (l1.length : Int)) = false := beq_eq_false_iff_ne.mpr c3
    have c3b1 : ((l0.length : Int) != (l1.length : Int)) = true := bne_iff_ne.mpr c3
    have c3b2 : (l0.length == l1.length) = false := by first | simpa using c3 | (simp at c3 ⊢; omega)
    obtain rfl := Option.some.inj H
    go_enter Try.func17, Try.ntmps17
    go_wp2
    repeat (go_quiet (fail); try go_wp2)
    go_ret
    exact ⟨by first | rfl | (simp; done) | (simp [*]; done), by repeat (first | exact Drawn0.refl _ | apply Drawn0.step)⟩

end Go.Proofs.Ytoipjimooiogdaa.PAll
