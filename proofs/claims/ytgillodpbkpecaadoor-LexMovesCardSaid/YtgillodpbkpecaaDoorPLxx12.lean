-- By a program of this session (a patched scratch copy of a print): this claim's text.
import Derived.Test.YtgillodpbkpecaaDoorPLxx0
import Derived.Test.YtgillodpbkpecaaDoorPLxx1
import Derived.Test.YtgillodpbkpecaaDoorPLxx5
import Derived.Test.YtgillodpbkpecaaDoorPLxxA
namespace Go.Proofs.YtgillodpbkpecaaDoor.PLx
open Go.RowKit Go.Proofs.YtgillodpbkpecaaDoor.Ext Go.Proofs.YtgillodpbkpecaaDoorW.PrintWords Go.Proofs.YtgillodpbkpecaaDoorW.PrintLast Go.Proofs.YtgillodpbkpecaaDoorW.PrintMore
attribute [local go_sem] max2_int min2_int max_two min_two max_three min_three max_four min_four   -- for this text's walks alone
set_option linter.unusedVariables false
set_option linter.unusedSimpArgs false
theorem cell_lt {w : World} {a : Addr} {v : Value} (h : w.cell? a = some v) : a.block < w.heap.size := by
  rcases Nat.lt_or_ge a.block w.heap.size with h1 | h1
  · exact h1
  · simp [World.cell?, Array.getElem?_eq_none h1] at h

attribute [local go_sem high] eqA34
/-! ### auspicelaw09_LexMoves: function 5 -/
mutual
def auspicelaw09_LexMoves.l0 : Nat → ByteArray → Int → ByteArray → Int → Option (Bool)
  | 0, _, _, _, _ => none
  | k + 1, x0, x1, x5, x6 => if x6 < x1 then (if 0 ≤ (Int.tmod x6 4) then (if (Int.tmod x6 4) ≤ (wrap64 ((Int.tmod x6 4) + 1)) then (if (wrap64 ((Int.tmod x6 4) + 1)) ≤ 4 then (if x5.size + ((⟨#[32, 9, 10, 13]⟩ : ByteArray).extract ((Int.tmod x6 4) : Int).toNat ((wrap64 ((Int.tmod x6 4) + 1)) : Int).toNat).size ≤ 9223372036854775807 then (auspicelaw09_LexMoves.l0 k x0 x1 (x5 ++ ((⟨#[32, 9, 10, 13]⟩ : ByteArray).extract ((Int.tmod x6 4) : Int).toNat ((wrap64 ((Int.tmod x6 4) + 1)) : Int).toNat)) (wrap64 (x6 + 1))) else (none)) else (none)) else (none)) else (none)) else ((lex_Scan.f k x0).bind fun bt275 => (if x5.size + x0.size ≤ 9223372036854775807 then ((lex_Scan.f k (x5 ++ x0)).bind fun bt280 => (if bt275.2.2 = bt280.2.2 then (if (bt275.1.length : Int) = (bt280.1.length : Int) then (if bt275.2.2 = 0 then (auspicelaw09_LexMoves.j1 k x1 bt275.1 bt280.1 false) else (auspicelaw09_LexMoves.j1 k x1 bt275.1 bt280.1 ((wrap64 (bt280.2.1 - x1)) != bt275.2.1))) else (auspicelaw09_LexMoves.j1 k x1 bt275.1 bt280.1 true)) else (auspicelaw09_LexMoves.j1 k x1 bt275.1 bt280.1 true))) else (none)))
def auspicelaw09_LexMoves.j1 : Nat → Int → List (S34) → List (S34) → Bool → Option (Bool)
  | 0, _, _, _, _ => none
  | k + 1, x1, x7, x10, x70 => if x70 = true then (some false) else (auspicelaw09_LexMoves.l1 k x1 x7 x10 0)
def auspicelaw09_LexMoves.l1 : Nat → Int → List (S34) → List (S34) → Int → Option (Bool)
  | 0, _, _, _, _ => none
  | k + 1, x1, x7, x10, x13 => if x13 < (x7.length : Int) then (if 0 ≤ x13 then (if x13 < (x10.length : Int) then (if (!(((rd_T34 x10 x13).f0) == ((rd_T34 x7 x13).f0)) || (!((wrap64 (((rd_T34 x10 x13).f1) - x1)) == ((rd_T34 x7 x13).f1)) || (!((((rd_T34 x10 x13).f2).toList) == (((rd_T34 x7 x13).f2).toList)) || (!(((rd_T34 x10 x13).f3) == ((rd_T34 x7 x13).f3)) || (!((((rd_T34 x10 x13).f4).toList) == (((rd_T34 x7 x13).f4).toList))))))) = true then (some false) else (auspicelaw09_LexMoves.l1 k x1 x7 x10 (wrap64 (x13 + 1)))) else (none)) else (none)) else ((auspicelaw09_awake.f k).bind fun t288 => (some t288))
end
def auspicelaw09_LexMoves.f (k : Nat) (a0 : ByteArray) (a1 : Int) : Option (Bool) := if (a0.size : Int) > 4000 then ((auspicelaw09_awake.f k).bind fun t274 => (some t274)) else (auspicelaw09_LexMoves.l0 k a0 (Int.tmod (wrap64 ((Int.tmod a1 90) + 90)) 90) (⟨#[]⟩ : ByteArray) 0)
theorem auspicelaw09_LexMoves.mono_l : ∀ k, (∀ y0 y1 y2 y3, LeO (auspicelaw09_LexMoves.l0 k y0 y1 y2 y3) (auspicelaw09_LexMoves.l0 (k + 1) y0 y1 y2 y3)) ∧ (∀ y0 y1 y2 y3, LeO (auspicelaw09_LexMoves.j1 k y0 y1 y2 y3) (auspicelaw09_LexMoves.j1 (k + 1) y0 y1 y2 y3)) ∧ (∀ y0 y1 y2 y3, LeO (auspicelaw09_LexMoves.l1 k y0 y1 y2 y3) (auspicelaw09_LexMoves.l1 (k + 1) y0 y1 y2 y3))
  | 0 => ⟨fun _ _ _ _ r h => by simp [auspicelaw09_LexMoves.l0] at h, fun _ _ _ _ r h => by simp [auspicelaw09_LexMoves.j1] at h, fun _ _ _ _ r h => by simp [auspicelaw09_LexMoves.l1] at h⟩
  | k + 1 => by
    obtain ⟨ih0, ih1, ih2⟩ := auspicelaw09_LexMoves.mono_l k
    refine ⟨?_, ?_, ?_⟩
    · intro y0 y1 y2 y3
      unfold auspicelaw09_LexMoves.l0
      repeat' first
      | (with_reducible exact ih0 _ _ _ _)
      | (with_reducible exact ih1 _ _ _ _)
      | (with_reducible exact ih2 _ _ _ _)
      | (with_reducible exact auspicelaw09_awake.mono _)
      | (with_reducible exact lex_Scan.mono _ _)
      | (with_reducible exact LeO.refl _)
      | (with_reducible exact LeO.none _)
      | (with_reducible refine LeO.ite ?_ ?_)
      | (with_reducible refine LeO.bind ?_ (fun _ => ?_))
      | exact ih0 _ _ _ _
      | exact ih1 _ _ _ _
      | exact ih2 _ _ _ _
      | exact auspicelaw09_awake.mono _
      | exact lex_Scan.mono _ _
      | exact LeO.none _
      | refine LeO.ite ?_ ?_
      | refine LeO.bind ?_ (fun _ => ?_)
    · intro y0 y1 y2 y3
      unfold auspicelaw09_LexMoves.j1
      repeat' first
      | (with_reducible exact ih0 _ _ _ _)
      | (with_reducible exact ih1 _ _ _ _)
      | (with_reducible exact ih2 _ _ _ _)
      | (with_reducible exact auspicelaw09_awake.mono _)
      | (with_reducible exact lex_Scan.mono _ _)
      | (with_reducible exact LeO.refl _)
      | (with_reducible exact LeO.none _)
      | (with_reducible refine LeO.ite ?_ ?_)
      | (with_reducible refine LeO.bind ?_ (fun _ => ?_))
      | exact ih0 _ _ _ _
      | exact ih1 _ _ _ _
      | exact ih2 _ _ _ _
      | exact auspicelaw09_awake.mono _
      | exact lex_Scan.mono _ _
      | exact LeO.none _
      | refine LeO.ite ?_ ?_
      | refine LeO.bind ?_ (fun _ => ?_)
    · intro y0 y1 y2 y3
      unfold auspicelaw09_LexMoves.l1
      repeat' first
      | (with_reducible exact ih0 _ _ _ _)
      | (with_reducible exact ih1 _ _ _ _)
      | (with_reducible exact ih2 _ _ _ _)
      | (with_reducible exact auspicelaw09_awake.mono _)
      | (with_reducible exact lex_Scan.mono _ _)
      | (with_reducible exact LeO.refl _)
      | (with_reducible exact LeO.none _)
      | (with_reducible refine LeO.ite ?_ ?_)
      | (with_reducible refine LeO.bind ?_ (fun _ => ?_))
      | exact ih0 _ _ _ _
      | exact ih1 _ _ _ _
      | exact ih2 _ _ _ _
      | exact auspicelaw09_awake.mono _
      | exact lex_Scan.mono _ _
      | exact LeO.none _
      | refine LeO.ite ?_ ?_
      | refine LeO.bind ?_ (fun _ => ?_)
theorem auspicelaw09_LexMoves.mono : ∀ a0 a1 k, LeO (auspicelaw09_LexMoves.f k a0 a1) (auspicelaw09_LexMoves.f (k + 1) a0 a1) := by
  intro a0 a1 k
  obtain ⟨ih0, ih1, ih2⟩ := auspicelaw09_LexMoves.mono_l k
  unfold auspicelaw09_LexMoves.f
  repeat' first
      | (with_reducible exact ih0 _ _ _ _)
      | (with_reducible exact ih1 _ _ _ _)
      | (with_reducible exact ih2 _ _ _ _)
      | (with_reducible exact auspicelaw09_awake.mono _)
      | (with_reducible exact lex_Scan.mono _ _)
      | (with_reducible exact LeO.refl _)
      | (with_reducible exact LeO.none _)
      | (with_reducible refine LeO.ite ?_ ?_)
      | (with_reducible refine LeO.bind ?_ (fun _ => ?_))
      | exact ih0 _ _ _ _
      | exact ih1 _ _ _ _
      | exact ih2 _ _ _ _
      | exact auspicelaw09_awake.mono _
      | exact lex_Scan.mono _ _
      | exact LeO.none _
      | refine LeO.ite ?_ ?_
      | refine LeO.bind ?_ (fun _ => ?_)
set_option maxHeartbeats 8000000 in
set_option maxRecDepth 100000 in
theorem auspicelaw09_LexMoves.calls (k : Nat) (a0 : ByteArray) (a1 : Int) (r : Bool) (w : World) (h : auspicelaw09_LexMoves.f k a0 a1 = some r) :
    Calls Tryd.prog 5 #[.string a0, .int .i64 a1] w fun e w' => e = .returned (.bool r) ∧ Below w.heap.size w w' := by
  have hu34 := Tryd.underlying34
  have HB := Aside0.mk (Below.refl w.heap.size w)
  have H : (if (a0.size : Int) > 4000 then ((auspicelaw09_awake.f k).bind fun t274 => (some t274)) else (auspicelaw09_LexMoves.l0 k a0 (Int.tmod (wrap64 ((Int.tmod a1 90) + 90)) 90) (⟨#[]⟩ : ByteArray) 0)) = some r := h
  clear h
  by_cases c3 : (a0.size : Int) > 4000
  · rw [if_pos c3] at H
    have c3b0 : decide (4000 < (a0.size : Int)) = true := decide_eq_true c3
    have c3b1 : decide (4000 < a0.size) = true := decide_eq_true (by omega)
    clear c3
    replace H := Option.bind_eq_some_iff.mp H
    obtain ⟨t274, A40, H⟩ := H
    replace H : (some t274) = some r := H
    have A4 := Aside0.mk A40
    clear A40
    obtain rfl := Option.some.inj H
    go_enter Tryd.func5, Tryd.ntmps5
    go_wp2_with (first | (go_at_call 9; (with_reducible refine (auspicelaw09_awake.calls k  t274 _ A4.out).mono ?_); rintro e w5 ⟨rfl, hb⟩; have n0_ := Aside0.mk (below_step (by repeat (first | (with_reducible first | exact HB.out | apply below_alloc | apply pw_below_drewN | apply below_drew1) | exact HB.out)) hb); clear HB; have HB := n0_; clear n0_; (try clear hb); (try clear hb2); (try clear hk); (try clear hi)))
    repeat (go_quiet (first | (go_at_call 9; (with_reducible refine (auspicelaw09_awake.calls k  t274 _ A4.out).mono ?_); rintro e w5 ⟨rfl, hb⟩; have n0_ := Aside0.mk (below_step (by repeat (first | (with_reducible first | exact HB.out | apply below_alloc | apply pw_below_drewN | apply below_drew1) | exact HB.out)) hb); clear HB; have HB := n0_; clear n0_; (try clear hb); (try clear hb2); (try clear hk); (try clear hi))); try go_wp2_with (first | (go_at_call 9; (with_reducible refine (auspicelaw09_awake.calls k  t274 _ A4.out).mono ?_); rintro e w5 ⟨rfl, hb⟩; have n0_ := Aside0.mk (below_step (by repeat (first | (with_reducible first | exact HB.out | apply below_alloc | apply pw_below_drewN | apply below_drew1) | exact HB.out)) hb); clear HB; have HB := n0_; clear n0_; (try clear hb); (try clear hb2); (try clear hk); (try clear hi))))
    go_ret
    exact ⟨by first | rfl | (simp [errW_none, errW_some] <;> rfl) | (simp [*, errW_none, errW_some] <;> rfl), by repeat (first | (with_reducible first | exact HB.out | apply below_alloc | apply pw_below_drewN | apply below_drew1) | exact HB.out)⟩
  · rw [if_neg c3] at H
    have c3b0 : decide (4000 < (a0.size : Int)) = false := decide_eq_false c3
    have c3b1 : decide (4000 < a0.size) = false := decide_eq_false (by omega)
    clear c3
    have H' := Aside0.mk H
    clear H
    go_enter Tryd.func5, Tryd.ntmps5
    go_wp2
    repeat (go_quiet (fail); try go_wp2)
    go_loopg [5, 6] k (fun kq v5 v6 w' => ∃ (x5_1 : ByteArray) (x6_1 : Int), v5 = .string x5_1 ∧ v6 = .int .i64 x6_1 ∧ Aside0 (auspicelaw09_LexMoves.l0 kq a0 (Int.tmod (wrap64 ((Int.tmod a1 90) + 90)) 90) x5_1 x6_1 = some r) ∧ Aside0 (kq ≤ k) ∧ Aside0 (Below w.heap.size w w'))
    case atStart => exact ⟨((⟨#[]⟩ : ByteArray)), (0), (by first | rfl | (simp; done) | (simp [*]; done)), (by first | rfl | (simp; done) | (simp [*]; done)), H', ⟨Nat.le_refl _⟩, ⟨by repeat (first | (with_reducible first | exact HB.out | apply below_alloc | apply pw_below_drewN | apply below_drew1) | exact HB.out)⟩⟩
    case round =>
      clear H'
      try clear p2
      try clear c3
      try clear c3b0
      try clear c3b1
      try clear c5
      obtain ⟨x5_1, x6_1, rfl, rfl, HA, HK1, HB⟩ := hrel
      cases gk with
      | zero => exact absurd HA.out (by simp [auspicelaw09_LexMoves.l0])
      | succ k1 =>
        have H := HA.out
        clear HA
        simp only [auspicelaw09_LexMoves.l0] at H
        by_cases c6 : x6_1 < (Int.tmod (wrap64 ((Int.tmod a1 90) + 90)) 90)
        · rw [if_pos c6] at H
          have c6b0 : decide (x6_1 < (Int.tmod (wrap64 ((Int.tmod a1 90) + 90)) 90)) = true := decide_eq_true c6
          clear c6
          obtain ⟨ji7, hji7⟩ : ∃ j_ : Int, (Int.tmod x6_1 4) = j_ := ⟨_, rfl⟩
          replace H : (if 0 ≤ (ji7) then (if (ji7) ≤ (wrap64 ((ji7) + 1)) then (if (wrap64 ((ji7) + 1)) ≤ 4 then (if x5_1.size + ((⟨#[32, 9, 10, 13]⟩ : ByteArray).extract ((ji7) : Int).toNat ((wrap64 ((ji7) + 1)) : Int).toNat).size ≤ 9223372036854775807 then (auspicelaw09_LexMoves.l0 k1 a0 (Int.tmod (wrap64 ((Int.tmod a1 90) + 90)) 90) (x5_1 ++ ((⟨#[32, 9, 10, 13]⟩ : ByteArray).extract ((ji7) : Int).toNat ((wrap64 ((ji7) + 1)) : Int).toNat)) (wrap64 (x6_1 + 1))) else (none)) else (none)) else (none)) else (none)) = some r := by first | (rw [hji7] at H; exact H) | (simp only [hji7] at H ⊢; exact H)
          by_cases c8 : 0 ≤ (ji7)
          · rw [if_pos c8] at H
            have c8b0 := eq_true c8
            have c8b1 : decide (0 ≤ (ji7)) = true := decide_eq_true c8
            clear c8
            by_cases c9 : (ji7) ≤ (wrap64 ((ji7) + 1))
            · rw [if_pos c9] at H
              have c9b0 := eq_true c9
              have c9b1 : decide ((ji7) ≤ (wrap64 ((ji7) + 1))) = true := decide_eq_true c9
              by_cases c10 : (wrap64 ((ji7) + 1)) ≤ 4
              · rw [if_pos c10] at H
                have c10b0 := eq_true c10
                have c10b1 : decide ((wrap64 ((ji7) + 1)) ≤ 4) = true := decide_eq_true c10
                by_cases c11 : x5_1.size + ((⟨#[32, 9, 10, 13]⟩ : ByteArray).extract ((ji7) : Int).toNat ((wrap64 ((ji7) + 1)) : Int).toNat).size ≤ 9223372036854775807
                · rw [if_pos c11] at H
                  have c11b0 := eq_true c11
                  have c11b1 : decide (x5_1.size + ((⟨#[32, 9, 10, 13]⟩ : ByteArray).extract ((ji7) : Int).toNat ((wrap64 ((ji7) + 1)) : Int).toNat).size ≤ 9223372036854775807) = true := decide_eq_true c11
                  try have c11b2 : (9223372036854775807 < x5_1.size + ((⟨#[32, 9, 10, 13]⟩ : ByteArray).extract ((ji7) : Int).toNat ((wrap64 ((ji7) + 1)) : Int).toNat).size) = False := eq_false (Nat.not_lt.2 c11)
                  have H' := Aside0.mk H
                  clear H
                  go_wp2
                  repeat (go_quiet (fail); try go_wp2)
                  go_roundg k1
                  case measure => have := HK1.out; omega
                  case rel => exact ⟨(x5_1 ++ ((⟨#[32, 9, 10, 13]⟩ : ByteArray).extract ((ji7) : Int).toNat ((wrap64 ((ji7) + 1)) : Int).toNat)), (wrap64 (x6_1 + 1)), (by first | rfl | (simp; done) | (simp only [← hji7] <;> (first | rfl | simp)) | (simp [*]; done)), (by first | rfl | (simp; done) | (simp [*]; done)), H', ⟨by have := HK1.out; omega⟩, ⟨by repeat (first | (with_reducible first | exact HB.out | apply below_alloc | apply pw_below_drewN | apply below_drew1) | exact HB.out)⟩⟩
                · rw [if_neg c11] at H
                  exact absurd H (by simp)
              · rw [if_neg c10] at H
                exact absurd H (by simp)
            · rw [if_neg c9] at H
              exact absurd H (by simp)
          · rw [if_neg c8] at H
            exact absurd H (by simp)
        · rw [if_neg c6] at H
          have c6b0 : decide (x6_1 < (Int.tmod (wrap64 ((Int.tmod a1 90) + 90)) 90)) = false := decide_eq_false c6
          clear c6
          replace H := Option.bind_eq_some_iff.mp H
          obtain ⟨⟨t275, t276, t277⟩, A120, H⟩ := H
          replace H : (if x5_1.size + a0.size ≤ 9223372036854775807 then ((lex_Scan.f k1 (x5_1 ++ a0)).bind fun bt280 => (if t277 = bt280.2.2 then (if (t275.length : Int) = (bt280.1.length : Int) then (if t277 = 0 then (auspicelaw09_LexMoves.j1 k1 (Int.tmod (wrap64 ((Int.tmod a1 90) + 90)) 90) t275 bt280.1 false) else (auspicelaw09_LexMoves.j1 k1 (Int.tmod (wrap64 ((Int.tmod a1 90) + 90)) 90) t275 bt280.1 ((wrap64 (bt280.2.1 - (Int.tmod (wrap64 ((Int.tmod a1 90) + 90)) 90))) != t276))) else (auspicelaw09_LexMoves.j1 k1 (Int.tmod (wrap64 ((Int.tmod a1 90) + 90)) 90) t275 bt280.1 true)) else (auspicelaw09_LexMoves.j1 k1 (Int.tmod (wrap64 ((Int.tmod a1 90) + 90)) 90) t275 bt280.1 true))) else (none)) = some r := H
          have A12 := Aside0.mk A120
          clear A120
          by_cases c13 : x5_1.size + a0.size ≤ 9223372036854775807
          · rw [if_pos c13] at H
            have c13b0 := eq_true c13
            have c13b1 : decide (x5_1.size + a0.size ≤ 9223372036854775807) = true := decide_eq_true c13
            try have c13b2 : (9223372036854775807 < x5_1.size + a0.size) = False := eq_false (Nat.not_lt.2 c13)
            replace H := Option.bind_eq_some_iff.mp H
            obtain ⟨⟨t280, t281, t282⟩, A140, H⟩ := H
            replace H : (if t277 = t282 then (if (t275.length : Int) = (t280.length : Int) then (if t277 = 0 then (auspicelaw09_LexMoves.j1 k1 (Int.tmod (wrap64 ((Int.tmod a1 90) + 90)) 90) t275 t280 false) else (auspicelaw09_LexMoves.j1 k1 (Int.tmod (wrap64 ((Int.tmod a1 90) + 90)) 90) t275 t280 ((wrap64 (t281 - (Int.tmod (wrap64 ((Int.tmod a1 90) + 90)) 90))) != t276))) else (auspicelaw09_LexMoves.j1 k1 (Int.tmod (wrap64 ((Int.tmod a1 90) + 90)) 90) t275 t280 true)) else (auspicelaw09_LexMoves.j1 k1 (Int.tmod (wrap64 ((Int.tmod a1 90) + 90)) 90) t275 t280 true)) = some r := H
            have A14 := Aside0.mk A140
            clear A140
            have HC15 := Aside0.mk H
            clear H
            go_upto_region 11 with (first | (go_at_call 7; (with_reducible refine (lex_Scan.calls k1 a0 t275 t276 t277 _ A12.out).mono ?_); rintro e w16 ⟨v278, rfl, ho0, hb⟩; have n0_ := Aside0.mk (Kd.R_lower ho0 (below_size (by repeat (first | (with_reducible first | exact HB.out | apply below_alloc | apply pw_below_drewN | apply below_drew1) | exact HB.out)))); have n1_ := Aside0.mk (below_step (by repeat (first | (with_reducible first | exact HB.out | apply below_alloc | apply pw_below_drewN | apply below_drew1) | exact HB.out)) hb); clear HB; have HO279 := n0_; have HB := n1_; clear n0_ n1_; (try clear hb); (try clear hb2); (try clear hk); (try clear hi); (try clear ho0)) | (go_at_call 7; (with_reducible refine (lex_Scan.calls k1 (x5_1 ++ a0) t280 t281 t282 _ A14.out).mono ?_); rintro e w17 ⟨v283, rfl, ho0, hb⟩; have n0_ := Aside0.mk (Kd.R_elder' (by (with_reducible repeat (first | apply Kd.R_alloc | apply Kd.R_drewN | apply Kd.R_drew)); exact HO279.out) (Kd.R_base ho0) hb); have n1_ := Aside0.mk (Kd.R_lower (Kd.R_new' ho0 (Kd.R_lt (by (with_reducible repeat (first | apply Kd.R_alloc | apply Kd.R_drewN | apply Kd.R_drew)); exact HO279.out))) (below_size (by repeat (first | (with_reducible first | exact HB.out | apply below_alloc | apply pw_below_drewN | apply below_drew1) | exact HB.out)))); have n2_ := Aside0.mk (below_step (by repeat (first | (with_reducible first | exact HB.out | apply below_alloc | apply pw_below_drewN | apply below_drew1) | exact HB.out)) hb); clear HO279; clear HB; have HO279 := n0_; have HO284 := n1_; have HB := n2_; clear n0_ n1_ n2_; (try clear hb); (try clear hb2); (try clear hk); (try clear hi); (try clear ho0)))
            repeat (go_quiet (first | (go_at_call 7; (with_reducible refine (lex_Scan.calls k1 a0 t275 t276 t277 _ A12.out).mono ?_); rintro e w16 ⟨v278, rfl, ho0, hb⟩; have n0_ := Aside0.mk (Kd.R_lower ho0 (below_size (by repeat (first | (with_reducible first | exact HB.out | apply below_alloc | apply pw_below_drewN | apply below_drew1) | exact HB.out)))); have n1_ := Aside0.mk (below_step (by repeat (first | (with_reducible first | exact HB.out | apply below_alloc | apply pw_below_drewN | apply below_drew1) | exact HB.out)) hb); clear HB; have HO279 := n0_; have HB := n1_; clear n0_ n1_; (try clear hb); (try clear hb2); (try clear hk); (try clear hi); (try clear ho0)) | (go_at_call 7; (with_reducible refine (lex_Scan.calls k1 (x5_1 ++ a0) t280 t281 t282 _ A14.out).mono ?_); rintro e w17 ⟨v283, rfl, ho0, hb⟩; have n0_ := Aside0.mk (Kd.R_elder' (by (with_reducible repeat (first | apply Kd.R_alloc | apply Kd.R_drewN | apply Kd.R_drew)); exact HO279.out) (Kd.R_base ho0) hb); have n1_ := Aside0.mk (Kd.R_lower (Kd.R_new' ho0 (Kd.R_lt (by (with_reducible repeat (first | apply Kd.R_alloc | apply Kd.R_drewN | apply Kd.R_drew)); exact HO279.out))) (below_size (by repeat (first | (with_reducible first | exact HB.out | apply below_alloc | apply pw_below_drewN | apply below_drew1) | exact HB.out)))); have n2_ := Aside0.mk (below_step (by repeat (first | (with_reducible first | exact HB.out | apply below_alloc | apply pw_below_drewN | apply below_drew1) | exact HB.out)) hb); clear HO279; clear HB; have HO279 := n0_; have HO284 := n1_; have HB := n2_; clear n0_ n1_ n2_; (try clear hb); (try clear hb2); (try clear hk); (try clear hi); (try clear ho0))); go_upto_region 11 with (first | (go_at_call 7; (with_reducible refine (lex_Scan.calls k1 a0 t275 t276 t277 _ A12.out).mono ?_); rintro e w16 ⟨v278, rfl, ho0, hb⟩; have n0_ := Aside0.mk (Kd.R_lower ho0 (below_size (by repeat (first | (with_reducible first | exact HB.out | apply below_alloc | apply pw_below_drewN | apply below_drew1) | exact HB.out)))); have n1_ := Aside0.mk (below_step (by repeat (first | (with_reducible first | exact HB.out | apply below_alloc | apply pw_below_drewN | apply below_drew1) | exact HB.out)) hb); clear HB; have HO279 := n0_; have HB := n1_; clear n0_ n1_; (try clear hb); (try clear hb2); (try clear hk); (try clear hi); (try clear ho0)) | (go_at_call 7; (with_reducible refine (lex_Scan.calls k1 (x5_1 ++ a0) t280 t281 t282 _ A14.out).mono ?_); rintro e w17 ⟨v283, rfl, ho0, hb⟩; have n0_ := Aside0.mk (Kd.R_elder' (by (with_reducible repeat (first | apply Kd.R_alloc | apply Kd.R_drewN | apply Kd.R_drew)); exact HO279.out) (Kd.R_base ho0) hb); have n1_ := Aside0.mk (Kd.R_lower (Kd.R_new' ho0 (Kd.R_lt (by (with_reducible repeat (first | apply Kd.R_alloc | apply Kd.R_drewN | apply Kd.R_drew)); exact HO279.out))) (below_size (by repeat (first | (with_reducible first | exact HB.out | apply below_alloc | apply pw_below_drewN | apply below_drew1) | exact HB.out)))); have n2_ := Aside0.mk (below_step (by repeat (first | (with_reducible first | exact HB.out | apply below_alloc | apply pw_below_drewN | apply below_drew1) | exact HB.out)) hb); clear HO279; clear HB; have HO279 := n0_; have HO284 := n1_; have HB := n2_; clear n0_ n1_ n2_; (try clear hb); (try clear hb2); (try clear hk); (try clear hi); (try clear ho0))))
            (try simp only [Act.put, List.setIfInBounds_toArray, List.set_cons_zero, List.set_cons_succ])
            go_cut [70] (fun v70 wc => ∃ (kq : Nat) (x70_14 : Bool), v70 = .bool x70_14 ∧ Aside0 (auspicelaw09_LexMoves.j1 kq (Int.tmod (wrap64 ((Int.tmod a1 90) + 90)) 90) t275 t280 x70_14 = some r) ∧ Aside0 (kq ≤ k1) ∧ Aside0 (Kd.R k34 34 wc w.heap.size (fun k_ => some k_ ≠ (v283 : Value).ownBlock) v278 t275) ∧ Aside0 (Kd.R k34 34 wc w.heap.size (fun k_ => some k_ ≠ (v278 : Value).ownBlock) v283 t280) ∧ Aside0 (Below w.heap.size w wc))
            case first =>
              have H := HC15.out
              clear HC15
              by_cases c18 : t277 = t282
              · rw [if_pos c18] at H
                have c18b0 : (t277 == t282) = true := beq_iff_eq.mpr c18
                have c18b1 : (t277 != t282) = false := bne_eq_false_iff_eq.mpr c18
                clear c18
                (first | rw [c18b0] | (simp only [i64_w, i32_w]; rw [c18b0]) | skip)
                by_cases c19 : (t275.length : Int) = (t280.length : Int)
                · rw [if_pos c19] at H
                  have c19b0 : ((t275.length : Int) == (t280.length : Int)) = true := beq_iff_eq.mpr c19
                  have c19b1 : ((t275.length : Int) != (t280.length : Int)) = false := bne_eq_false_iff_eq.mpr c19
                  have c19b2 : (t275.length == t280.length) = true := by first | simpa using c19 | (simp at c19 ⊢; omega)
                  clear c19
                  by_cases c20 : t277 = 0
                  · rw [if_pos c20] at H
                    have c20b0 : (t277 == 0) = true := beq_iff_eq.mpr c20
                    have c20b1 : (t277 != 0) = false := bne_eq_false_iff_eq.mpr c20
                    clear c20
                    have H' := Aside0.mk H
                    clear H
                    obtain ⟨Ao21, co21, eo21⟩ := Kd.R_slice HO279.out
                    subst eo21
                    obtain ⟨Ao22, co22, eo22⟩ := Kd.R_slice HO284.out
                    subst eo22
                    go_wp2
                    repeat (go_quiet (fail); try go_wp2)
                    go_meet
                    case rel => exact ⟨_, (false), (by first | rfl | (simp; done) | (simp [*]; done)), H', ⟨by have := HK1.out; first | omega | exact Nat.le_refl _⟩, ⟨by (with_reducible repeat (first | apply Kd.R_alloc | apply Kd.R_drewN | apply Kd.R_drew)); exact Kd.R_mono HO279.out (fun _ hk => hk.2)⟩, ⟨by (with_reducible repeat (first | apply Kd.R_alloc | apply Kd.R_drewN | apply Kd.R_drew)); exact Kd.R_mono HO284.out (fun _ hk => hk.2)⟩, ⟨by repeat (first | (with_reducible first | exact HB.out | apply below_alloc | apply pw_below_drewN | apply below_drew1) | exact HB.out)⟩⟩
                  · rw [if_neg c20] at H
                    have c20b0 : (t277 == 0) = false := beq_eq_false_iff_ne.mpr c20
                    have c20b1 : (t277 != 0) = true := bne_iff_ne.mpr c20
                    have H' := Aside0.mk H
                    clear H
                    obtain ⟨Ao23, co23, eo23⟩ := Kd.R_slice HO279.out
                    subst eo23
                    obtain ⟨Ao24, co24, eo24⟩ := Kd.R_slice HO284.out
                    subst eo24
                    go_wp2
                    repeat (go_quiet (fail); try go_wp2)
                    go_meet
                    case rel => exact ⟨_, (((wrap64 (t281 - (Int.tmod (wrap64 ((Int.tmod a1 90) + 90)) 90))) != t276)), (by first | rfl | (simp; done) | (simp [*]; done)), H', ⟨by have := HK1.out; first | omega | exact Nat.le_refl _⟩, ⟨by (with_reducible repeat (first | apply Kd.R_alloc | apply Kd.R_drewN | apply Kd.R_drew)); exact Kd.R_mono HO279.out (fun _ hk => hk.2)⟩, ⟨by (with_reducible repeat (first | apply Kd.R_alloc | apply Kd.R_drewN | apply Kd.R_drew)); exact Kd.R_mono HO284.out (fun _ hk => hk.2)⟩, ⟨by repeat (first | (with_reducible first | exact HB.out | apply below_alloc | apply pw_below_drewN | apply below_drew1) | exact HB.out)⟩⟩
                · rw [if_neg c19] at H
                  have c19b0 : ((t275.length : Int) == (t280.length : Int)) = false := beq_eq_false_iff_ne.mpr c19
                  have c19b1 : ((t275.length : Int) != (t280.length : Int)) = true := bne_iff_ne.mpr c19
                  have c19b2 : (t275.length == t280.length) = false := by first | simpa using c19 | (simp at c19 ⊢; omega)
                  have H' := Aside0.mk H
                  clear H
                  obtain ⟨Ao25, co25, eo25⟩ := Kd.R_slice HO279.out
                  subst eo25
                  obtain ⟨Ao26, co26, eo26⟩ := Kd.R_slice HO284.out
                  subst eo26
                  go_wp2
                  repeat (go_quiet (fail); try go_wp2)
                  go_meet
                  case rel => exact ⟨_, (true), (by first | rfl | (simp; done) | (simp [*]; done)), H', ⟨by have := HK1.out; first | omega | exact Nat.le_refl _⟩, ⟨by (with_reducible repeat (first | apply Kd.R_alloc | apply Kd.R_drewN | apply Kd.R_drew)); exact Kd.R_mono HO279.out (fun _ hk => hk.2)⟩, ⟨by (with_reducible repeat (first | apply Kd.R_alloc | apply Kd.R_drewN | apply Kd.R_drew)); exact Kd.R_mono HO284.out (fun _ hk => hk.2)⟩, ⟨by repeat (first | (with_reducible first | exact HB.out | apply below_alloc | apply pw_below_drewN | apply below_drew1) | exact HB.out)⟩⟩
              · rw [if_neg c18] at H
                have c18b0 : (t277 == t282) = false := beq_eq_false_iff_ne.mpr c18
                have c18b1 : (t277 != t282) = true := bne_iff_ne.mpr c18
                (first | rw [c18b0] | (simp only [i64_w, i32_w]; rw [c18b0]) | skip)
                have H' := Aside0.mk H
                clear H
                go_wp2
                repeat (go_quiet (fail); try go_wp2)
                go_meet
                case rel => exact ⟨_, (true), (by first | rfl | (simp; done) | (simp [*]; done)), H', ⟨by have := HK1.out; first | omega | exact Nat.le_refl _⟩, ⟨by (with_reducible repeat (first | apply Kd.R_alloc | apply Kd.R_drewN | apply Kd.R_drew)); exact Kd.R_mono HO279.out (fun _ hk => hk.2)⟩, ⟨by (with_reducible repeat (first | apply Kd.R_alloc | apply Kd.R_drewN | apply Kd.R_drew)); exact Kd.R_mono HO284.out (fun _ hk => hk.2)⟩, ⟨by repeat (first | (with_reducible first | exact HB.out | apply below_alloc | apply pw_below_drewN | apply below_drew1) | exact HB.out)⟩⟩
            case rest =>
              clear HC15
              try clear c1
              try clear c2
              try clear p2
              try clear c3
              try clear c3b0
              try clear c3b1
              try clear c5
              try clear c6
              try clear c6b0
              try clear p6
              try clear c8
              try clear c8b0
              try clear c8b1
              try clear c9
              try clear c9b0
              try clear c9b1
              try clear c10
              try clear c10b0
              try clear c10b1
              try clear c11
              try clear c11b0
              try clear c11b1
              try clear c11b2
              try clear c13
              try clear c13b0
              try clear c13b1
              try clear c13b2
              try clear c18
              try clear c18b0
              try clear c18b1
              try clear c19
              try clear c19b0
              try clear c19b1
              try clear c19b2
              try clear c20
              try clear c20b0
              try clear c20b1
              try clear p2
              obtain ⟨kq, x70_14, rfl, HA, HJ14, HO_7, HO_10, HB⟩ := hcut
              cases kq with
              | zero => exact absurd HA.out (by simp [auspicelaw09_LexMoves.j1])
              | succ kj14 =>
                have H := HA.out
                clear HA
                simp only [auspicelaw09_LexMoves.j1] at H
                by_cases c27 : x70_14 = true
                · subst c27
                  have H1 : (some false) = some r := by rw [if_pos rfl] at H; exact H
                  clear H
                  have H := H1
                  clear H1
                  obtain rfl := Option.some.inj H
                  go_wp2
                  repeat (go_quiet (fail); try go_wp2)
                  go_ret
                  exact ⟨by first | rfl | (simp [errW_none, errW_some] <;> rfl) | (simp [*, errW_none, errW_some] <;> rfl), by repeat (first | (with_reducible first | exact HB.out | apply below_alloc | apply pw_below_drewN | apply below_drew1) | exact HB.out)⟩
                · replace c27 := Bool.eq_false_iff.mpr c27
                  subst c27
                  have H1 : (auspicelaw09_LexMoves.l1 kj14 (Int.tmod (wrap64 ((Int.tmod a1 90) + 90)) 90) t275 t280 0) = some r := by rw [if_neg (show ¬ (false = true) by decide)] at H; exact H
                  clear H
                  have H := H1
                  clear H1
                  have H' := Aside0.mk H
                  clear H
                  go_wp2
                  repeat (go_quiet (fail); try go_wp2)
                  go_loopg [13] kj14 (fun kq v13 w' => ∃ (x13_3 : Int), v13 = .int .i64 x13_3 ∧ Aside0 (auspicelaw09_LexMoves.l1 kq (Int.tmod (wrap64 ((Int.tmod a1 90) + 90)) 90) t275 t280 x13_3 = some r) ∧ Aside0 (kq ≤ kj14) ∧ Aside0 (Kd.R k34 34 w' w.heap.size (fun k_ => some k_ ≠ (v283 : Value).ownBlock) v278 t275) ∧ Aside0 (Kd.R k34 34 w' w.heap.size (fun k_ => some k_ ≠ (v278 : Value).ownBlock) v283 t280) ∧ Aside0 (Below w.heap.size w w'))
                  case atStart => exact ⟨(0), (by first | rfl | (simp; done) | (simp [*]; done)), H', ⟨Nat.le_refl _⟩, ⟨by (with_reducible repeat (first | apply Kd.R_alloc | apply Kd.R_drewN | apply Kd.R_drew)); exact HO_7.out⟩, ⟨by (with_reducible repeat (first | apply Kd.R_alloc | apply Kd.R_drewN | apply Kd.R_drew)); exact HO_10.out⟩, ⟨by repeat (first | (with_reducible first | exact HB.out | apply below_alloc | apply pw_below_drewN | apply below_drew1) | exact HB.out)⟩⟩
                  case round =>
                    clear H'
                    try clear c1
                    try clear c2
                    try clear p2
                    try clear c3
                    try clear c3b0
                    try clear c3b1
                    try clear c5
                    try clear c6
                    try clear c6b0
                    try clear p6
                    try clear c8
                    try clear c8b0
                    try clear c8b1
                    try clear c9
                    try clear c9b0
                    try clear c9b1
                    try clear c10
                    try clear c10b0
                    try clear c10b1
                    try clear c11
                    try clear c11b0
                    try clear c11b1
                    try clear c11b2
                    try clear c13
                    try clear c13b0
                    try clear c13b1
                    try clear c13b2
                    try clear c18
                    try clear c18b0
                    try clear c18b1
                    try clear c19
                    try clear c19b0
                    try clear c19b1
                    try clear c19b2
                    try clear c20
                    try clear c20b0
                    try clear c20b1
                    try clear c27
                    try clear p2
                    try clear p6
                    obtain ⟨x13_3, rfl, HA, HK3, HO_7, HO_10, HB⟩ := hrel
                    cases gk with
                    | zero => exact absurd HA.out (by simp [auspicelaw09_LexMoves.l1])
                    | succ k3 =>
                      have H := HA.out
                      clear HA
                      simp only [auspicelaw09_LexMoves.l1] at H
                      by_cases c28 : x13_3 < (t275.length : Int)
                      · rw [if_pos c28] at H
                        have c28b0 : decide (x13_3 < (t275.length : Int)) = true := decide_eq_true c28
                        clear c28
                        by_cases c29 : 0 ≤ x13_3
                        · rw [if_pos c29] at H
                          have c29b0 : decide (0 ≤ x13_3) = true := decide_eq_true c29
                          clear c29
                          by_cases c30 : x13_3 < (t280.length : Int)
                          · rw [if_pos c30] at H
                            have c30b0 : decide (x13_3 < (t280.length : Int)) = true := decide_eq_true c30
                            clear c30
                            by_cases c31 : (!(((rd_T34 t280 x13_3).f0) == ((rd_T34 t275 x13_3).f0)) || (!((wrap64 (((rd_T34 t280 x13_3).f1) - (Int.tmod (wrap64 ((Int.tmod a1 90) + 90)) 90))) == ((rd_T34 t275 x13_3).f1)) || (!((((rd_T34 t280 x13_3).f2).toList) == (((rd_T34 t275 x13_3).f2).toList)) || (!(((rd_T34 t280 x13_3).f3) == ((rd_T34 t275 x13_3).f3)) || (!((((rd_T34 t280 x13_3).f4).toList) == (((rd_T34 t275 x13_3).f4).toList))))))) = true
                            · rw [if_pos c31] at H
                              have c31b0 : (!(((rd_T34 t280 x13_3).f0) == ((rd_T34 t275 x13_3).f0)) || (!((wrap64 (((rd_T34 t280 x13_3).f1) - (Int.tmod (wrap64 ((Int.tmod a1 90) + 90)) 90))) == ((rd_T34 t275 x13_3).f1)) || (!((((rd_T34 t280 x13_3).f2).toList) == (((rd_T34 t275 x13_3).f2).toList)) || (!(((rd_T34 t280 x13_3).f3) == ((rd_T34 t275 x13_3).f3)) || (!((((rd_T34 t280 x13_3).f4).toList) == (((rd_T34 t275 x13_3).f4).toList))))))) = true := c31
                              clear c31
                              obtain rfl := Option.some.inj H
                              obtain ⟨Ao32, co32, eo32⟩ := Kd.R_slice HO_7.out
                              subst eo32
                              obtain ⟨Ao33, co33, eo33⟩ := Kd.R_slice HO_10.out
                              subst eo33
                              have p285 : 0 ≤ (x13_3 : Int) := of_decide_eq_true (by first | (with_reducible assumption) | assumption)
                              have q285 : x13_3 < (t280.length : Int) := of_decide_eq_true (by first | (with_reducible assumption) | assumption)
                              obtain ⟨ad285, e285, hx285_0, hx285_1, hx285_2, hx285_3, hx285_4⟩ := at_T34 (Kd.R_reads' HO_10.out).2.2 x13_3 p285 q285
                              cases e285
                              replace p285 := eq_true p285
                              replace q285 := eq_true q285
                              go_wp2
                              have p287 : 0 ≤ (x13_3 : Int) := of_eq_true (by assumption)
                              have q287 : x13_3 < (t275.length : Int) := of_decide_eq_true (by assumption)
                              obtain ⟨ad287, e287, hx287_0, hx287_1, hx287_2, hx287_3, hx287_4⟩ := at_T34 (Kd.R_reads' HO_7.out).2.2 x13_3 p287 q287
                              cases e287
                              have hy287_0 := fun (o : Obj) => (World.cell?_alloc_lt _ o _ (cell_lt hx287_0)).trans hx287_0
                              have hy287_1 := fun (o : Obj) => (World.cell?_alloc_lt _ o _ (cell_lt hx287_1)).trans hx287_1
                              have hy287_2 := fun (o : Obj) => (World.cell?_alloc_lt _ o _ (cell_lt hx287_2)).trans hx287_2
                              have hy287_3 := fun (o : Obj) => (World.cell?_alloc_lt _ o _ (cell_lt hx287_3)).trans hx287_3
                              have hy287_4 := fun (o : Obj) => (World.cell?_alloc_lt _ o _ (cell_lt hx287_4)).trans hx287_4
                              replace p287 := eq_true p287
                              replace q287 := eq_true q287
                              repeat (go_quiet (fail); try go_wp2)
                              go_ret
                              exact ⟨by first | rfl | (simp [errW_none, errW_some] <;> rfl) | (simp [*, errW_none, errW_some] <;> rfl), by repeat (first | (with_reducible first | exact HB.out | apply below_alloc | apply pw_below_drewN | apply below_drew1 | refine below_set ?_ GE286.out) | exact HB.out)⟩
                            · rw [if_neg c31] at H
                              have c31b0 : (!(((rd_T34 t280 x13_3).f0) == ((rd_T34 t275 x13_3).f0)) || (!((wrap64 (((rd_T34 t280 x13_3).f1) - (Int.tmod (wrap64 ((Int.tmod a1 90) + 90)) 90))) == ((rd_T34 t275 x13_3).f1)) || (!((((rd_T34 t280 x13_3).f2).toList) == (((rd_T34 t275 x13_3).f2).toList)) || (!(((rd_T34 t280 x13_3).f3) == ((rd_T34 t275 x13_3).f3)) || (!((((rd_T34 t280 x13_3).f4).toList) == (((rd_T34 t275 x13_3).f4).toList))))))) = false := by simpa using c31
                              clear c31
                              have H' := Aside0.mk H
                              clear H
                              obtain ⟨Ao36, co36, eo36⟩ := Kd.R_slice HO_7.out
                              subst eo36
                              obtain ⟨Ao37, co37, eo37⟩ := Kd.R_slice HO_10.out
                              subst eo37
                              have p285 : 0 ≤ (x13_3 : Int) := of_decide_eq_true (by first | (with_reducible assumption) | assumption)
                              have q285 : x13_3 < (t280.length : Int) := of_decide_eq_true (by first | (with_reducible assumption) | assumption)
                              obtain ⟨ad285, e285, hx285_0, hx285_1, hx285_2, hx285_3, hx285_4⟩ := at_T34 (Kd.R_reads' HO_10.out).2.2 x13_3 p285 q285
                              cases e285
                              replace p285 := eq_true p285
                              replace q285 := eq_true q285
                              go_wp2
                              have p287 : 0 ≤ (x13_3 : Int) := of_eq_true (by assumption)
                              have q287 : x13_3 < (t275.length : Int) := of_decide_eq_true (by assumption)
                              obtain ⟨ad287, e287, hx287_0, hx287_1, hx287_2, hx287_3, hx287_4⟩ := at_T34 (Kd.R_reads' HO_7.out).2.2 x13_3 p287 q287
                              cases e287
                              have hy287_0 := fun (o : Obj) => (World.cell?_alloc_lt _ o _ (cell_lt hx287_0)).trans hx287_0
                              have hy287_1 := fun (o : Obj) => (World.cell?_alloc_lt _ o _ (cell_lt hx287_1)).trans hx287_1
                              have hy287_2 := fun (o : Obj) => (World.cell?_alloc_lt _ o _ (cell_lt hx287_2)).trans hx287_2
                              have hy287_3 := fun (o : Obj) => (World.cell?_alloc_lt _ o _ (cell_lt hx287_3)).trans hx287_3
                              have hy287_4 := fun (o : Obj) => (World.cell?_alloc_lt _ o _ (cell_lt hx287_4)).trans hx287_4
                              replace p287 := eq_true p287
                              replace q287 := eq_true q287
                              repeat (go_quiet (fail); try go_wp2)
                              go_roundg k3
                              case measure => have := HK1.out; have := HJ14.out; have := HK3.out; omega
                              case rel => exact ⟨(wrap64 (x13_3 + 1)), (by first | rfl | (simp; done) | (simp [*]; done)), H', ⟨by have := HK1.out; have := HJ14.out; have := HK3.out; omega⟩, ⟨by (with_reducible repeat (first | apply Kd.R_alloc | apply Kd.R_drewN | apply Kd.R_drew)); exact HO_7.out⟩, ⟨by (with_reducible repeat (first | apply Kd.R_alloc | apply Kd.R_drewN | apply Kd.R_drew)); exact HO_10.out⟩, ⟨by repeat (first | (with_reducible first | exact HB.out | apply below_alloc | apply pw_below_drewN | apply below_drew1 | apply below_alloc) | exact HB.out)⟩⟩
                          · rw [if_neg c30] at H
                            exact absurd H (by simp)
                        · rw [if_neg c29] at H
                          exact absurd H (by simp)
                      · rw [if_neg c28] at H
                        have c28b0 : decide (x13_3 < (t275.length : Int)) = false := decide_eq_false c28
                        clear c28
                        replace H := Option.bind_eq_some_iff.mp H
                        obtain ⟨t288, A400, H⟩ := H
                        replace H : (some t288) = some r := H
                        have A40 := Aside0.mk A400
                        clear A400
                        obtain rfl := Option.some.inj H
                        obtain ⟨Ao41, co41, eo41⟩ := Kd.R_slice HO_7.out
                        subst eo41
                        go_wp2_with (first | (go_at_call 9; (with_reducible refine (auspicelaw09_awake.calls k3  t288 _ A40.out).mono ?_); rintro e w42 ⟨rfl, hb⟩; have n0_ := Aside0.mk (Kd.R_below (by (with_reducible repeat (first | apply Kd.R_alloc | apply Kd.R_drewN | apply Kd.R_drew)); exact HO_7.out) hb); have n1_ := Aside0.mk (Kd.R_below (by (with_reducible repeat (first | apply Kd.R_alloc | apply Kd.R_drewN | apply Kd.R_drew)); exact HO_10.out) hb); have n2_ := Aside0.mk (below_step (by repeat (first | (with_reducible first | exact HB.out | apply below_alloc | apply pw_below_drewN | apply below_drew1) | exact HB.out)) hb); clear HO_7; clear HO_10; clear HB; have HO_7 := n0_; have HO_10 := n1_; have HB := n2_; clear n0_ n1_ n2_; (try clear hb); (try clear hb2); (try clear hk); (try clear hi)))
                        repeat (go_quiet (first | (go_at_call 9; (with_reducible refine (auspicelaw09_awake.calls k3  t288 _ A40.out).mono ?_); rintro e w42 ⟨rfl, hb⟩; have n0_ := Aside0.mk (Kd.R_below (by (with_reducible repeat (first | apply Kd.R_alloc | apply Kd.R_drewN | apply Kd.R_drew)); exact HO_7.out) hb); have n1_ := Aside0.mk (Kd.R_below (by (with_reducible repeat (first | apply Kd.R_alloc | apply Kd.R_drewN | apply Kd.R_drew)); exact HO_10.out) hb); have n2_ := Aside0.mk (below_step (by repeat (first | (with_reducible first | exact HB.out | apply below_alloc | apply pw_below_drewN | apply below_drew1) | exact HB.out)) hb); clear HO_7; clear HO_10; clear HB; have HO_7 := n0_; have HO_10 := n1_; have HB := n2_; clear n0_ n1_ n2_; (try clear hb); (try clear hb2); (try clear hk); (try clear hi))); try go_wp2_with (first | (go_at_call 9; (with_reducible refine (auspicelaw09_awake.calls k3  t288 _ A40.out).mono ?_); rintro e w42 ⟨rfl, hb⟩; have n0_ := Aside0.mk (Kd.R_below (by (with_reducible repeat (first | apply Kd.R_alloc | apply Kd.R_drewN | apply Kd.R_drew)); exact HO_7.out) hb); have n1_ := Aside0.mk (Kd.R_below (by (with_reducible repeat (first | apply Kd.R_alloc | apply Kd.R_drewN | apply Kd.R_drew)); exact HO_10.out) hb); have n2_ := Aside0.mk (below_step (by repeat (first | (with_reducible first | exact HB.out | apply below_alloc | apply pw_below_drewN | apply below_drew1) | exact HB.out)) hb); clear HO_7; clear HO_10; clear HB; have HO_7 := n0_; have HO_10 := n1_; have HB := n2_; clear n0_ n1_ n2_; (try clear hb); (try clear hb2); (try clear hk); (try clear hi))))
                        go_ret
                        exact ⟨by first | rfl | (simp [errW_none, errW_some] <;> rfl) | (simp [*, errW_none, errW_some] <;> rfl), by repeat (first | (with_reducible first | exact HB.out | apply below_alloc | apply pw_below_drewN | apply below_drew1) | exact HB.out)⟩
          · rw [if_neg c13] at H
            exact absurd H (by simp)

/-- THE ONE PURE STATEMENT of auspicelaw09_LexMoves: yours. -/
def auspicelaw09_LexMoves.Pure : Prop := ∀ (a0 : ByteArray) (a1 : Int), a0.size ≤ 140737488351232 → (Lit.int .i64 a1).wf = true → ∃ k, auspicelaw09_LexMoves.f k a0 a1 = some true
theorem auspicelaw09_LexMoves.walk (P : auspicelaw09_LexMoves.Pure) (a0 : ByteArray) (a1 : Int) (w : World) (w0 : a0.size ≤ 140737488351232) (w1 : (Lit.int .i64 a1).wf = true) :
    Calls Tryd.prog 5 #[.string a0, .int .i64 a1] w fun e w' => e = .returned (.bool true) ∧ Below w.heap.size w w' := by
  obtain ⟨k, h⟩ := P a0 a1 w0 w1
  refine (auspicelaw09_LexMoves.calls k a0 a1 true w h).mono ?_
  rintro e w' ⟨rfl, hd⟩
  exact ⟨rfl, hd⟩

-- NOT PRINTED: function 6 (auspicelaw09_LexAgain)

end Go.Proofs.YtgillodpbkpecaaDoor.PLx
