-- By a program of this session (a patched scratch copy of a print): this claim's text.
import Derived.Test.YtgillodpbkpecaaDoorPLxx0
import Derived.Test.YtgillodpbkpecaaDoorPLxx5
import Derived.Test.YtgillodpbkpecaaDoorPLxxA
namespace Go.Proofs.YtgillodpbkpecaaDoor.PLx
open Go.RowKit Go.Proofs.YtgillodpbkpecaaDoor.Ext Go.Proofs.YtgillodpbkpecaaDoorW.PrintWords Go.Proofs.YtgillodpbkpecaaDoorW.PrintLast Go.Proofs.YtgillodpbkpecaaDoorW.PrintMore
attribute [local go_sem] max2_int min2_int max_two min_two max_three min_three max_four min_four   -- for this text's walks alone
set_option linter.unusedVariables false
set_option linter.unusedSimpArgs false
theorem bq (a b : Bool) : (a == b) = (!a != b) := by cases a <;> cases b <;> rfl

/-! ### auspicelaw09_LexCovers: function 4 -/
mutual
def auspicelaw09_LexCovers.l0 : Nat → ByteArray → List (S34) → Int → Int → Option (Bool)
  | 0, _, _, _, _ => none
  | k + 1, x0, x3, x6, x7 => if x7 < (x3.length : Int) then (if 0 ≤ x7 then (if ((rd_T34 x3 x7).f1) < x6 then (auspicelaw09_LexCovers.j1 k x0 x3 x6 x7 true ((rd_T34 x3 x7).f0) ((rd_T34 x3 x7).f1) ((rd_T34 x3 x7).f2) ((rd_T34 x3 x7).f3) ((rd_T34 x3 x7).f4)) else (if ((rd_T34 x3 x7).f1) > (x0.size : Int) then (auspicelaw09_LexCovers.j1 k x0 x3 x6 x7 true ((rd_T34 x3 x7).f0) ((rd_T34 x3 x7).f1) ((rd_T34 x3 x7).f2) ((rd_T34 x3 x7).f3) ((rd_T34 x3 x7).f4)) else (if (((rd_T34 x3 x7).f2).size : Int) > (wrap64 ((x0.size : Int) - ((rd_T34 x3 x7).f1))) then (auspicelaw09_LexCovers.j1 k x0 x3 x6 x7 true ((rd_T34 x3 x7).f0) ((rd_T34 x3 x7).f1) ((rd_T34 x3 x7).f2) ((rd_T34 x3 x7).f3) ((rd_T34 x3 x7).f4)) else (if 0 ≤ ((rd_T34 x3 x7).f1) then (if ((rd_T34 x3 x7).f1) ≤ (wrap64 (((rd_T34 x3 x7).f1) + (((rd_T34 x3 x7).f2).size : Int))) then (if (wrap64 (((rd_T34 x3 x7).f1) + (((rd_T34 x3 x7).f2).size : Int))) ≤ (x0.size : Int) then (if (x0.extract (((rd_T34 x3 x7).f1) : Int).toNat ((wrap64 (((rd_T34 x3 x7).f1) + (((rd_T34 x3 x7).f2).size : Int))) : Int).toNat).toList = ((rd_T34 x3 x7).f2).toList then (if ((((rd_T34 x3 x7).f0) == 0) != (x7 == (wrap64 ((x3.length : Int) - 1)))) = true then (auspicelaw09_LexCovers.j1 k x0 x3 x6 x7 true ((rd_T34 x3 x7).f0) ((rd_T34 x3 x7).f1) ((rd_T34 x3 x7).f2) ((rd_T34 x3 x7).f3) ((rd_T34 x3 x7).f4)) else (auspicelaw09_LexCovers.j1 k x0 x3 x6 x7 ((((rd_T34 x3 x7).f2).toList == ([] : List UInt8)) != (((rd_T34 x3 x7).f0) == 0)) ((rd_T34 x3 x7).f0) ((rd_T34 x3 x7).f1) ((rd_T34 x3 x7).f2) ((rd_T34 x3 x7).f3) ((rd_T34 x3 x7).f4))) else (auspicelaw09_LexCovers.j1 k x0 x3 x6 x7 true ((rd_T34 x3 x7).f0) ((rd_T34 x3 x7).f1) ((rd_T34 x3 x7).f2) ((rd_T34 x3 x7).f3) ((rd_T34 x3 x7).f4))) else (none)) else (none)) else (none))))) else (none)) else ((auspicelaw09_awake.f k).bind fun t271 => (if t271 = true then (if (x3.length : Int) > 0 then (some (x6 == (x0.size : Int))) else (some false)) else (some false)))
def auspicelaw09_LexCovers.j1 : Nat → ByteArray → List (S34) → Int → Int → Bool → Int → Int → ByteArray → Int → ByteArray → Option (Bool)
  | 0, _, _, _, _, _, _, _, _, _, _ => none
  | k + 1, x0, x3, x6, x7, x91, x274000, x274001, x274002, x274003, x274004 => if x91 = true then (some false) else (auspicelaw09_LexCovers.l1 k x0 x3 x7 x6 x274000 x274001 x274002 x274003 x274004)
def auspicelaw09_LexCovers.l1 : Nat → ByteArray → List (S34) → Int → Int → Int → Int → ByteArray → Int → ByteArray → Option (Bool)
  | 0, _, _, _, _, _, _, _, _, _ => none
  | k + 1, x0, x3, x7, x9, x274000, x274001, x274002, x274003, x274004 => if x9 < x274001 then (if 0 ≤ x9 then (if x9 < (x0.size : Int) then (if (bt x0 x9) = 32 then (auspicelaw09_LexCovers.l1 k x0 x3 x7 (wrap64 (x9 + 1)) x274000 x274001 x274002 x274003 x274004) else (if (bt x0 x9) = 9 then (auspicelaw09_LexCovers.l1 k x0 x3 x7 (wrap64 (x9 + 1)) x274000 x274001 x274002 x274003 x274004) else (if (bt x0 x9) = 10 then (auspicelaw09_LexCovers.l1 k x0 x3 x7 (wrap64 (x9 + 1)) x274000 x274001 x274002 x274003 x274004) else (if (bt x0 x9) = 13 then (auspicelaw09_LexCovers.l1 k x0 x3 x7 (wrap64 (x9 + 1)) x274000 x274001 x274002 x274003 x274004) else (some false))))) else (none)) else (none)) else (auspicelaw09_LexCovers.l0 k x0 x3 (wrap64 (x274001 + (x274002.size : Int))) (wrap64 (x7 + 1)))
end
def auspicelaw09_LexCovers.f (k : Nat) (a0 : ByteArray) : Option (Bool) := (lex_Scan.f k a0).bind fun bt265 => (if bt265.2.2 = 0 then (auspicelaw09_LexCovers.l0 k a0 bt265.1 0 0) else ((auspicelaw09_awake.f k).bind fun t270 => (if t270 = true then (some ((bt265.1.length : Int) == 0)) else (some false))))
theorem auspicelaw09_LexCovers.mono_l : ∀ k, (∀ y0 y1 y2 y3, LeO (auspicelaw09_LexCovers.l0 k y0 y1 y2 y3) (auspicelaw09_LexCovers.l0 (k + 1) y0 y1 y2 y3)) ∧ (∀ y0 y1 y2 y3 y4 y5 y6 y7 y8 y9, LeO (auspicelaw09_LexCovers.j1 k y0 y1 y2 y3 y4 y5 y6 y7 y8 y9) (auspicelaw09_LexCovers.j1 (k + 1) y0 y1 y2 y3 y4 y5 y6 y7 y8 y9)) ∧ (∀ y0 y1 y2 y3 y4 y5 y6 y7 y8, LeO (auspicelaw09_LexCovers.l1 k y0 y1 y2 y3 y4 y5 y6 y7 y8) (auspicelaw09_LexCovers.l1 (k + 1) y0 y1 y2 y3 y4 y5 y6 y7 y8))
  | 0 => ⟨fun _ _ _ _ r h => by simp [auspicelaw09_LexCovers.l0] at h, fun _ _ _ _ _ _ _ _ _ _ r h => by simp [auspicelaw09_LexCovers.j1] at h, fun _ _ _ _ _ _ _ _ _ r h => by simp [auspicelaw09_LexCovers.l1] at h⟩
  | k + 1 => by
    obtain ⟨ih0, ih1, ih2⟩ := auspicelaw09_LexCovers.mono_l k
    refine ⟨?_, ?_, ?_⟩
    · intro y0 y1 y2 y3
      unfold auspicelaw09_LexCovers.l0
      repeat' first
      | (with_reducible exact ih0 _ _ _ _)
      | (with_reducible exact ih1 _ _ _ _ _ _ _ _ _ _)
      | (with_reducible exact ih2 _ _ _ _ _ _ _ _ _)
      | (with_reducible exact auspicelaw09_awake.mono _)
      | (with_reducible exact lex_Scan.mono _ _)
      | (with_reducible exact LeO.refl _)
      | (with_reducible exact LeO.none _)
      | (with_reducible refine LeO.ite ?_ ?_)
      | (with_reducible refine LeO.bind ?_ (fun _ => ?_))
      | exact ih0 _ _ _ _
      | exact ih1 _ _ _ _ _ _ _ _ _ _
      | exact ih2 _ _ _ _ _ _ _ _ _
      | exact auspicelaw09_awake.mono _
      | exact lex_Scan.mono _ _
      | exact LeO.none _
      | refine LeO.ite ?_ ?_
      | refine LeO.bind ?_ (fun _ => ?_)
    · intro y0 y1 y2 y3 y4 y5 y6 y7 y8 y9
      unfold auspicelaw09_LexCovers.j1
      repeat' first
      | (with_reducible exact ih0 _ _ _ _)
      | (with_reducible exact ih1 _ _ _ _ _ _ _ _ _ _)
      | (with_reducible exact ih2 _ _ _ _ _ _ _ _ _)
      | (with_reducible exact auspicelaw09_awake.mono _)
      | (with_reducible exact lex_Scan.mono _ _)
      | (with_reducible exact LeO.refl _)
      | (with_reducible exact LeO.none _)
      | (with_reducible refine LeO.ite ?_ ?_)
      | (with_reducible refine LeO.bind ?_ (fun _ => ?_))
      | exact ih0 _ _ _ _
      | exact ih1 _ _ _ _ _ _ _ _ _ _
      | exact ih2 _ _ _ _ _ _ _ _ _
      | exact auspicelaw09_awake.mono _
      | exact lex_Scan.mono _ _
      | exact LeO.none _
      | refine LeO.ite ?_ ?_
      | refine LeO.bind ?_ (fun _ => ?_)
    · intro y0 y1 y2 y3 y4 y5 y6 y7 y8
      unfold auspicelaw09_LexCovers.l1
      repeat' first
      | (with_reducible exact ih0 _ _ _ _)
      | (with_reducible exact ih1 _ _ _ _ _ _ _ _ _ _)
      | (with_reducible exact ih2 _ _ _ _ _ _ _ _ _)
      | (with_reducible exact auspicelaw09_awake.mono _)
      | (with_reducible exact lex_Scan.mono _ _)
      | (with_reducible exact LeO.refl _)
      | (with_reducible exact LeO.none _)
      | (with_reducible refine LeO.ite ?_ ?_)
      | (with_reducible refine LeO.bind ?_ (fun _ => ?_))
      | exact ih0 _ _ _ _
      | exact ih1 _ _ _ _ _ _ _ _ _ _
      | exact ih2 _ _ _ _ _ _ _ _ _
      | exact auspicelaw09_awake.mono _
      | exact lex_Scan.mono _ _
      | exact LeO.none _
      | refine LeO.ite ?_ ?_
      | refine LeO.bind ?_ (fun _ => ?_)
theorem auspicelaw09_LexCovers.mono : ∀ a0 k, LeO (auspicelaw09_LexCovers.f k a0) (auspicelaw09_LexCovers.f (k + 1) a0) := by
  intro a0 k
  obtain ⟨ih0, ih1, ih2⟩ := auspicelaw09_LexCovers.mono_l k
  unfold auspicelaw09_LexCovers.f
  repeat' first
      | (with_reducible exact ih0 _ _ _ _)
      | (with_reducible exact ih1 _ _ _ _ _ _ _ _ _ _)
      | (with_reducible exact ih2 _ _ _ _ _ _ _ _ _)
      | (with_reducible exact auspicelaw09_awake.mono _)
      | (with_reducible exact lex_Scan.mono _ _)
      | (with_reducible exact LeO.refl _)
      | (with_reducible exact LeO.none _)
      | (with_reducible refine LeO.ite ?_ ?_)
      | (with_reducible refine LeO.bind ?_ (fun _ => ?_))
      | exact ih0 _ _ _ _
      | exact ih1 _ _ _ _ _ _ _ _ _ _
      | exact ih2 _ _ _ _ _ _ _ _ _
      | exact auspicelaw09_awake.mono _
      | exact lex_Scan.mono _ _
      | exact LeO.none _
      | refine LeO.ite ?_ ?_
      | refine LeO.bind ?_ (fun _ => ?_)
set_option maxHeartbeats 8000000 in
set_option maxRecDepth 100000 in
theorem auspicelaw09_LexCovers.calls (k : Nat) (a0 : ByteArray) (r : Bool) (w : World) (h : auspicelaw09_LexCovers.f k a0 = some r) :
    Calls Tryd.prog 4 #[.string a0] w fun e w' => e = .returned (.bool r) ∧ Below w.heap.size w w' := by
  have hu34 := Tryd.underlying34
  have HB := Aside0.mk (Below.refl w.heap.size w)
  have H : ((lex_Scan.f k a0).bind fun bt265 => (if bt265.2.2 = 0 then (auspicelaw09_LexCovers.l0 k a0 bt265.1 0 0) else ((auspicelaw09_awake.f k).bind fun t270 => (if t270 = true then (some ((bt265.1.length : Int) == 0)) else (some false))))) = some r := h
  clear h
  replace H := Option.bind_eq_some_iff.mp H
  obtain ⟨⟨t265, t266, t267⟩, A20, H⟩ := H
  replace H : (if t267 = 0 then (auspicelaw09_LexCovers.l0 k a0 t265 0 0) else ((auspicelaw09_awake.f k).bind fun t270 => (if t270 = true then (some ((t265.length : Int) == 0)) else (some false)))) = some r := H
  have A2 := Aside0.mk A20
  clear A20
  by_cases c3 : t267 = 0
  · rw [if_pos c3] at H
    have c3b0 : (t267 == 0) = true := beq_iff_eq.mpr c3
    have c3b1 : (t267 != 0) = false := bne_eq_false_iff_eq.mpr c3
    clear c3
    have H' := Aside0.mk H
    clear H
    go_enter Tryd.func4, Tryd.ntmps4
    go_wp2_with (first | (go_at_call 7; (with_reducible refine (lex_Scan.calls k a0 t265 t266 t267 _ A2.out).mono ?_); rintro e w4 ⟨v268, rfl, ho0, hb⟩; have n0_ := Aside0.mk (Kd.R_lower ho0 (below_size (by repeat (first | (with_reducible first | exact HB.out | apply below_alloc | apply pw_below_drewN | apply below_drew1) | exact HB.out)))); have n1_ := Aside0.mk (below_step (by repeat (first | (with_reducible first | exact HB.out | apply below_alloc | apply pw_below_drewN | apply below_drew1) | exact HB.out)) hb); clear HB; have HO269 := n0_; have HB := n1_; clear n0_ n1_; (try clear hb); (try clear hb2); (try clear hk); (try clear hi); (try clear ho0)))
    repeat (go_quiet (first | (go_at_call 7; (with_reducible refine (lex_Scan.calls k a0 t265 t266 t267 _ A2.out).mono ?_); rintro e w4 ⟨v268, rfl, ho0, hb⟩; have n0_ := Aside0.mk (Kd.R_lower ho0 (below_size (by repeat (first | (with_reducible first | exact HB.out | apply below_alloc | apply pw_below_drewN | apply below_drew1) | exact HB.out)))); have n1_ := Aside0.mk (below_step (by repeat (first | (with_reducible first | exact HB.out | apply below_alloc | apply pw_below_drewN | apply below_drew1) | exact HB.out)) hb); clear HB; have HO269 := n0_; have HB := n1_; clear n0_ n1_; (try clear hb); (try clear hb2); (try clear hk); (try clear hi); (try clear ho0))); try go_wp2_with (first | (go_at_call 7; (with_reducible refine (lex_Scan.calls k a0 t265 t266 t267 _ A2.out).mono ?_); rintro e w4 ⟨v268, rfl, ho0, hb⟩; have n0_ := Aside0.mk (Kd.R_lower ho0 (below_size (by repeat (first | (with_reducible first | exact HB.out | apply below_alloc | apply pw_below_drewN | apply below_drew1) | exact HB.out)))); have n1_ := Aside0.mk (below_step (by repeat (first | (with_reducible first | exact HB.out | apply below_alloc | apply pw_below_drewN | apply below_drew1) | exact HB.out)) hb); clear HB; have HO269 := n0_; have HB := n1_; clear n0_ n1_; (try clear hb); (try clear hb2); (try clear hk); (try clear hi); (try clear ho0))))
    go_loopg [6, 7] k (fun kq v6 v7 w' => ∃ (x6_1 : Int) (x7_1 : Int), v6 = .int .i64 x6_1 ∧ v7 = .int .i64 x7_1 ∧ Aside0 (auspicelaw09_LexCovers.l0 kq a0 t265 x6_1 x7_1 = some r) ∧ Aside0 (kq ≤ k) ∧ Aside0 (Kd.R k34 34 w' w.heap.size (fun _ => True) v268 t265) ∧ Aside0 (Below w.heap.size w w'))
    case atStart => exact ⟨(0), (0), (by first | rfl | (simp; done) | (simp [*]; done)), (by first | rfl | (simp; done) | (simp [*]; done)), H', ⟨Nat.le_refl _⟩, ⟨by (with_reducible repeat (first | apply Kd.R_alloc | apply Kd.R_drewN | apply Kd.R_drew)); exact HO269.out⟩, ⟨by repeat (first | (with_reducible first | exact HB.out | apply below_alloc | apply pw_below_drewN | apply below_drew1) | exact HB.out)⟩⟩
    case round =>
      clear H'
      try clear p2
      try clear c3
      try clear c3b0
      try clear c3b1
      try clear c4
      obtain ⟨x6_1, x7_1, rfl, rfl, HA, HK1, HO_3, HB⟩ := hrel
      cases gk with
      | zero => exact absurd HA.out (by simp [auspicelaw09_LexCovers.l0])
      | succ k1 =>
        have H := HA.out
        clear HA
        simp only [auspicelaw09_LexCovers.l0] at H
        by_cases c5 : x7_1 < (t265.length : Int)
        · rw [if_pos c5] at H
          have c5b0 : decide (x7_1 < (t265.length : Int)) = true := decide_eq_true c5
          clear c5
          by_cases c6 : 0 ≤ x7_1
          · rw [if_pos c6] at H
            have c6b0 : decide (0 ≤ x7_1) = true := decide_eq_true c6
            clear c6
            have HC7 := Aside0.mk H
            clear H
            obtain ⟨Ao8, co8, eo8⟩ := Kd.R_slice HO_3.out
            subst eo8
            have p272 : 0 ≤ (x7_1 : Int) := of_decide_eq_true (by first | (with_reducible assumption) | assumption)
            have q272 : x7_1 < (t265.length : Int) := of_decide_eq_true (by first | (with_reducible assumption) | assumption)
            obtain ⟨ad272, e272, hx272_0, hx272_1, hx272_2, hx272_3, hx272_4⟩ := at_T34 (Kd.R_reads' HO_3.out).2.2 x7_1 p272 q272
            cases e272
            replace p272 := eq_true p272
            replace q272 := eq_true q272
            go_upto_region 9 with (first | ((with_reducible refine gate_dst (N := 8) rfl ?_); (try (refine gate_guard (by rfl) ?_; dsimp only)); refine box_event ?hg (N := 8) ?hd (cs := #[.int .i64 0, .int .i64 0, .string (⟨#[]⟩ : ByteArray), .int .i64 0, .string (⟨#[]⟩ : ByteArray)]) (t := 34) ?hr ?_; (case hd => rfl); (case hg => rfl); (case hr => first | (go_simp; done) | (go_simp; rfl)); intro gb273 hg w9 hbox hb; have n0_ := Aside0.mk (Kd.R_below (Kd.R_elderB (by (with_reducible repeat (first | apply Kd.R_alloc | apply Kd.R_drewN | apply Kd.R_drew)); exact HO_3.out) gb273 (Nat.le_of_eq hg.symm)) hb); have n1_ := Aside0.mk (below_step (by repeat (first | (with_reducible first | exact HB.out | apply below_alloc | apply pw_below_drewN | apply below_drew1) | exact HB.out)) hb); have n2_ := Aside0.mk (hbox); have n3_ := Aside0.mk ((by rw [hg]; exact (below_size (by repeat (first | (with_reducible first | exact HB.out | apply below_alloc | apply pw_below_drewN | apply below_drew1) | exact HB.out))) : w.heap.size ≤ gb273)); have n4_ := Aside0.mk ((by rw [hg]; exact (below_size (by repeat (first | (with_reducible first | exact HB.out | apply below_alloc | apply pw_below_drewN | apply below_drew1) | exact HB.out))) : w.heap.size ≤ gb273)); clear HO_3; clear HB; have HO_3 := n0_; have HB := n1_; have BK273 := n2_; have GW273 := n3_; have GE273 := n4_; clear n0_ n1_ n2_ n3_ n4_; clear hb hbox hg; have hcz10_0 : w9.cell? ⟨gb273, 0, none⟩ = some (.int .i64 0) := (blk_cell BK273.out 0).trans rfl; have hcz10_1 : w9.cell? ⟨gb273, 1, none⟩ = some (.int .i64 0) := (blk_cell BK273.out 1).trans rfl; have hcz10_2 : w9.cell? ⟨gb273, 2, none⟩ = some (.string (⟨#[]⟩ : ByteArray)) := (blk_cell BK273.out 2).trans rfl; have hcz10_3 : w9.cell? ⟨gb273, 3, none⟩ = some (.int .i64 0) := (blk_cell BK273.out 3).trans rfl; have hcz10_4 : w9.cell? ⟨gb273, 4, none⟩ = some (.string (⟨#[]⟩ : ByteArray)) := (blk_cell BK273.out 4).trans rfl; have hfz10_0 := blk_frozen BK273.out 0; have hfz10_1 := blk_frozen BK273.out 1; have hfz10_2 := blk_frozen BK273.out 2; have hfz10_3 := blk_frozen BK273.out 3; have hfz10_4 := blk_frozen BK273.out 4))
            repeat (go_quiet (first | ((with_reducible refine gate_dst (N := 8) rfl ?_); (try (refine gate_guard (by rfl) ?_; dsimp only)); refine box_event ?hg (N := 8) ?hd (cs := #[.int .i64 0, .int .i64 0, .string (⟨#[]⟩ : ByteArray), .int .i64 0, .string (⟨#[]⟩ : ByteArray)]) (t := 34) ?hr ?_; (case hd => rfl); (case hg => rfl); (case hr => first | (go_simp; done) | (go_simp; rfl)); intro gb273 hg w9 hbox hb; have n0_ := Aside0.mk (Kd.R_below (Kd.R_elderB (by (with_reducible repeat (first | apply Kd.R_alloc | apply Kd.R_drewN | apply Kd.R_drew)); exact HO_3.out) gb273 (Nat.le_of_eq hg.symm)) hb); have n1_ := Aside0.mk (below_step (by repeat (first | (with_reducible first | exact HB.out | apply below_alloc | apply pw_below_drewN | apply below_drew1) | exact HB.out)) hb); have n2_ := Aside0.mk (hbox); have n3_ := Aside0.mk ((by rw [hg]; exact (below_size (by repeat (first | (with_reducible first | exact HB.out | apply below_alloc | apply pw_below_drewN | apply below_drew1) | exact HB.out))) : w.heap.size ≤ gb273)); have n4_ := Aside0.mk ((by rw [hg]; exact (below_size (by repeat (first | (with_reducible first | exact HB.out | apply below_alloc | apply pw_below_drewN | apply below_drew1) | exact HB.out))) : w.heap.size ≤ gb273)); clear HO_3; clear HB; have HO_3 := n0_; have HB := n1_; have BK273 := n2_; have GW273 := n3_; have GE273 := n4_; clear n0_ n1_ n2_ n3_ n4_; clear hb hbox hg; have hcz10_0 : w9.cell? ⟨gb273, 0, none⟩ = some (.int .i64 0) := (blk_cell BK273.out 0).trans rfl; have hcz10_1 : w9.cell? ⟨gb273, 1, none⟩ = some (.int .i64 0) := (blk_cell BK273.out 1).trans rfl; have hcz10_2 : w9.cell? ⟨gb273, 2, none⟩ = some (.string (⟨#[]⟩ : ByteArray)) := (blk_cell BK273.out 2).trans rfl; have hcz10_3 : w9.cell? ⟨gb273, 3, none⟩ = some (.int .i64 0) := (blk_cell BK273.out 3).trans rfl; have hcz10_4 : w9.cell? ⟨gb273, 4, none⟩ = some (.string (⟨#[]⟩ : ByteArray)) := (blk_cell BK273.out 4).trans rfl; have hfz10_0 := blk_frozen BK273.out 0; have hfz10_1 := blk_frozen BK273.out 1; have hfz10_2 := blk_frozen BK273.out 2; have hfz10_3 := blk_frozen BK273.out 3; have hfz10_4 := blk_frozen BK273.out 4)); go_upto_region 9 with (first | ((with_reducible refine gate_dst (N := 8) rfl ?_); (try (refine gate_guard (by rfl) ?_; dsimp only)); refine box_event ?hg (N := 8) ?hd (cs := #[.int .i64 0, .int .i64 0, .string (⟨#[]⟩ : ByteArray), .int .i64 0, .string (⟨#[]⟩ : ByteArray)]) (t := 34) ?hr ?_; (case hd => rfl); (case hg => rfl); (case hr => first | (go_simp; done) | (go_simp; rfl)); intro gb273 hg w9 hbox hb; have n0_ := Aside0.mk (Kd.R_below (Kd.R_elderB (by (with_reducible repeat (first | apply Kd.R_alloc | apply Kd.R_drewN | apply Kd.R_drew)); exact HO_3.out) gb273 (Nat.le_of_eq hg.symm)) hb); have n1_ := Aside0.mk (below_step (by repeat (first | (with_reducible first | exact HB.out | apply below_alloc | apply pw_below_drewN | apply below_drew1) | exact HB.out)) hb); have n2_ := Aside0.mk (hbox); have n3_ := Aside0.mk ((by rw [hg]; exact (below_size (by repeat (first | (with_reducible first | exact HB.out | apply below_alloc | apply pw_below_drewN | apply below_drew1) | exact HB.out))) : w.heap.size ≤ gb273)); have n4_ := Aside0.mk ((by rw [hg]; exact (below_size (by repeat (first | (with_reducible first | exact HB.out | apply below_alloc | apply pw_below_drewN | apply below_drew1) | exact HB.out))) : w.heap.size ≤ gb273)); clear HO_3; clear HB; have HO_3 := n0_; have HB := n1_; have BK273 := n2_; have GW273 := n3_; have GE273 := n4_; clear n0_ n1_ n2_ n3_ n4_; clear hb hbox hg; have hcz10_0 : w9.cell? ⟨gb273, 0, none⟩ = some (.int .i64 0) := (blk_cell BK273.out 0).trans rfl; have hcz10_1 : w9.cell? ⟨gb273, 1, none⟩ = some (.int .i64 0) := (blk_cell BK273.out 1).trans rfl; have hcz10_2 : w9.cell? ⟨gb273, 2, none⟩ = some (.string (⟨#[]⟩ : ByteArray)) := (blk_cell BK273.out 2).trans rfl; have hcz10_3 : w9.cell? ⟨gb273, 3, none⟩ = some (.int .i64 0) := (blk_cell BK273.out 3).trans rfl; have hcz10_4 : w9.cell? ⟨gb273, 4, none⟩ = some (.string (⟨#[]⟩ : ByteArray)) := (blk_cell BK273.out 4).trans rfl; have hfz10_0 := blk_frozen BK273.out 0; have hfz10_1 := blk_frozen BK273.out 1; have hfz10_2 := blk_frozen BK273.out 2; have hfz10_3 := blk_frozen BK273.out 3; have hfz10_4 := blk_frozen BK273.out 4)))
            (try simp only [Act.put, List.setIfInBounds_toArray, List.set_cons_zero, List.set_cons_succ])
            go_cut [91] (fun v91 wc => ∃ (kq : Nat) (x91_6 : Bool), v91 = .bool x91_6 ∧ Aside0 (auspicelaw09_LexCovers.j1 kq a0 t265 x6_1 x7_1 x91_6 ((rd_T34 t265 x7_1).f0) ((rd_T34 t265 x7_1).f1) ((rd_T34 t265 x7_1).f2) ((rd_T34 t265 x7_1).f3) ((rd_T34 t265 x7_1).f4) = some r) ∧ Aside0 (kq ≤ k1) ∧ Aside0 (Kd.R k34 34 wc w.heap.size (fun k_ => k_ ≠ gb273) (.slice (some ad272) t265.length co8) t265) ∧ Aside0 (wc.heap[gb273]? = some (.cells #[.int .i64 ((rd_T34 t265 x7_1).f0), .int .i64 ((rd_T34 t265 x7_1).f1), .string ((rd_T34 t265 x7_1).f2), .int .i64 ((rd_T34 t265 x7_1).f3), .string ((rd_T34 t265 x7_1).f4)] 34 (0, 0))) ∧ Aside0 (Below w.heap.size w wc))
            case first =>
              have H := HC7.out
              clear HC7
              by_cases c11 : ((rd_T34 t265 x7_1).f1) < x6_1
              · rw [if_pos c11] at H
                have c11b0 : decide (((rd_T34 t265 x7_1).f1) < x6_1) = true := decide_eq_true c11
                clear c11
                (first | rw [c11b0] | (simp only [i64_w, i32_w]; rw [c11b0]) | skip)
                have H' := Aside0.mk H
                clear H
                have hcz12_0 : w9.cell? ⟨gb273, 0, none⟩ = some (.int .i64 0) := (blk_cell BK273.out 0).trans rfl
                have hcz12_1 : w9.cell? ⟨gb273, 1, none⟩ = some (.int .i64 0) := (blk_cell BK273.out 1).trans rfl
                have hcz12_2 : w9.cell? ⟨gb273, 2, none⟩ = some (.string (⟨#[]⟩ : ByteArray)) := (blk_cell BK273.out 2).trans rfl
                have hcz12_3 : w9.cell? ⟨gb273, 3, none⟩ = some (.int .i64 0) := (blk_cell BK273.out 3).trans rfl
                have hcz12_4 : w9.cell? ⟨gb273, 4, none⟩ = some (.string (⟨#[]⟩ : ByteArray)) := (blk_cell BK273.out 4).trans rfl
                have hfz12_0 := blk_frozen BK273.out 0
                have hfz12_1 := blk_frozen BK273.out 1
                have hfz12_2 := blk_frozen BK273.out 2
                have hfz12_3 := blk_frozen BK273.out 3
                have hfz12_4 := blk_frozen BK273.out 4
                go_wp2
                repeat (go_quiet (fail); try go_wp2)
                go_meet
                case rel => exact ⟨_, (true), (by first | rfl | (simp; done) | (simp [*]; done)), H', ⟨by have := HK1.out; first | omega | exact Nat.le_refl _⟩, ⟨by (with_reducible repeat (first | apply Kd.R_alloc | apply Kd.R_drewN | apply Kd.R_drew)); exact Kd.R_mono (Kd.R_far (p := ⟨gb273, 4, none⟩) (Kd.R_far (p := ⟨gb273, 3, none⟩) (Kd.R_far (p := ⟨gb273, 2, none⟩) (Kd.R_far (p := ⟨gb273, 1, none⟩) (Kd.R_far (p := ⟨gb273, 0, none⟩) (Kd.R_mono HO_3.out (fun k_ hk => (⟨hk, hk.2⟩ : _ ∧ k_ ≠ gb273))) (fun _ hk => hk.2) (.int .i64 ((rd_T34 t265 x7_1).f0))) (fun _ hk => hk.2) (.int .i64 ((rd_T34 t265 x7_1).f1))) (fun _ hk => hk.2) (.string ((rd_T34 t265 x7_1).f2))) (fun _ hk => hk.2) (.int .i64 ((rd_T34 t265 x7_1).f3))) (fun _ hk => hk.2) (.string ((rd_T34 t265 x7_1).f4))) (fun _ hk => hk.1.2)⟩, ⟨by (with_reducible repeat (first | refine blk_drewN ?_ _ | refine blk_drew ?_ | refine blk_alloc ?_ _)); refine blk_put (cs := #[.int .i64 ((rd_T34 t265 x7_1).f0), .int .i64 ((rd_T34 t265 x7_1).f1), .string ((rd_T34 t265 x7_1).f2), .int .i64 ((rd_T34 t265 x7_1).f3), .string (⟨#[]⟩ : ByteArray)]) ?_ 4 _ rfl; (with_reducible repeat (first | refine blk_drewN ?_ _ | refine blk_drew ?_ | refine blk_alloc ?_ _)); refine blk_put (cs := #[.int .i64 ((rd_T34 t265 x7_1).f0), .int .i64 ((rd_T34 t265 x7_1).f1), .string ((rd_T34 t265 x7_1).f2), .int .i64 0, .string (⟨#[]⟩ : ByteArray)]) ?_ 3 _ rfl; (with_reducible repeat (first | refine blk_drewN ?_ _ | refine blk_drew ?_ | refine blk_alloc ?_ _)); refine blk_put (cs := #[.int .i64 ((rd_T34 t265 x7_1).f0), .int .i64 ((rd_T34 t265 x7_1).f1), .string (⟨#[]⟩ : ByteArray), .int .i64 0, .string (⟨#[]⟩ : ByteArray)]) ?_ 2 _ rfl; (with_reducible repeat (first | refine blk_drewN ?_ _ | refine blk_drew ?_ | refine blk_alloc ?_ _)); refine blk_put (cs := #[.int .i64 ((rd_T34 t265 x7_1).f0), .int .i64 0, .string (⟨#[]⟩ : ByteArray), .int .i64 0, .string (⟨#[]⟩ : ByteArray)]) ?_ 1 _ rfl; (with_reducible repeat (first | refine blk_drewN ?_ _ | refine blk_drew ?_ | refine blk_alloc ?_ _)); refine blk_put (cs := #[.int .i64 0, .int .i64 0, .string (⟨#[]⟩ : ByteArray), .int .i64 0, .string (⟨#[]⟩ : ByteArray)]) ?_ 0 _ rfl; (with_reducible repeat (first | refine blk_drewN ?_ _ | refine blk_drew ?_ | refine blk_alloc ?_ _)); exact BK273.out⟩, ⟨by repeat (first | (with_reducible first | exact HB.out | apply below_alloc | apply pw_below_drewN | apply below_drew1 | refine below_set ?_ GE273.out) | exact HB.out)⟩⟩
              · rw [if_neg c11] at H
                have c11b0 : decide (((rd_T34 t265 x7_1).f1) < x6_1) = false := decide_eq_false c11
                clear c11
                (first | rw [c11b0] | (simp only [i64_w, i32_w]; rw [c11b0]) | skip)
                by_cases c13 : ((rd_T34 t265 x7_1).f1) > (a0.size : Int)
                · rw [if_pos c13] at H
                  have c13b0 : decide ((a0.size : Int) < ((rd_T34 t265 x7_1).f1)) = true := decide_eq_true c13
                  clear c13
                  have H' := Aside0.mk H
                  clear H
                  have hcz14_0 : w9.cell? ⟨gb273, 0, none⟩ = some (.int .i64 0) := (blk_cell BK273.out 0).trans rfl
                  have hcz14_1 : w9.cell? ⟨gb273, 1, none⟩ = some (.int .i64 0) := (blk_cell BK273.out 1).trans rfl
                  have hcz14_2 : w9.cell? ⟨gb273, 2, none⟩ = some (.string (⟨#[]⟩ : ByteArray)) := (blk_cell BK273.out 2).trans rfl
                  have hcz14_3 : w9.cell? ⟨gb273, 3, none⟩ = some (.int .i64 0) := (blk_cell BK273.out 3).trans rfl
                  have hcz14_4 : w9.cell? ⟨gb273, 4, none⟩ = some (.string (⟨#[]⟩ : ByteArray)) := (blk_cell BK273.out 4).trans rfl
                  have hfz14_0 := blk_frozen BK273.out 0
                  have hfz14_1 := blk_frozen BK273.out 1
                  have hfz14_2 := blk_frozen BK273.out 2
                  have hfz14_3 := blk_frozen BK273.out 3
                  have hfz14_4 := blk_frozen BK273.out 4
                  go_wp2
                  repeat (go_quiet (fail); try go_wp2)
                  go_meet
                  case rel => exact ⟨_, (true), (by first | rfl | (simp; done) | (simp [*]; done)), H', ⟨by have := HK1.out; first | omega | exact Nat.le_refl _⟩, ⟨by (with_reducible repeat (first | apply Kd.R_alloc | apply Kd.R_drewN | apply Kd.R_drew)); exact Kd.R_mono (Kd.R_far (p := ⟨gb273, 4, none⟩) (Kd.R_far (p := ⟨gb273, 3, none⟩) (Kd.R_far (p := ⟨gb273, 2, none⟩) (Kd.R_far (p := ⟨gb273, 1, none⟩) (Kd.R_far (p := ⟨gb273, 0, none⟩) (Kd.R_mono HO_3.out (fun k_ hk => (⟨hk, hk.2⟩ : _ ∧ k_ ≠ gb273))) (fun _ hk => hk.2) (.int .i64 ((rd_T34 t265 x7_1).f0))) (fun _ hk => hk.2) (.int .i64 ((rd_T34 t265 x7_1).f1))) (fun _ hk => hk.2) (.string ((rd_T34 t265 x7_1).f2))) (fun _ hk => hk.2) (.int .i64 ((rd_T34 t265 x7_1).f3))) (fun _ hk => hk.2) (.string ((rd_T34 t265 x7_1).f4))) (fun _ hk => hk.1.2)⟩, ⟨by (with_reducible repeat (first | refine blk_drewN ?_ _ | refine blk_drew ?_ | refine blk_alloc ?_ _)); refine blk_put (cs := #[.int .i64 ((rd_T34 t265 x7_1).f0), .int .i64 ((rd_T34 t265 x7_1).f1), .string ((rd_T34 t265 x7_1).f2), .int .i64 ((rd_T34 t265 x7_1).f3), .string (⟨#[]⟩ : ByteArray)]) ?_ 4 _ rfl; (with_reducible repeat (first | refine blk_drewN ?_ _ | refine blk_drew ?_ | refine blk_alloc ?_ _)); refine blk_put (cs := #[.int .i64 ((rd_T34 t265 x7_1).f0), .int .i64 ((rd_T34 t265 x7_1).f1), .string ((rd_T34 t265 x7_1).f2), .int .i64 0, .string (⟨#[]⟩ : ByteArray)]) ?_ 3 _ rfl; (with_reducible repeat (first | refine blk_drewN ?_ _ | refine blk_drew ?_ | refine blk_alloc ?_ _)); refine blk_put (cs := #[.int .i64 ((rd_T34 t265 x7_1).f0), .int .i64 ((rd_T34 t265 x7_1).f1), .string (⟨#[]⟩ : ByteArray), .int .i64 0, .string (⟨#[]⟩ : ByteArray)]) ?_ 2 _ rfl; (with_reducible repeat (first | refine blk_drewN ?_ _ | refine blk_drew ?_ | refine blk_alloc ?_ _)); refine blk_put (cs := #[.int .i64 ((rd_T34 t265 x7_1).f0), .int .i64 0, .string (⟨#[]⟩ : ByteArray), .int .i64 0, .string (⟨#[]⟩ : ByteArray)]) ?_ 1 _ rfl; (with_reducible repeat (first | refine blk_drewN ?_ _ | refine blk_drew ?_ | refine blk_alloc ?_ _)); refine blk_put (cs := #[.int .i64 0, .int .i64 0, .string (⟨#[]⟩ : ByteArray), .int .i64 0, .string (⟨#[]⟩ : ByteArray)]) ?_ 0 _ rfl; (with_reducible repeat (first | refine blk_drewN ?_ _ | refine blk_drew ?_ | refine blk_alloc ?_ _)); exact BK273.out⟩, ⟨by repeat (first | (with_reducible first | exact HB.out | apply below_alloc | apply pw_below_drewN | apply below_drew1 | refine below_set ?_ GE273.out) | exact HB.out)⟩⟩
                · rw [if_neg c13] at H
                  have c13b0 : decide ((a0.size : Int) < ((rd_T34 t265 x7_1).f1)) = false := decide_eq_false c13
                  clear c13
                  by_cases c15 : (((rd_T34 t265 x7_1).f2).size : Int) > (wrap64 ((a0.size : Int) - ((rd_T34 t265 x7_1).f1)))
                  · rw [if_pos c15] at H
                    have c15b0 : decide ((wrap64 ((a0.size : Int) - ((rd_T34 t265 x7_1).f1))) < (((rd_T34 t265 x7_1).f2).size : Int)) = true := decide_eq_true c15
                    clear c15
                    have H' := Aside0.mk H
                    clear H
                    have hcz16_0 : w9.cell? ⟨gb273, 0, none⟩ = some (.int .i64 0) := (blk_cell BK273.out 0).trans rfl
                    have hcz16_1 : w9.cell? ⟨gb273, 1, none⟩ = some (.int .i64 0) := (blk_cell BK273.out 1).trans rfl
                    have hcz16_2 : w9.cell? ⟨gb273, 2, none⟩ = some (.string (⟨#[]⟩ : ByteArray)) := (blk_cell BK273.out 2).trans rfl
                    have hcz16_3 : w9.cell? ⟨gb273, 3, none⟩ = some (.int .i64 0) := (blk_cell BK273.out 3).trans rfl
                    have hcz16_4 : w9.cell? ⟨gb273, 4, none⟩ = some (.string (⟨#[]⟩ : ByteArray)) := (blk_cell BK273.out 4).trans rfl
                    have hfz16_0 := blk_frozen BK273.out 0
                    have hfz16_1 := blk_frozen BK273.out 1
                    have hfz16_2 := blk_frozen BK273.out 2
                    have hfz16_3 := blk_frozen BK273.out 3
                    have hfz16_4 := blk_frozen BK273.out 4
                    go_wp2
                    repeat (go_quiet (fail); try go_wp2)
                    go_meet
                    case rel => exact ⟨_, (true), (by first | rfl | (simp; done) | (simp [*]; done)), H', ⟨by have := HK1.out; first | omega | exact Nat.le_refl _⟩, ⟨by (with_reducible repeat (first | apply Kd.R_alloc | apply Kd.R_drewN | apply Kd.R_drew)); exact Kd.R_mono (Kd.R_far (p := ⟨gb273, 4, none⟩) (Kd.R_far (p := ⟨gb273, 3, none⟩) (Kd.R_far (p := ⟨gb273, 2, none⟩) (Kd.R_far (p := ⟨gb273, 1, none⟩) (Kd.R_far (p := ⟨gb273, 0, none⟩) (Kd.R_mono HO_3.out (fun k_ hk => (⟨hk, hk.2⟩ : _ ∧ k_ ≠ gb273))) (fun _ hk => hk.2) (.int .i64 ((rd_T34 t265 x7_1).f0))) (fun _ hk => hk.2) (.int .i64 ((rd_T34 t265 x7_1).f1))) (fun _ hk => hk.2) (.string ((rd_T34 t265 x7_1).f2))) (fun _ hk => hk.2) (.int .i64 ((rd_T34 t265 x7_1).f3))) (fun _ hk => hk.2) (.string ((rd_T34 t265 x7_1).f4))) (fun _ hk => hk.1.2)⟩, ⟨by (with_reducible repeat (first | refine blk_drewN ?_ _ | refine blk_drew ?_ | refine blk_alloc ?_ _)); refine blk_put (cs := #[.int .i64 ((rd_T34 t265 x7_1).f0), .int .i64 ((rd_T34 t265 x7_1).f1), .string ((rd_T34 t265 x7_1).f2), .int .i64 ((rd_T34 t265 x7_1).f3), .string (⟨#[]⟩ : ByteArray)]) ?_ 4 _ rfl; (with_reducible repeat (first | refine blk_drewN ?_ _ | refine blk_drew ?_ | refine blk_alloc ?_ _)); refine blk_put (cs := #[.int .i64 ((rd_T34 t265 x7_1).f0), .int .i64 ((rd_T34 t265 x7_1).f1), .string ((rd_T34 t265 x7_1).f2), .int .i64 0, .string (⟨#[]⟩ : ByteArray)]) ?_ 3 _ rfl; (with_reducible repeat (first | refine blk_drewN ?_ _ | refine blk_drew ?_ | refine blk_alloc ?_ _)); refine blk_put (cs := #[.int .i64 ((rd_T34 t265 x7_1).f0), .int .i64 ((rd_T34 t265 x7_1).f1), .string (⟨#[]⟩ : ByteArray), .int .i64 0, .string (⟨#[]⟩ : ByteArray)]) ?_ 2 _ rfl; (with_reducible repeat (first | refine blk_drewN ?_ _ | refine blk_drew ?_ | refine blk_alloc ?_ _)); refine blk_put (cs := #[.int .i64 ((rd_T34 t265 x7_1).f0), .int .i64 0, .string (⟨#[]⟩ : ByteArray), .int .i64 0, .string (⟨#[]⟩ : ByteArray)]) ?_ 1 _ rfl; (with_reducible repeat (first | refine blk_drewN ?_ _ | refine blk_drew ?_ | refine blk_alloc ?_ _)); refine blk_put (cs := #[.int .i64 0, .int .i64 0, .string (⟨#[]⟩ : ByteArray), .int .i64 0, .string (⟨#[]⟩ : ByteArray)]) ?_ 0 _ rfl; (with_reducible repeat (first | refine blk_drewN ?_ _ | refine blk_drew ?_ | refine blk_alloc ?_ _)); exact BK273.out⟩, ⟨by repeat (first | (with_reducible first | exact HB.out | apply below_alloc | apply pw_below_drewN | apply below_drew1 | refine below_set ?_ GE273.out) | exact HB.out)⟩⟩
                  · rw [if_neg c15] at H
                    have c15b0 : decide ((wrap64 ((a0.size : Int) - ((rd_T34 t265 x7_1).f1))) < (((rd_T34 t265 x7_1).f2).size : Int)) = false := decide_eq_false c15
                    clear c15
                    by_cases c17 : 0 ≤ ((rd_T34 t265 x7_1).f1)
                    · rw [if_pos c17] at H
                      have c17b0 := eq_true c17
                      have c17b1 : decide (0 ≤ ((rd_T34 t265 x7_1).f1)) = true := decide_eq_true c17
                      clear c17
                      by_cases c18 : ((rd_T34 t265 x7_1).f1) ≤ (wrap64 (((rd_T34 t265 x7_1).f1) + (((rd_T34 t265 x7_1).f2).size : Int)))
                      · rw [if_pos c18] at H
                        have c18b0 := eq_true c18
                        have c18b1 : decide (((rd_T34 t265 x7_1).f1) ≤ (wrap64 (((rd_T34 t265 x7_1).f1) + (((rd_T34 t265 x7_1).f2).size : Int)))) = true := decide_eq_true c18
                        by_cases c19 : (wrap64 (((rd_T34 t265 x7_1).f1) + (((rd_T34 t265 x7_1).f2).size : Int))) ≤ (a0.size : Int)
                        · rw [if_pos c19] at H
                          have c19b0 := eq_true c19
                          have c19b1 : decide ((wrap64 (((rd_T34 t265 x7_1).f1) + (((rd_T34 t265 x7_1).f2).size : Int))) ≤ (a0.size : Int)) = true := decide_eq_true c19
                          by_cases c20 : (a0.extract (((rd_T34 t265 x7_1).f1) : Int).toNat ((wrap64 (((rd_T34 t265 x7_1).f1) + (((rd_T34 t265 x7_1).f2).size : Int))) : Int).toNat).toList = ((rd_T34 t265 x7_1).f2).toList
                          · rw [if_pos c20] at H
                            have c20b0 : ((a0.extract (((rd_T34 t265 x7_1).f1) : Int).toNat ((wrap64 (((rd_T34 t265 x7_1).f1) + (((rd_T34 t265 x7_1).f2).size : Int))) : Int).toNat).toList == ((rd_T34 t265 x7_1).f2).toList) = true := beq_iff_eq.mpr c20
                            have c20b1 : ((a0.extract (((rd_T34 t265 x7_1).f1) : Int).toNat ((wrap64 (((rd_T34 t265 x7_1).f1) + (((rd_T34 t265 x7_1).f2).size : Int))) : Int).toNat).toList != ((rd_T34 t265 x7_1).f2).toList) = false := bne_eq_false_iff_eq.mpr c20
                            clear c20
                            by_cases c21 : ((((rd_T34 t265 x7_1).f0) == 0) != (x7_1 == (wrap64 ((t265.length : Int) - 1)))) = true
                            · rw [if_pos c21] at H
                              have c21b0 : ((((rd_T34 t265 x7_1).f0) == 0) != (x7_1 == (wrap64 ((t265.length : Int) - 1)))) = true := c21
                              (try (have c21b1 : decide ((((rd_T34 t265 x7_1).f0) == 0) = (x7_1 == (wrap64 ((t265.length : Int) - 1)))) = false := by simpa using c21))
                              (try (have c21b2 : ((((rd_T34 t265 x7_1).f0) == 0) == (x7_1 == (wrap64 ((t265.length : Int) - 1)))) = false := by simpa using c21))
                              (try (have c21b3 : ¬ ((((rd_T34 t265 x7_1).f0) == 0) = (x7_1 == (wrap64 ((t265.length : Int) - 1)))) := by simpa using c21))
                              clear c21
                              have H' := Aside0.mk H
                              clear H
                              have hcz22_0 : w9.cell? ⟨gb273, 0, none⟩ = some (.int .i64 0) := (blk_cell BK273.out 0).trans rfl
                              have hcz22_1 : w9.cell? ⟨gb273, 1, none⟩ = some (.int .i64 0) := (blk_cell BK273.out 1).trans rfl
                              have hcz22_2 : w9.cell? ⟨gb273, 2, none⟩ = some (.string (⟨#[]⟩ : ByteArray)) := (blk_cell BK273.out 2).trans rfl
                              have hcz22_3 : w9.cell? ⟨gb273, 3, none⟩ = some (.int .i64 0) := (blk_cell BK273.out 3).trans rfl
                              have hcz22_4 : w9.cell? ⟨gb273, 4, none⟩ = some (.string (⟨#[]⟩ : ByteArray)) := (blk_cell BK273.out 4).trans rfl
                              have hfz22_0 := blk_frozen BK273.out 0
                              have hfz22_1 := blk_frozen BK273.out 1
                              have hfz22_2 := blk_frozen BK273.out 2
                              have hfz22_3 := blk_frozen BK273.out 3
                              have hfz22_4 := blk_frozen BK273.out 4
                              go_wp2
                              repeat (go_quiet (fail); try go_wp2)
                              go_meet
                              case rel => exact ⟨_, (true), (by first | rfl | (simp; done) | (simp [*]; done)), H', ⟨by have := HK1.out; first | omega | exact Nat.le_refl _⟩, ⟨by (with_reducible repeat (first | apply Kd.R_alloc | apply Kd.R_drewN | apply Kd.R_drew)); exact Kd.R_mono (Kd.R_far (p := ⟨gb273, 4, none⟩) (Kd.R_far (p := ⟨gb273, 3, none⟩) (Kd.R_far (p := ⟨gb273, 2, none⟩) (Kd.R_far (p := ⟨gb273, 1, none⟩) (Kd.R_far (p := ⟨gb273, 0, none⟩) (Kd.R_mono HO_3.out (fun k_ hk => (⟨hk, hk.2⟩ : _ ∧ k_ ≠ gb273))) (fun _ hk => hk.2) (.int .i64 ((rd_T34 t265 x7_1).f0))) (fun _ hk => hk.2) (.int .i64 ((rd_T34 t265 x7_1).f1))) (fun _ hk => hk.2) (.string ((rd_T34 t265 x7_1).f2))) (fun _ hk => hk.2) (.int .i64 ((rd_T34 t265 x7_1).f3))) (fun _ hk => hk.2) (.string ((rd_T34 t265 x7_1).f4))) (fun _ hk => hk.1.2)⟩, ⟨by (with_reducible repeat (first | refine blk_drewN ?_ _ | refine blk_drew ?_ | refine blk_alloc ?_ _)); refine blk_put (cs := #[.int .i64 ((rd_T34 t265 x7_1).f0), .int .i64 ((rd_T34 t265 x7_1).f1), .string ((rd_T34 t265 x7_1).f2), .int .i64 ((rd_T34 t265 x7_1).f3), .string (⟨#[]⟩ : ByteArray)]) ?_ 4 _ rfl; (with_reducible repeat (first | refine blk_drewN ?_ _ | refine blk_drew ?_ | refine blk_alloc ?_ _)); refine blk_put (cs := #[.int .i64 ((rd_T34 t265 x7_1).f0), .int .i64 ((rd_T34 t265 x7_1).f1), .string ((rd_T34 t265 x7_1).f2), .int .i64 0, .string (⟨#[]⟩ : ByteArray)]) ?_ 3 _ rfl; (with_reducible repeat (first | refine blk_drewN ?_ _ | refine blk_drew ?_ | refine blk_alloc ?_ _)); refine blk_put (cs := #[.int .i64 ((rd_T34 t265 x7_1).f0), .int .i64 ((rd_T34 t265 x7_1).f1), .string (⟨#[]⟩ : ByteArray), .int .i64 0, .string (⟨#[]⟩ : ByteArray)]) ?_ 2 _ rfl; (with_reducible repeat (first | refine blk_drewN ?_ _ | refine blk_drew ?_ | refine blk_alloc ?_ _)); refine blk_put (cs := #[.int .i64 ((rd_T34 t265 x7_1).f0), .int .i64 0, .string (⟨#[]⟩ : ByteArray), .int .i64 0, .string (⟨#[]⟩ : ByteArray)]) ?_ 1 _ rfl; (with_reducible repeat (first | refine blk_drewN ?_ _ | refine blk_drew ?_ | refine blk_alloc ?_ _)); refine blk_put (cs := #[.int .i64 0, .int .i64 0, .string (⟨#[]⟩ : ByteArray), .int .i64 0, .string (⟨#[]⟩ : ByteArray)]) ?_ 0 _ rfl; (with_reducible repeat (first | refine blk_drewN ?_ _ | refine blk_drew ?_ | refine blk_alloc ?_ _)); exact BK273.out⟩, ⟨by repeat (first | (with_reducible first | exact HB.out | apply below_alloc | apply pw_below_drewN | apply below_drew1 | refine below_set ?_ GE273.out) | exact HB.out)⟩⟩
                            · rw [if_neg c21] at H
                              have c21b0 : ((((rd_T34 t265 x7_1).f0) == 0) != (x7_1 == (wrap64 ((t265.length : Int) - 1)))) = false := by simpa using c21
                              (try (have c21b1 : decide ((((rd_T34 t265 x7_1).f0) == 0) = (x7_1 == (wrap64 ((t265.length : Int) - 1)))) = true := by simpa using c21))
                              (try (have c21b2 : ((((rd_T34 t265 x7_1).f0) == 0) == (x7_1 == (wrap64 ((t265.length : Int) - 1)))) = true := by simpa using c21))
                              clear c21
                              have H' := Aside0.mk H
                              clear H
                              have hcz23_0 : w9.cell? ⟨gb273, 0, none⟩ = some (.int .i64 0) := (blk_cell BK273.out 0).trans rfl
                              have hcz23_1 : w9.cell? ⟨gb273, 1, none⟩ = some (.int .i64 0) := (blk_cell BK273.out 1).trans rfl
                              have hcz23_2 : w9.cell? ⟨gb273, 2, none⟩ = some (.string (⟨#[]⟩ : ByteArray)) := (blk_cell BK273.out 2).trans rfl
                              have hcz23_3 : w9.cell? ⟨gb273, 3, none⟩ = some (.int .i64 0) := (blk_cell BK273.out 3).trans rfl
                              have hcz23_4 : w9.cell? ⟨gb273, 4, none⟩ = some (.string (⟨#[]⟩ : ByteArray)) := (blk_cell BK273.out 4).trans rfl
                              have hfz23_0 := blk_frozen BK273.out 0
                              have hfz23_1 := blk_frozen BK273.out 1
                              have hfz23_2 := blk_frozen BK273.out 2
                              have hfz23_3 := blk_frozen BK273.out 3
                              have hfz23_4 := blk_frozen BK273.out 4
                              go_wp2
                              repeat (go_quiet (fail); try go_wp2)
                              go_meet
                              case rel => exact ⟨_, (((((rd_T34 t265 x7_1).f2).toList == ([] : List UInt8)) != (((rd_T34 t265 x7_1).f0) == 0))), (by first | rfl | (simp; done) | (simp; exact bq _ _)), H', ⟨by have := HK1.out; first | omega | exact Nat.le_refl _⟩, ⟨by (with_reducible repeat (first | apply Kd.R_alloc | apply Kd.R_drewN | apply Kd.R_drew)); exact Kd.R_mono (Kd.R_far (p := ⟨gb273, 4, none⟩) (Kd.R_far (p := ⟨gb273, 3, none⟩) (Kd.R_far (p := ⟨gb273, 2, none⟩) (Kd.R_far (p := ⟨gb273, 1, none⟩) (Kd.R_far (p := ⟨gb273, 0, none⟩) (Kd.R_mono HO_3.out (fun k_ hk => (⟨hk, hk.2⟩ : _ ∧ k_ ≠ gb273))) (fun _ hk => hk.2) (.int .i64 ((rd_T34 t265 x7_1).f0))) (fun _ hk => hk.2) (.int .i64 ((rd_T34 t265 x7_1).f1))) (fun _ hk => hk.2) (.string ((rd_T34 t265 x7_1).f2))) (fun _ hk => hk.2) (.int .i64 ((rd_T34 t265 x7_1).f3))) (fun _ hk => hk.2) (.string ((rd_T34 t265 x7_1).f4))) (fun _ hk => hk.1.2)⟩, ⟨by (with_reducible repeat (first | refine blk_drewN ?_ _ | refine blk_drew ?_ | refine blk_alloc ?_ _)); refine blk_put (cs := #[.int .i64 ((rd_T34 t265 x7_1).f0), .int .i64 ((rd_T34 t265 x7_1).f1), .string ((rd_T34 t265 x7_1).f2), .int .i64 ((rd_T34 t265 x7_1).f3), .string (⟨#[]⟩ : ByteArray)]) ?_ 4 _ rfl; (with_reducible repeat (first | refine blk_drewN ?_ _ | refine blk_drew ?_ | refine blk_alloc ?_ _)); refine blk_put (cs := #[.int .i64 ((rd_T34 t265 x7_1).f0), .int .i64 ((rd_T34 t265 x7_1).f1), .string ((rd_T34 t265 x7_1).f2), .int .i64 0, .string (⟨#[]⟩ : ByteArray)]) ?_ 3 _ rfl; (with_reducible repeat (first | refine blk_drewN ?_ _ | refine blk_drew ?_ | refine blk_alloc ?_ _)); refine blk_put (cs := #[.int .i64 ((rd_T34 t265 x7_1).f0), .int .i64 ((rd_T34 t265 x7_1).f1), .string (⟨#[]⟩ : ByteArray), .int .i64 0, .string (⟨#[]⟩ : ByteArray)]) ?_ 2 _ rfl; (with_reducible repeat (first | refine blk_drewN ?_ _ | refine blk_drew ?_ | refine blk_alloc ?_ _)); refine blk_put (cs := #[.int .i64 ((rd_T34 t265 x7_1).f0), .int .i64 0, .string (⟨#[]⟩ : ByteArray), .int .i64 0, .string (⟨#[]⟩ : ByteArray)]) ?_ 1 _ rfl; (with_reducible repeat (first | refine blk_drewN ?_ _ | refine blk_drew ?_ | refine blk_alloc ?_ _)); refine blk_put (cs := #[.int .i64 0, .int .i64 0, .string (⟨#[]⟩ : ByteArray), .int .i64 0, .string (⟨#[]⟩ : ByteArray)]) ?_ 0 _ rfl; (with_reducible repeat (first | refine blk_drewN ?_ _ | refine blk_drew ?_ | refine blk_alloc ?_ _)); exact BK273.out⟩, ⟨by repeat (first | (with_reducible first | exact HB.out | apply below_alloc | apply pw_below_drewN | apply below_drew1 | refine below_set ?_ GE273.out) | exact HB.out)⟩⟩
                          · rw [if_neg c20] at H
                            have c20b0 : ((a0.extract (((rd_T34 t265 x7_1).f1) : Int).toNat ((wrap64 (((rd_T34 t265 x7_1).f1) + (((rd_T34 t265 x7_1).f2).size : Int))) : Int).toNat).toList == ((rd_T34 t265 x7_1).f2).toList) = false := beq_eq_false_iff_ne.mpr c20
                            have c20b1 : ((a0.extract (((rd_T34 t265 x7_1).f1) : Int).toNat ((wrap64 (((rd_T34 t265 x7_1).f1) + (((rd_T34 t265 x7_1).f2).size : Int))) : Int).toNat).toList != ((rd_T34 t265 x7_1).f2).toList) = true := bne_iff_ne.mpr c20
                            have H' := Aside0.mk H
                            clear H
                            have hcz24_0 : w9.cell? ⟨gb273, 0, none⟩ = some (.int .i64 0) := (blk_cell BK273.out 0).trans rfl
                            have hcz24_1 : w9.cell? ⟨gb273, 1, none⟩ = some (.int .i64 0) := (blk_cell BK273.out 1).trans rfl
                            have hcz24_2 : w9.cell? ⟨gb273, 2, none⟩ = some (.string (⟨#[]⟩ : ByteArray)) := (blk_cell BK273.out 2).trans rfl
                            have hcz24_3 : w9.cell? ⟨gb273, 3, none⟩ = some (.int .i64 0) := (blk_cell BK273.out 3).trans rfl
                            have hcz24_4 : w9.cell? ⟨gb273, 4, none⟩ = some (.string (⟨#[]⟩ : ByteArray)) := (blk_cell BK273.out 4).trans rfl
                            have hfz24_0 := blk_frozen BK273.out 0
                            have hfz24_1 := blk_frozen BK273.out 1
                            have hfz24_2 := blk_frozen BK273.out 2
                            have hfz24_3 := blk_frozen BK273.out 3
                            have hfz24_4 := blk_frozen BK273.out 4
                            go_wp2
                            repeat (go_quiet (fail); try go_wp2)
                            go_meet
                            case rel => exact ⟨_, (true), (by first | rfl | (simp; done) | (simp [*]; done)), H', ⟨by have := HK1.out; first | omega | exact Nat.le_refl _⟩, ⟨by (with_reducible repeat (first | apply Kd.R_alloc | apply Kd.R_drewN | apply Kd.R_drew)); exact Kd.R_mono (Kd.R_far (p := ⟨gb273, 4, none⟩) (Kd.R_far (p := ⟨gb273, 3, none⟩) (Kd.R_far (p := ⟨gb273, 2, none⟩) (Kd.R_far (p := ⟨gb273, 1, none⟩) (Kd.R_far (p := ⟨gb273, 0, none⟩) (Kd.R_mono HO_3.out (fun k_ hk => (⟨hk, hk.2⟩ : _ ∧ k_ ≠ gb273))) (fun _ hk => hk.2) (.int .i64 ((rd_T34 t265 x7_1).f0))) (fun _ hk => hk.2) (.int .i64 ((rd_T34 t265 x7_1).f1))) (fun _ hk => hk.2) (.string ((rd_T34 t265 x7_1).f2))) (fun _ hk => hk.2) (.int .i64 ((rd_T34 t265 x7_1).f3))) (fun _ hk => hk.2) (.string ((rd_T34 t265 x7_1).f4))) (fun _ hk => hk.1.2)⟩, ⟨by (with_reducible repeat (first | refine blk_drewN ?_ _ | refine blk_drew ?_ | refine blk_alloc ?_ _)); refine blk_put (cs := #[.int .i64 ((rd_T34 t265 x7_1).f0), .int .i64 ((rd_T34 t265 x7_1).f1), .string ((rd_T34 t265 x7_1).f2), .int .i64 ((rd_T34 t265 x7_1).f3), .string (⟨#[]⟩ : ByteArray)]) ?_ 4 _ rfl; (with_reducible repeat (first | refine blk_drewN ?_ _ | refine blk_drew ?_ | refine blk_alloc ?_ _)); refine blk_put (cs := #[.int .i64 ((rd_T34 t265 x7_1).f0), .int .i64 ((rd_T34 t265 x7_1).f1), .string ((rd_T34 t265 x7_1).f2), .int .i64 0, .string (⟨#[]⟩ : ByteArray)]) ?_ 3 _ rfl; (with_reducible repeat (first | refine blk_drewN ?_ _ | refine blk_drew ?_ | refine blk_alloc ?_ _)); refine blk_put (cs := #[.int .i64 ((rd_T34 t265 x7_1).f0), .int .i64 ((rd_T34 t265 x7_1).f1), .string (⟨#[]⟩ : ByteArray), .int .i64 0, .string (⟨#[]⟩ : ByteArray)]) ?_ 2 _ rfl; (with_reducible repeat (first | refine blk_drewN ?_ _ | refine blk_drew ?_ | refine blk_alloc ?_ _)); refine blk_put (cs := #[.int .i64 ((rd_T34 t265 x7_1).f0), .int .i64 0, .string (⟨#[]⟩ : ByteArray), .int .i64 0, .string (⟨#[]⟩ : ByteArray)]) ?_ 1 _ rfl; (with_reducible repeat (first | refine blk_drewN ?_ _ | refine blk_drew ?_ | refine blk_alloc ?_ _)); refine blk_put (cs := #[.int .i64 0, .int .i64 0, .string (⟨#[]⟩ : ByteArray), .int .i64 0, .string (⟨#[]⟩ : ByteArray)]) ?_ 0 _ rfl; (with_reducible repeat (first | refine blk_drewN ?_ _ | refine blk_drew ?_ | refine blk_alloc ?_ _)); exact BK273.out⟩, ⟨by repeat (first | (with_reducible first | exact HB.out | apply below_alloc | apply pw_below_drewN | apply below_drew1 | refine below_set ?_ GE273.out) | exact HB.out)⟩⟩
                        · rw [if_neg c19] at H
                          exact absurd H (by simp)
                      · rw [if_neg c18] at H
                        exact absurd H (by simp)
                    · rw [if_neg c17] at H
                      exact absurd H (by simp)
            case rest =>
              clear HC7
              try clear c1
              try clear c2
              try clear p2
              try clear q2
              try clear hx2
              try clear c3
              try clear c3b0
              try clear c3b1
              try clear c4
              try clear c5
              try clear c5b0
              try clear c6
              try clear c6b0
              try clear p6
              try clear c11
              try clear c11b0
              try clear c13
              try clear c13b0
              try clear c15
              try clear c15b0
              try clear c17
              try clear c17b0
              try clear c17b1
              try clear c18
              try clear c18b0
              try clear c18b1
              try clear c19
              try clear c19b0
              try clear c19b1
              try clear c20
              try clear c20b0
              try clear c20b1
              try clear c21
              try clear c21b0
              try clear c21b1
              try clear c21b2
              try clear hcz10_0
              try clear hcz10_1
              try clear hcz10_2
              try clear hcz10_3
              try clear hcz10_4
              try clear hcz12_0
              try clear hcz12_1
              try clear hcz12_2
              try clear hcz12_3
              try clear hcz12_4
              try clear hcz14_0
              try clear hcz14_1
              try clear hcz14_2
              try clear hcz14_3
              try clear hcz14_4
              try clear hcz16_0
              try clear hcz16_1
              try clear hcz16_2
              try clear hcz16_3
              try clear hcz16_4
              try clear hcz22_0
              try clear hcz22_1
              try clear hcz22_2
              try clear hcz22_3
              try clear hcz22_4
              try clear hcz23_0
              try clear hcz23_1
              try clear hcz23_2
              try clear hcz23_3
              try clear hcz23_4
              try clear hcz24_0
              try clear hcz24_1
              try clear hcz24_2
              try clear hcz24_3
              try clear hcz24_4
              try clear hfz10_0
              try clear hfz10_1
              try clear hfz10_2
              try clear hfz10_3
              try clear hfz10_4
              try clear hfz12_0
              try clear hfz12_1
              try clear hfz12_2
              try clear hfz12_3
              try clear hfz12_4
              try clear hfz14_0
              try clear hfz14_1
              try clear hfz14_2
              try clear hfz14_3
              try clear hfz14_4
              try clear hfz16_0
              try clear hfz16_1
              try clear hfz16_2
              try clear hfz16_3
              try clear hfz16_4
              try clear hfz22_0
              try clear hfz22_1
              try clear hfz22_2
              try clear hfz22_3
              try clear hfz22_4
              try clear hfz23_0
              try clear hfz23_1
              try clear hfz23_2
              try clear hfz23_3
              try clear hfz23_4
              try clear hfz24_0
              try clear hfz24_1
              try clear hfz24_2
              try clear hfz24_3
              try clear hfz24_4
              try clear hx272_0
              try clear hx272_1
              try clear hx272_2
              try clear hx272_3
              try clear hx272_4
              try clear p2
              try clear p272
              try clear q272
              obtain ⟨kq, x91_6, rfl, HA, HJ6, HO_3, BK273, HB⟩ := hcut
              cases kq with
              | zero => exact absurd HA.out (by simp [auspicelaw09_LexCovers.j1])
              | succ kj6 =>
                have H := HA.out
                clear HA
                simp only [auspicelaw09_LexCovers.j1] at H
                by_cases c25 : x91_6 = true
                · subst c25
                  have H1 : (some false) = some r := by rw [if_pos rfl] at H; exact H
                  clear H
                  have H := H1
                  clear H1
                  obtain rfl := Option.some.inj H
                  go_wp2
                  repeat (go_quiet (fail); try go_wp2)
                  go_ret
                  exact ⟨by first | rfl | (simp [errW_none, errW_some] <;> rfl) | (simp [*, errW_none, errW_some] <;> rfl), by repeat (first | (with_reducible first | exact HB.out | apply below_alloc | apply pw_below_drewN | apply below_drew1 | refine below_set ?_ GE273.out) | exact HB.out)⟩
                · replace c25 := Bool.eq_false_iff.mpr c25
                  subst c25
                  have H1 : (auspicelaw09_LexCovers.l1 kj6 a0 t265 x7_1 x6_1 ((rd_T34 t265 x7_1).f0) ((rd_T34 t265 x7_1).f1) ((rd_T34 t265 x7_1).f2) ((rd_T34 t265 x7_1).f3) ((rd_T34 t265 x7_1).f4)) = some r := by rw [if_neg (show ¬ (false = true) by decide)] at H; exact H
                  clear H
                  have H := H1
                  clear H1
                  have H' := Aside0.mk H
                  clear H
                  go_wp2
                  repeat (go_quiet (fail); try go_wp2)
                  go_loopg [9] kj6 (fun kq v9 w' => ∃ (x9_3 : Int), v9 = .int .i64 x9_3 ∧ Aside0 (auspicelaw09_LexCovers.l1 kq a0 t265 x7_1 x9_3 ((rd_T34 t265 x7_1).f0) ((rd_T34 t265 x7_1).f1) ((rd_T34 t265 x7_1).f2) ((rd_T34 t265 x7_1).f3) ((rd_T34 t265 x7_1).f4) = some r) ∧ Aside0 (kq ≤ kj6) ∧ Aside0 (Kd.R k34 34 w' w.heap.size (fun k_ => k_ ≠ gb273) (.slice (some ad272) t265.length co8) t265) ∧ Aside0 (w'.heap[gb273]? = some (.cells #[.int .i64 ((rd_T34 t265 x7_1).f0), .int .i64 ((rd_T34 t265 x7_1).f1), .string ((rd_T34 t265 x7_1).f2), .int .i64 ((rd_T34 t265 x7_1).f3), .string ((rd_T34 t265 x7_1).f4)] 34 (0, 0))) ∧ Aside0 (Below w.heap.size w w'))
                  case atStart => exact ⟨(x6_1), (by first | rfl | (simp; done) | (simp [*]; done)), H', ⟨Nat.le_refl _⟩, ⟨by (with_reducible repeat (first | apply Kd.R_alloc | apply Kd.R_drewN | apply Kd.R_drew)); exact HO_3.out⟩, ⟨by (with_reducible repeat (first | refine blk_drewN ?_ _ | refine blk_drew ?_ | refine blk_alloc ?_ _)); exact BK273.out⟩, ⟨by repeat (first | (with_reducible first | exact HB.out | apply below_alloc | apply pw_below_drewN | apply below_drew1 | refine below_set ?_ GE273.out) | exact HB.out)⟩⟩
                  case round =>
                    clear H'
                    try clear c1
                    try clear c2
                    try clear p2
                    try clear q2
                    try clear hx2
                    try clear c3
                    try clear c3b0
                    try clear c3b1
                    try clear c4
                    try clear c5
                    try clear c5b0
                    try clear c6
                    try clear c6b0
                    try clear p6
                    try clear c11
                    try clear c11b0
                    try clear c13
                    try clear c13b0
                    try clear c15
                    try clear c15b0
                    try clear c17
                    try clear c17b0
                    try clear c17b1
                    try clear c18
                    try clear c18b0
                    try clear c18b1
                    try clear c19
                    try clear c19b0
                    try clear c19b1
                    try clear c20
                    try clear c20b0
                    try clear c20b1
                    try clear c21
                    try clear c21b0
                    try clear c21b1
                    try clear c21b2
                    try clear c25
                    try clear hcz10_0
                    try clear hcz10_1
                    try clear hcz10_2
                    try clear hcz10_3
                    try clear hcz10_4
                    try clear hcz12_0
                    try clear hcz12_1
                    try clear hcz12_2
                    try clear hcz12_3
                    try clear hcz12_4
                    try clear hcz14_0
                    try clear hcz14_1
                    try clear hcz14_2
                    try clear hcz14_3
                    try clear hcz14_4
                    try clear hcz16_0
                    try clear hcz16_1
                    try clear hcz16_2
                    try clear hcz16_3
                    try clear hcz16_4
                    try clear hcz22_0
                    try clear hcz22_1
                    try clear hcz22_2
                    try clear hcz22_3
                    try clear hcz22_4
                    try clear hcz23_0
                    try clear hcz23_1
                    try clear hcz23_2
                    try clear hcz23_3
                    try clear hcz23_4
                    try clear hcz24_0
                    try clear hcz24_1
                    try clear hcz24_2
                    try clear hcz24_3
                    try clear hcz24_4
                    try clear hfz10_0
                    try clear hfz10_1
                    try clear hfz10_2
                    try clear hfz10_3
                    try clear hfz10_4
                    try clear hfz12_0
                    try clear hfz12_1
                    try clear hfz12_2
                    try clear hfz12_3
                    try clear hfz12_4
                    try clear hfz14_0
                    try clear hfz14_1
                    try clear hfz14_2
                    try clear hfz14_3
                    try clear hfz14_4
                    try clear hfz16_0
                    try clear hfz16_1
                    try clear hfz16_2
                    try clear hfz16_3
                    try clear hfz16_4
                    try clear hfz22_0
                    try clear hfz22_1
                    try clear hfz22_2
                    try clear hfz22_3
                    try clear hfz22_4
                    try clear hfz23_0
                    try clear hfz23_1
                    try clear hfz23_2
                    try clear hfz23_3
                    try clear hfz23_4
                    try clear hfz24_0
                    try clear hfz24_1
                    try clear hfz24_2
                    try clear hfz24_3
                    try clear hfz24_4
                    try clear hx272_0
                    try clear hx272_1
                    try clear hx272_2
                    try clear hx272_3
                    try clear hx272_4
                    try clear p2
                    try clear p272
                    try clear p6
                    try clear q2
                    try clear q272
                    obtain ⟨x9_3, rfl, HA, HK3, HO_3, BK273, HB⟩ := hrel
                    cases gk with
                    | zero => exact absurd HA.out (by simp [auspicelaw09_LexCovers.l1])
                    | succ k3 =>
                      have H := HA.out
                      clear HA
                      simp only [auspicelaw09_LexCovers.l1] at H
                      by_cases c26 : x9_3 < ((rd_T34 t265 x7_1).f1)
                      · rw [if_pos c26] at H
                        have c26b0 : decide (x9_3 < ((rd_T34 t265 x7_1).f1)) = true := decide_eq_true c26
                        clear c26
                        by_cases c27 : 0 ≤ x9_3
                        · rw [if_pos c27] at H
                          have c27b0 : decide (0 ≤ x9_3) = true := decide_eq_true c27
                          clear c27
                          by_cases c28 : x9_3 < (a0.size : Int)
                          · rw [if_pos c28] at H
                            have c28b0 : decide (x9_3 < (a0.size : Int)) = true := decide_eq_true c28
                            clear c28
                            by_cases c30 : (bt a0 x9_3) = 32
                            · rw [if_pos c30] at H
                              have c30b0 : ((bt a0 x9_3) == 32) = true := beq_iff_eq.mpr c30
                              have c30b1 : ((bt a0 x9_3) != 32) = false := bne_eq_false_iff_eq.mpr c30
                              clear c30
                              have H' := Aside0.mk H
                              clear H
                              have hcz31_0 : wr.cell? ⟨gb273, 0, none⟩ = some (.int .i64 ((rd_T34 t265 x7_1).f0)) := (blk_cell BK273.out 0).trans rfl
                              have hcz31_1 : wr.cell? ⟨gb273, 1, none⟩ = some (.int .i64 ((rd_T34 t265 x7_1).f1)) := (blk_cell BK273.out 1).trans rfl
                              have hcz31_2 : wr.cell? ⟨gb273, 2, none⟩ = some (.string ((rd_T34 t265 x7_1).f2)) := (blk_cell BK273.out 2).trans rfl
                              have hcz31_3 : wr.cell? ⟨gb273, 3, none⟩ = some (.int .i64 ((rd_T34 t265 x7_1).f3)) := (blk_cell BK273.out 3).trans rfl
                              have hcz31_4 : wr.cell? ⟨gb273, 4, none⟩ = some (.string ((rd_T34 t265 x7_1).f4)) := (blk_cell BK273.out 4).trans rfl
                              have hfz31_0 := blk_frozen BK273.out 0
                              have hfz31_1 := blk_frozen BK273.out 1
                              have hfz31_2 := blk_frozen BK273.out 2
                              have hfz31_3 := blk_frozen BK273.out 3
                              have hfz31_4 := blk_frozen BK273.out 4
                              have p29 : 0 ≤ (x9_3 : Int) := of_decide_eq_true (by first | (with_reducible assumption) | assumption)
                              have q29 : x9_3 < (a0.size : Int) := of_decide_eq_true (by first | (with_reducible assumption) | assumption)
                              have hx29 := bt_at a0 x9_3
                              replace p29 := eq_true p29
                              replace q29 := eq_true q29
                              go_wp2
                              repeat (go_quiet (fail); try go_wp2)
                              go_roundg k3
                              case measure => have := HK1.out; have := HJ6.out; have := HK3.out; omega
                              case rel => exact ⟨(wrap64 (x9_3 + 1)), (by first | rfl | (simp; done) | (simp [*]; done)), H', ⟨by have := HK1.out; have := HJ6.out; have := HK3.out; omega⟩, ⟨by (with_reducible repeat (first | apply Kd.R_alloc | apply Kd.R_drewN | apply Kd.R_drew)); exact HO_3.out⟩, ⟨by (with_reducible repeat (first | refine blk_drewN ?_ _ | refine blk_drew ?_ | refine blk_alloc ?_ _)); exact BK273.out⟩, ⟨by repeat (first | (with_reducible first | exact HB.out | apply below_alloc | apply pw_below_drewN | apply below_drew1 | refine below_set ?_ GE273.out) | exact HB.out)⟩⟩
                            · rw [if_neg c30] at H
                              have c30b0 : ((bt a0 x9_3) == 32) = false := beq_eq_false_iff_ne.mpr c30
                              have c30b1 : ((bt a0 x9_3) != 32) = true := bne_iff_ne.mpr c30
                              by_cases c32 : (bt a0 x9_3) = 9
                              · rw [if_pos c32] at H
                                have c32b0 : ((bt a0 x9_3) == 9) = true := beq_iff_eq.mpr c32
                                have c32b1 : ((bt a0 x9_3) != 9) = false := bne_eq_false_iff_eq.mpr c32
                                clear c32
                                have H' := Aside0.mk H
                                clear H
                                have hcz33_0 : wr.cell? ⟨gb273, 0, none⟩ = some (.int .i64 ((rd_T34 t265 x7_1).f0)) := (blk_cell BK273.out 0).trans rfl
                                have hcz33_1 : wr.cell? ⟨gb273, 1, none⟩ = some (.int .i64 ((rd_T34 t265 x7_1).f1)) := (blk_cell BK273.out 1).trans rfl
                                have hcz33_2 : wr.cell? ⟨gb273, 2, none⟩ = some (.string ((rd_T34 t265 x7_1).f2)) := (blk_cell BK273.out 2).trans rfl
                                have hcz33_3 : wr.cell? ⟨gb273, 3, none⟩ = some (.int .i64 ((rd_T34 t265 x7_1).f3)) := (blk_cell BK273.out 3).trans rfl
                                have hcz33_4 : wr.cell? ⟨gb273, 4, none⟩ = some (.string ((rd_T34 t265 x7_1).f4)) := (blk_cell BK273.out 4).trans rfl
                                have hfz33_0 := blk_frozen BK273.out 0
                                have hfz33_1 := blk_frozen BK273.out 1
                                have hfz33_2 := blk_frozen BK273.out 2
                                have hfz33_3 := blk_frozen BK273.out 3
                                have hfz33_4 := blk_frozen BK273.out 4
                                have p29 : 0 ≤ (x9_3 : Int) := of_decide_eq_true (by first | (with_reducible assumption) | assumption)
                                have q29 : x9_3 < (a0.size : Int) := of_decide_eq_true (by first | (with_reducible assumption) | assumption)
                                have hx29 := bt_at a0 x9_3
                                replace p29 := eq_true p29
                                replace q29 := eq_true q29
                                go_wp2
                                repeat (go_quiet (fail); try go_wp2)
                                go_roundg k3
                                case measure => have := HK1.out; have := HJ6.out; have := HK3.out; omega
                                case rel => exact ⟨(wrap64 (x9_3 + 1)), (by first | rfl | (simp; done) | (simp [*]; done)), H', ⟨by have := HK1.out; have := HJ6.out; have := HK3.out; omega⟩, ⟨by (with_reducible repeat (first | apply Kd.R_alloc | apply Kd.R_drewN | apply Kd.R_drew)); exact HO_3.out⟩, ⟨by (with_reducible repeat (first | refine blk_drewN ?_ _ | refine blk_drew ?_ | refine blk_alloc ?_ _)); exact BK273.out⟩, ⟨by repeat (first | (with_reducible first | exact HB.out | apply below_alloc | apply pw_below_drewN | apply below_drew1 | refine below_set ?_ GE273.out) | exact HB.out)⟩⟩
                              · rw [if_neg c32] at H
                                have c32b0 : ((bt a0 x9_3) == 9) = false := beq_eq_false_iff_ne.mpr c32
                                have c32b1 : ((bt a0 x9_3) != 9) = true := bne_iff_ne.mpr c32
                                by_cases c34 : (bt a0 x9_3) = 10
                                · rw [if_pos c34] at H
                                  have c34b0 : ((bt a0 x9_3) == 10) = true := beq_iff_eq.mpr c34
                                  have c34b1 : ((bt a0 x9_3) != 10) = false := bne_eq_false_iff_eq.mpr c34
                                  clear c34
                                  have H' := Aside0.mk H
                                  clear H
                                  have hcz35_0 : wr.cell? ⟨gb273, 0, none⟩ = some (.int .i64 ((rd_T34 t265 x7_1).f0)) := (blk_cell BK273.out 0).trans rfl
                                  have hcz35_1 : wr.cell? ⟨gb273, 1, none⟩ = some (.int .i64 ((rd_T34 t265 x7_1).f1)) := (blk_cell BK273.out 1).trans rfl
                                  have hcz35_2 : wr.cell? ⟨gb273, 2, none⟩ = some (.string ((rd_T34 t265 x7_1).f2)) := (blk_cell BK273.out 2).trans rfl
                                  have hcz35_3 : wr.cell? ⟨gb273, 3, none⟩ = some (.int .i64 ((rd_T34 t265 x7_1).f3)) := (blk_cell BK273.out 3).trans rfl
                                  have hcz35_4 : wr.cell? ⟨gb273, 4, none⟩ = some (.string ((rd_T34 t265 x7_1).f4)) := (blk_cell BK273.out 4).trans rfl
                                  have hfz35_0 := blk_frozen BK273.out 0
                                  have hfz35_1 := blk_frozen BK273.out 1
                                  have hfz35_2 := blk_frozen BK273.out 2
                                  have hfz35_3 := blk_frozen BK273.out 3
                                  have hfz35_4 := blk_frozen BK273.out 4
                                  have p29 : 0 ≤ (x9_3 : Int) := of_decide_eq_true (by first | (with_reducible assumption) | assumption)
                                  have q29 : x9_3 < (a0.size : Int) := of_decide_eq_true (by first | (with_reducible assumption) | assumption)
                                  have hx29 := bt_at a0 x9_3
                                  replace p29 := eq_true p29
                                  replace q29 := eq_true q29
                                  go_wp2
                                  repeat (go_quiet (fail); try go_wp2)
                                  go_roundg k3
                                  case measure => have := HK1.out; have := HJ6.out; have := HK3.out; omega
                                  case rel => exact ⟨(wrap64 (x9_3 + 1)), (by first | rfl | (simp; done) | (simp [*]; done)), H', ⟨by have := HK1.out; have := HJ6.out; have := HK3.out; omega⟩, ⟨by (with_reducible repeat (first | apply Kd.R_alloc | apply Kd.R_drewN | apply Kd.R_drew)); exact HO_3.out⟩, ⟨by (with_reducible repeat (first | refine blk_drewN ?_ _ | refine blk_drew ?_ | refine blk_alloc ?_ _)); exact BK273.out⟩, ⟨by repeat (first | (with_reducible first | exact HB.out | apply below_alloc | apply pw_below_drewN | apply below_drew1 | refine below_set ?_ GE273.out) | exact HB.out)⟩⟩
                                · rw [if_neg c34] at H
                                  have c34b0 : ((bt a0 x9_3) == 10) = false := beq_eq_false_iff_ne.mpr c34
                                  have c34b1 : ((bt a0 x9_3) != 10) = true := bne_iff_ne.mpr c34
                                  by_cases c36 : (bt a0 x9_3) = 13
                                  · rw [if_pos c36] at H
                                    have c36b0 : ((bt a0 x9_3) == 13) = true := beq_iff_eq.mpr c36
                                    have c36b1 : ((bt a0 x9_3) != 13) = false := bne_eq_false_iff_eq.mpr c36
                                    clear c36
                                    have H' := Aside0.mk H
                                    clear H
                                    have hcz37_0 : wr.cell? ⟨gb273, 0, none⟩ = some (.int .i64 ((rd_T34 t265 x7_1).f0)) := (blk_cell BK273.out 0).trans rfl
                                    have hcz37_1 : wr.cell? ⟨gb273, 1, none⟩ = some (.int .i64 ((rd_T34 t265 x7_1).f1)) := (blk_cell BK273.out 1).trans rfl
                                    have hcz37_2 : wr.cell? ⟨gb273, 2, none⟩ = some (.string ((rd_T34 t265 x7_1).f2)) := (blk_cell BK273.out 2).trans rfl
                                    have hcz37_3 : wr.cell? ⟨gb273, 3, none⟩ = some (.int .i64 ((rd_T34 t265 x7_1).f3)) := (blk_cell BK273.out 3).trans rfl
                                    have hcz37_4 : wr.cell? ⟨gb273, 4, none⟩ = some (.string ((rd_T34 t265 x7_1).f4)) := (blk_cell BK273.out 4).trans rfl
                                    have hfz37_0 := blk_frozen BK273.out 0
                                    have hfz37_1 := blk_frozen BK273.out 1
                                    have hfz37_2 := blk_frozen BK273.out 2
                                    have hfz37_3 := blk_frozen BK273.out 3
                                    have hfz37_4 := blk_frozen BK273.out 4
                                    have p29 : 0 ≤ (x9_3 : Int) := of_decide_eq_true (by first | (with_reducible assumption) | assumption)
                                    have q29 : x9_3 < (a0.size : Int) := of_decide_eq_true (by first | (with_reducible assumption) | assumption)
                                    have hx29 := bt_at a0 x9_3
                                    replace p29 := eq_true p29
                                    replace q29 := eq_true q29
                                    go_wp2
                                    repeat (go_quiet (fail); try go_wp2)
                                    go_roundg k3
                                    case measure => have := HK1.out; have := HJ6.out; have := HK3.out; omega
                                    case rel => exact ⟨(wrap64 (x9_3 + 1)), (by first | rfl | (simp; done) | (simp [*]; done)), H', ⟨by have := HK1.out; have := HJ6.out; have := HK3.out; omega⟩, ⟨by (with_reducible repeat (first | apply Kd.R_alloc | apply Kd.R_drewN | apply Kd.R_drew)); exact HO_3.out⟩, ⟨by (with_reducible repeat (first | refine blk_drewN ?_ _ | refine blk_drew ?_ | refine blk_alloc ?_ _)); exact BK273.out⟩, ⟨by repeat (first | (with_reducible first | exact HB.out | apply below_alloc | apply pw_below_drewN | apply below_drew1 | refine below_set ?_ GE273.out) | exact HB.out)⟩⟩
                                  · rw [if_neg c36] at H
                                    have c36b0 : ((bt a0 x9_3) == 13) = false := beq_eq_false_iff_ne.mpr c36
                                    have c36b1 : ((bt a0 x9_3) != 13) = true := bne_iff_ne.mpr c36
                                    obtain rfl := Option.some.inj H
                                    have hcz38_0 : wr.cell? ⟨gb273, 0, none⟩ = some (.int .i64 ((rd_T34 t265 x7_1).f0)) := (blk_cell BK273.out 0).trans rfl
                                    have hcz38_1 : wr.cell? ⟨gb273, 1, none⟩ = some (.int .i64 ((rd_T34 t265 x7_1).f1)) := (blk_cell BK273.out 1).trans rfl
                                    have hcz38_2 : wr.cell? ⟨gb273, 2, none⟩ = some (.string ((rd_T34 t265 x7_1).f2)) := (blk_cell BK273.out 2).trans rfl
                                    have hcz38_3 : wr.cell? ⟨gb273, 3, none⟩ = some (.int .i64 ((rd_T34 t265 x7_1).f3)) := (blk_cell BK273.out 3).trans rfl
                                    have hcz38_4 : wr.cell? ⟨gb273, 4, none⟩ = some (.string ((rd_T34 t265 x7_1).f4)) := (blk_cell BK273.out 4).trans rfl
                                    have hfz38_0 := blk_frozen BK273.out 0
                                    have hfz38_1 := blk_frozen BK273.out 1
                                    have hfz38_2 := blk_frozen BK273.out 2
                                    have hfz38_3 := blk_frozen BK273.out 3
                                    have hfz38_4 := blk_frozen BK273.out 4
                                    have p29 : 0 ≤ (x9_3 : Int) := of_decide_eq_true (by first | (with_reducible assumption) | assumption)
                                    have q29 : x9_3 < (a0.size : Int) := of_decide_eq_true (by first | (with_reducible assumption) | assumption)
                                    have hx29 := bt_at a0 x9_3
                                    replace p29 := eq_true p29
                                    replace q29 := eq_true q29
                                    go_wp2
                                    repeat (go_quiet (fail); try go_wp2)
                                    go_ret
                                    exact ⟨by first | rfl | (simp [errW_none, errW_some] <;> rfl) | (simp [*, errW_none, errW_some] <;> rfl), by repeat (first | (with_reducible first | exact HB.out | apply below_alloc | apply pw_below_drewN | apply below_drew1 | refine below_set ?_ GE273.out) | exact HB.out)⟩
                          · rw [if_neg c28] at H
                            exact absurd H (by simp)
                        · rw [if_neg c27] at H
                          exact absurd H (by simp)
                      · rw [if_neg c26] at H
                        have c26b0 : decide (x9_3 < ((rd_T34 t265 x7_1).f1)) = false := decide_eq_false c26
                        clear c26
                        have H' := Aside0.mk H
                        clear H
                        have hcz39_0 : wr.cell? ⟨gb273, 0, none⟩ = some (.int .i64 ((rd_T34 t265 x7_1).f0)) := (blk_cell BK273.out 0).trans rfl
                        have hcz39_1 : wr.cell? ⟨gb273, 1, none⟩ = some (.int .i64 ((rd_T34 t265 x7_1).f1)) := (blk_cell BK273.out 1).trans rfl
                        have hcz39_2 : wr.cell? ⟨gb273, 2, none⟩ = some (.string ((rd_T34 t265 x7_1).f2)) := (blk_cell BK273.out 2).trans rfl
                        have hcz39_3 : wr.cell? ⟨gb273, 3, none⟩ = some (.int .i64 ((rd_T34 t265 x7_1).f3)) := (blk_cell BK273.out 3).trans rfl
                        have hcz39_4 : wr.cell? ⟨gb273, 4, none⟩ = some (.string ((rd_T34 t265 x7_1).f4)) := (blk_cell BK273.out 4).trans rfl
                        have hfz39_0 := blk_frozen BK273.out 0
                        have hfz39_1 := blk_frozen BK273.out 1
                        have hfz39_2 := blk_frozen BK273.out 2
                        have hfz39_3 := blk_frozen BK273.out 3
                        have hfz39_4 := blk_frozen BK273.out 4
                        go_wp2
                        repeat (go_quiet (fail); try go_wp2)
                        go_roundg k3
                        case measure => have := HK1.out; have := HJ6.out; have := HK3.out; omega
                        case rel => exact ⟨(wrap64 (((rd_T34 t265 x7_1).f1) + (((rd_T34 t265 x7_1).f2).size : Int))), (wrap64 (x7_1 + 1)), (by first | rfl | (simp; done) | (simp [*]; done)), (by first | rfl | (simp; done) | (simp [*]; done)), H', ⟨by have := HK1.out; have := HJ6.out; have := HK3.out; omega⟩, ⟨by (with_reducible repeat (first | apply Kd.R_alloc | apply Kd.R_drewN | apply Kd.R_drew)); exact Kd.R_mono HO_3.out (fun _ hk => trivial)⟩, ⟨by repeat (first | (with_reducible first | exact HB.out | apply below_alloc | apply pw_below_drewN | apply below_drew1 | refine below_set ?_ GE273.out) | exact HB.out)⟩⟩
          · rw [if_neg c6] at H
            exact absurd H (by simp)
        · rw [if_neg c5] at H
          have c5b0 : decide (x7_1 < (t265.length : Int)) = false := decide_eq_false c5
          clear c5
          replace H := Option.bind_eq_some_iff.mp H
          obtain ⟨t271, A400, H⟩ := H
          replace H : (if t271 = true then (if (t265.length : Int) > 0 then (some (x6_1 == (a0.size : Int))) else (some false)) else (some false)) = some r := H
          have A40 := Aside0.mk A400
          clear A400
          by_cases c41 : t271 = true
          · subst c41
            have H1 : (if (t265.length : Int) > 0 then (some (x6_1 == (a0.size : Int))) else (some false)) = some r := by rw [if_pos rfl] at H; exact H
            clear H
            have H := H1
            clear H1
            by_cases c42 : (t265.length : Int) > 0
            · rw [if_pos c42] at H
              have c42b0 : decide (0 < (t265.length : Int)) = true := decide_eq_true c42
              have c42b1 : decide (0 < t265.length) = true := decide_eq_true (by omega)
              clear c42
              obtain rfl := Option.some.inj H
              obtain ⟨Ao43, co43, eo43⟩ := Kd.R_slice HO_3.out
              subst eo43
              go_wp2_with (first | (go_at_call 9; (with_reducible refine (auspicelaw09_awake.calls k1  true _ A40.out).mono ?_); rintro e w44 ⟨rfl, hb⟩; have n0_ := Aside0.mk (Kd.R_below (by (with_reducible repeat (first | apply Kd.R_alloc | apply Kd.R_drewN | apply Kd.R_drew)); exact HO_3.out) hb); have n1_ := Aside0.mk (below_step (by repeat (first | (with_reducible first | exact HB.out | apply below_alloc | apply pw_below_drewN | apply below_drew1) | exact HB.out)) hb); clear HO_3; clear HB; have HO_3 := n0_; have HB := n1_; clear n0_ n1_; (try clear hb); (try clear hb2); (try clear hk); (try clear hi)))
              repeat (go_quiet (first | (go_at_call 9; (with_reducible refine (auspicelaw09_awake.calls k1  true _ A40.out).mono ?_); rintro e w44 ⟨rfl, hb⟩; have n0_ := Aside0.mk (Kd.R_below (by (with_reducible repeat (first | apply Kd.R_alloc | apply Kd.R_drewN | apply Kd.R_drew)); exact HO_3.out) hb); have n1_ := Aside0.mk (below_step (by repeat (first | (with_reducible first | exact HB.out | apply below_alloc | apply pw_below_drewN | apply below_drew1) | exact HB.out)) hb); clear HO_3; clear HB; have HO_3 := n0_; have HB := n1_; clear n0_ n1_; (try clear hb); (try clear hb2); (try clear hk); (try clear hi))); try go_wp2_with (first | (go_at_call 9; (with_reducible refine (auspicelaw09_awake.calls k1  true _ A40.out).mono ?_); rintro e w44 ⟨rfl, hb⟩; have n0_ := Aside0.mk (Kd.R_below (by (with_reducible repeat (first | apply Kd.R_alloc | apply Kd.R_drewN | apply Kd.R_drew)); exact HO_3.out) hb); have n1_ := Aside0.mk (below_step (by repeat (first | (with_reducible first | exact HB.out | apply below_alloc | apply pw_below_drewN | apply below_drew1) | exact HB.out)) hb); clear HO_3; clear HB; have HO_3 := n0_; have HB := n1_; clear n0_ n1_; (try clear hb); (try clear hb2); (try clear hk); (try clear hi))))
              go_ret
              exact ⟨by first | rfl | (simp [errW_none, errW_some] <;> rfl) | (simp [*, errW_none, errW_some] <;> rfl), by repeat (first | (with_reducible first | exact HB.out | apply below_alloc | apply pw_below_drewN | apply below_drew1) | exact HB.out)⟩
            · rw [if_neg c42] at H
              have c42b0 : decide (0 < (t265.length : Int)) = false := decide_eq_false c42
              have c42b1 : decide (0 < t265.length) = false := decide_eq_false (by omega)
              clear c42
              obtain rfl := Option.some.inj H
              obtain ⟨Ao45, co45, eo45⟩ := Kd.R_slice HO_3.out
              subst eo45
              go_wp2_with (first | (go_at_call 9; (with_reducible refine (auspicelaw09_awake.calls k1  true _ A40.out).mono ?_); rintro e w46 ⟨rfl, hb⟩; have n0_ := Aside0.mk (Kd.R_below (by (with_reducible repeat (first | apply Kd.R_alloc | apply Kd.R_drewN | apply Kd.R_drew)); exact HO_3.out) hb); have n1_ := Aside0.mk (below_step (by repeat (first | (with_reducible first | exact HB.out | apply below_alloc | apply pw_below_drewN | apply below_drew1) | exact HB.out)) hb); clear HO_3; clear HB; have HO_3 := n0_; have HB := n1_; clear n0_ n1_; (try clear hb); (try clear hb2); (try clear hk); (try clear hi)))
              repeat (go_quiet (first | (go_at_call 9; (with_reducible refine (auspicelaw09_awake.calls k1  true _ A40.out).mono ?_); rintro e w46 ⟨rfl, hb⟩; have n0_ := Aside0.mk (Kd.R_below (by (with_reducible repeat (first | apply Kd.R_alloc | apply Kd.R_drewN | apply Kd.R_drew)); exact HO_3.out) hb); have n1_ := Aside0.mk (below_step (by repeat (first | (with_reducible first | exact HB.out | apply below_alloc | apply pw_below_drewN | apply below_drew1) | exact HB.out)) hb); clear HO_3; clear HB; have HO_3 := n0_; have HB := n1_; clear n0_ n1_; (try clear hb); (try clear hb2); (try clear hk); (try clear hi))); try go_wp2_with (first | (go_at_call 9; (with_reducible refine (auspicelaw09_awake.calls k1  true _ A40.out).mono ?_); rintro e w46 ⟨rfl, hb⟩; have n0_ := Aside0.mk (Kd.R_below (by (with_reducible repeat (first | apply Kd.R_alloc | apply Kd.R_drewN | apply Kd.R_drew)); exact HO_3.out) hb); have n1_ := Aside0.mk (below_step (by repeat (first | (with_reducible first | exact HB.out | apply below_alloc | apply pw_below_drewN | apply below_drew1) | exact HB.out)) hb); clear HO_3; clear HB; have HO_3 := n0_; have HB := n1_; clear n0_ n1_; (try clear hb); (try clear hb2); (try clear hk); (try clear hi))))
              go_ret
              exact ⟨by first | rfl | (simp [errW_none, errW_some] <;> rfl) | (simp [*, errW_none, errW_some] <;> rfl), by repeat (first | (with_reducible first | exact HB.out | apply below_alloc | apply pw_below_drewN | apply below_drew1) | exact HB.out)⟩
          · replace c41 := Bool.eq_false_iff.mpr c41
            subst c41
            have H1 : (some false) = some r := by rw [if_neg (show ¬ (false = true) by decide)] at H; exact H
            clear H
            have H := H1
            clear H1
            obtain rfl := Option.some.inj H
            obtain ⟨Ao47, co47, eo47⟩ := Kd.R_slice HO_3.out
            subst eo47
            go_wp2_with (first | (go_at_call 9; (with_reducible refine (auspicelaw09_awake.calls k1  false _ A40.out).mono ?_); rintro e w48 ⟨rfl, hb⟩; have n0_ := Aside0.mk (Kd.R_below (by (with_reducible repeat (first | apply Kd.R_alloc | apply Kd.R_drewN | apply Kd.R_drew)); exact HO_3.out) hb); have n1_ := Aside0.mk (below_step (by repeat (first | (with_reducible first | exact HB.out | apply below_alloc | apply pw_below_drewN | apply below_drew1) | exact HB.out)) hb); clear HO_3; clear HB; have HO_3 := n0_; have HB := n1_; clear n0_ n1_; (try clear hb); (try clear hb2); (try clear hk); (try clear hi)))
            repeat (go_quiet (first | (go_at_call 9; (with_reducible refine (auspicelaw09_awake.calls k1  false _ A40.out).mono ?_); rintro e w48 ⟨rfl, hb⟩; have n0_ := Aside0.mk (Kd.R_below (by (with_reducible repeat (first | apply Kd.R_alloc | apply Kd.R_drewN | apply Kd.R_drew)); exact HO_3.out) hb); have n1_ := Aside0.mk (below_step (by repeat (first | (with_reducible first | exact HB.out | apply below_alloc | apply pw_below_drewN | apply below_drew1) | exact HB.out)) hb); clear HO_3; clear HB; have HO_3 := n0_; have HB := n1_; clear n0_ n1_; (try clear hb); (try clear hb2); (try clear hk); (try clear hi))); try go_wp2_with (first | (go_at_call 9; (with_reducible refine (auspicelaw09_awake.calls k1  false _ A40.out).mono ?_); rintro e w48 ⟨rfl, hb⟩; have n0_ := Aside0.mk (Kd.R_below (by (with_reducible repeat (first | apply Kd.R_alloc | apply Kd.R_drewN | apply Kd.R_drew)); exact HO_3.out) hb); have n1_ := Aside0.mk (below_step (by repeat (first | (with_reducible first | exact HB.out | apply below_alloc | apply pw_below_drewN | apply below_drew1) | exact HB.out)) hb); clear HO_3; clear HB; have HO_3 := n0_; have HB := n1_; clear n0_ n1_; (try clear hb); (try clear hb2); (try clear hk); (try clear hi))))
            go_ret
            exact ⟨by first | rfl | (simp [errW_none, errW_some] <;> rfl) | (simp [*, errW_none, errW_some] <;> rfl), by repeat (first | (with_reducible first | exact HB.out | apply below_alloc | apply pw_below_drewN | apply below_drew1) | exact HB.out)⟩
  · rw [if_neg c3] at H
    have c3b0 : (t267 == 0) = false := beq_eq_false_iff_ne.mpr c3
    have c3b1 : (t267 != 0) = true := bne_iff_ne.mpr c3
    replace H := Option.bind_eq_some_iff.mp H
    obtain ⟨t270, A490, H⟩ := H
    replace H : (if t270 = true then (some ((t265.length : Int) == 0)) else (some false)) = some r := H
    have A49 := Aside0.mk A490
    clear A490
    by_cases c50 : t270 = true
    · subst c50
      have H1 : (some ((t265.length : Int) == 0)) = some r := by rw [if_pos rfl] at H; exact H
      clear H
      have H := H1
      clear H1
      obtain rfl := Option.some.inj H
      go_enter Tryd.func4, Tryd.ntmps4
      go_wp2_with (first | (go_at_call 7; (with_reducible refine (lex_Scan.calls k a0 t265 t266 t267 _ A2.out).mono ?_); rintro e w51 ⟨v268, rfl, ho0, hb⟩; have n0_ := Aside0.mk (Kd.R_lower ho0 (below_size (by repeat (first | (with_reducible first | exact HB.out | apply below_alloc | apply pw_below_drewN | apply below_drew1) | exact HB.out)))); have n1_ := Aside0.mk (below_step (by repeat (first | (with_reducible first | exact HB.out | apply below_alloc | apply pw_below_drewN | apply below_drew1) | exact HB.out)) hb); clear HB; have HO269 := n0_; have HB := n1_; clear n0_ n1_; (try clear hb); (try clear hb2); (try clear hk); (try clear hi); (try clear ho0)) | (go_at_call 9; (with_reducible refine (auspicelaw09_awake.calls k  true _ A49.out).mono ?_); rintro e w52 ⟨rfl, hb⟩; have n0_ := Aside0.mk (Kd.R_below (by (with_reducible repeat (first | apply Kd.R_alloc | apply Kd.R_drewN | apply Kd.R_drew)); exact HO269.out) hb); have n1_ := Aside0.mk (below_step (by repeat (first | (with_reducible first | exact HB.out | apply below_alloc | apply pw_below_drewN | apply below_drew1) | exact HB.out)) hb); clear HO269; clear HB; have HO269 := n0_; have HB := n1_; clear n0_ n1_; (try clear hb); (try clear hb2); (try clear hk); (try clear hi); obtain ⟨Ao53, co53, eo53⟩ := Kd.R_slice HO269.out; subst eo53))
      repeat (go_quiet (first | (go_at_call 7; (with_reducible refine (lex_Scan.calls k a0 t265 t266 t267 _ A2.out).mono ?_); rintro e w51 ⟨v268, rfl, ho0, hb⟩; have n0_ := Aside0.mk (Kd.R_lower ho0 (below_size (by repeat (first | (with_reducible first | exact HB.out | apply below_alloc | apply pw_below_drewN | apply below_drew1) | exact HB.out)))); have n1_ := Aside0.mk (below_step (by repeat (first | (with_reducible first | exact HB.out | apply below_alloc | apply pw_below_drewN | apply below_drew1) | exact HB.out)) hb); clear HB; have HO269 := n0_; have HB := n1_; clear n0_ n1_; (try clear hb); (try clear hb2); (try clear hk); (try clear hi); (try clear ho0)) | (go_at_call 9; (with_reducible refine (auspicelaw09_awake.calls k  true _ A49.out).mono ?_); rintro e w52 ⟨rfl, hb⟩; have n0_ := Aside0.mk (Kd.R_below (by (with_reducible repeat (first | apply Kd.R_alloc | apply Kd.R_drewN | apply Kd.R_drew)); exact HO269.out) hb); have n1_ := Aside0.mk (below_step (by repeat (first | (with_reducible first | exact HB.out | apply below_alloc | apply pw_below_drewN | apply below_drew1) | exact HB.out)) hb); clear HO269; clear HB; have HO269 := n0_; have HB := n1_; clear n0_ n1_; (try clear hb); (try clear hb2); (try clear hk); (try clear hi); obtain ⟨Ao53, co53, eo53⟩ := Kd.R_slice HO269.out; subst eo53)); try go_wp2_with (first | (go_at_call 7; (with_reducible refine (lex_Scan.calls k a0 t265 t266 t267 _ A2.out).mono ?_); rintro e w51 ⟨v268, rfl, ho0, hb⟩; have n0_ := Aside0.mk (Kd.R_lower ho0 (below_size (by repeat (first | (with_reducible first | exact HB.out | apply below_alloc | apply pw_below_drewN | apply below_drew1) | exact HB.out)))); have n1_ := Aside0.mk (below_step (by repeat (first | (with_reducible first | exact HB.out | apply below_alloc | apply pw_below_drewN | apply below_drew1) | exact HB.out)) hb); clear HB; have HO269 := n0_; have HB := n1_; clear n0_ n1_; (try clear hb); (try clear hb2); (try clear hk); (try clear hi); (try clear ho0)) | (go_at_call 9; (with_reducible refine (auspicelaw09_awake.calls k  true _ A49.out).mono ?_); rintro e w52 ⟨rfl, hb⟩; have n0_ := Aside0.mk (Kd.R_below (by (with_reducible repeat (first | apply Kd.R_alloc | apply Kd.R_drewN | apply Kd.R_drew)); exact HO269.out) hb); have n1_ := Aside0.mk (below_step (by repeat (first | (with_reducible first | exact HB.out | apply below_alloc | apply pw_below_drewN | apply below_drew1) | exact HB.out)) hb); clear HO269; clear HB; have HO269 := n0_; have HB := n1_; clear n0_ n1_; (try clear hb); (try clear hb2); (try clear hk); (try clear hi); obtain ⟨Ao53, co53, eo53⟩ := Kd.R_slice HO269.out; subst eo53)))
      go_ret
      exact ⟨by first | rfl | (simp [errW_none, errW_some] <;> rfl) | (simp [*, errW_none, errW_some] <;> rfl), by repeat (first | (with_reducible first | exact HB.out | apply below_alloc | apply pw_below_drewN | apply below_drew1) | exact HB.out)⟩
    · replace c50 := Bool.eq_false_iff.mpr c50
      subst c50
      have H1 : (some false) = some r := by rw [if_neg (show ¬ (false = true) by decide)] at H; exact H
      clear H
      have H := H1
      clear H1
      obtain rfl := Option.some.inj H
      go_enter Tryd.func4, Tryd.ntmps4
      go_wp2_with (first | (go_at_call 7; (with_reducible refine (lex_Scan.calls k a0 t265 t266 t267 _ A2.out).mono ?_); rintro e w54 ⟨v268, rfl, ho0, hb⟩; have n0_ := Aside0.mk (Kd.R_lower ho0 (below_size (by repeat (first | (with_reducible first | exact HB.out | apply below_alloc | apply pw_below_drewN | apply below_drew1) | exact HB.out)))); have n1_ := Aside0.mk (below_step (by repeat (first | (with_reducible first | exact HB.out | apply below_alloc | apply pw_below_drewN | apply below_drew1) | exact HB.out)) hb); clear HB; have HO269 := n0_; have HB := n1_; clear n0_ n1_; (try clear hb); (try clear hb2); (try clear hk); (try clear hi); (try clear ho0)) | (go_at_call 9; (with_reducible refine (auspicelaw09_awake.calls k  false _ A49.out).mono ?_); rintro e w55 ⟨rfl, hb⟩; have n0_ := Aside0.mk (Kd.R_below (by (with_reducible repeat (first | apply Kd.R_alloc | apply Kd.R_drewN | apply Kd.R_drew)); exact HO269.out) hb); have n1_ := Aside0.mk (below_step (by repeat (first | (with_reducible first | exact HB.out | apply below_alloc | apply pw_below_drewN | apply below_drew1) | exact HB.out)) hb); clear HO269; clear HB; have HO269 := n0_; have HB := n1_; clear n0_ n1_; (try clear hb); (try clear hb2); (try clear hk); (try clear hi)))
      repeat (go_quiet (first | (go_at_call 7; (with_reducible refine (lex_Scan.calls k a0 t265 t266 t267 _ A2.out).mono ?_); rintro e w54 ⟨v268, rfl, ho0, hb⟩; have n0_ := Aside0.mk (Kd.R_lower ho0 (below_size (by repeat (first | (with_reducible first | exact HB.out | apply below_alloc | apply pw_below_drewN | apply below_drew1) | exact HB.out)))); have n1_ := Aside0.mk (below_step (by repeat (first | (with_reducible first | exact HB.out | apply below_alloc | apply pw_below_drewN | apply below_drew1) | exact HB.out)) hb); clear HB; have HO269 := n0_; have HB := n1_; clear n0_ n1_; (try clear hb); (try clear hb2); (try clear hk); (try clear hi); (try clear ho0)) | (go_at_call 9; (with_reducible refine (auspicelaw09_awake.calls k  false _ A49.out).mono ?_); rintro e w55 ⟨rfl, hb⟩; have n0_ := Aside0.mk (Kd.R_below (by (with_reducible repeat (first | apply Kd.R_alloc | apply Kd.R_drewN | apply Kd.R_drew)); exact HO269.out) hb); have n1_ := Aside0.mk (below_step (by repeat (first | (with_reducible first | exact HB.out | apply below_alloc | apply pw_below_drewN | apply below_drew1) | exact HB.out)) hb); clear HO269; clear HB; have HO269 := n0_; have HB := n1_; clear n0_ n1_; (try clear hb); (try clear hb2); (try clear hk); (try clear hi))); try go_wp2_with (first | (go_at_call 7; (with_reducible refine (lex_Scan.calls k a0 t265 t266 t267 _ A2.out).mono ?_); rintro e w54 ⟨v268, rfl, ho0, hb⟩; have n0_ := Aside0.mk (Kd.R_lower ho0 (below_size (by repeat (first | (with_reducible first | exact HB.out | apply below_alloc | apply pw_below_drewN | apply below_drew1) | exact HB.out)))); have n1_ := Aside0.mk (below_step (by repeat (first | (with_reducible first | exact HB.out | apply below_alloc | apply pw_below_drewN | apply below_drew1) | exact HB.out)) hb); clear HB; have HO269 := n0_; have HB := n1_; clear n0_ n1_; (try clear hb); (try clear hb2); (try clear hk); (try clear hi); (try clear ho0)) | (go_at_call 9; (with_reducible refine (auspicelaw09_awake.calls k  false _ A49.out).mono ?_); rintro e w55 ⟨rfl, hb⟩; have n0_ := Aside0.mk (Kd.R_below (by (with_reducible repeat (first | apply Kd.R_alloc | apply Kd.R_drewN | apply Kd.R_drew)); exact HO269.out) hb); have n1_ := Aside0.mk (below_step (by repeat (first | (with_reducible first | exact HB.out | apply below_alloc | apply pw_below_drewN | apply below_drew1) | exact HB.out)) hb); clear HO269; clear HB; have HO269 := n0_; have HB := n1_; clear n0_ n1_; (try clear hb); (try clear hb2); (try clear hk); (try clear hi))))
      go_ret
      exact ⟨by first | rfl | (simp [errW_none, errW_some] <;> rfl) | (simp [*, errW_none, errW_some] <;> rfl), by repeat (first | (with_reducible first | exact HB.out | apply below_alloc | apply pw_below_drewN | apply below_drew1) | exact HB.out)⟩

/-- THE ONE PURE STATEMENT of auspicelaw09_LexCovers: yours. -/
def auspicelaw09_LexCovers.Pure : Prop := ∀ (a0 : ByteArray), a0.size ≤ 140737488351232 → ∃ k, auspicelaw09_LexCovers.f k a0 = some true
theorem auspicelaw09_LexCovers.walk (P : auspicelaw09_LexCovers.Pure) (a0 : ByteArray) (w : World) (w0 : a0.size ≤ 140737488351232) :
    Calls Tryd.prog 4 #[.string a0] w fun e w' => e = .returned (.bool true) ∧ Below w.heap.size w w' := by
  obtain ⟨k, h⟩ := P a0 w0
  refine (auspicelaw09_LexCovers.calls k a0 true w h).mono ?_
  rintro e w' ⟨rfl, hd⟩
  exact ⟨rfl, hd⟩

end Go.Proofs.YtgillodpbkpecaaDoor.PLx
