/- LexAgain's walk, along the one path on which each test passes. -/
import Derived.Test.YtgillodpbkpecaaDoorLexH
import Derived.Deep.RegionWith
import Derived.Deep.RegionHeld3
import Derived.BigRegion
namespace Go.Proofs.YtgillodpbkpecaaDoor.Lex
open Go.RowKit Go.Proofs.YtgillodpbkpecaaDoorW.PrintWords Go.Proofs.YtgillodpbkpecaaDoorW.PrintLast Go.Proofs.YtgillodpbkpecaaDoorW.PrintMore Go.Proofs.YtgillodpbkpecaaDoor.Ext Go.Proofs.YtgillodpbkpecaaDoor.PLx
attribute [local go_sem] max2_int min2_int max_two min_two max_three min_three max_four min_four
set_option linter.unusedVariables false
set_option linter.unusedSimpArgs false

/-- what two tokens' texts with a blank between give. -/
def Pair (K : Nat) (l m : List S34) (i j : Nat) : Prop := ∃ (x : List S34) (q : Int), lex_Scan.f K (((rd_T34 l (i : Int)).f2 ++ (⟨#[32]⟩ : ByteArray)) ++ (rd_T34 m (j : Int)).f2) = some (x, q, 0) ∧ x.length = 3 ∧
  (rd_T34 x 0).f0 = (rd_T34 l (i : Int)).f0 ∧ (rd_T34 x 0).f2 = (rd_T34 l (i : Int)).f2 ∧ (rd_T34 x 0).f3 = (rd_T34 l (i : Int)).f3 ∧ (rd_T34 x 0).f4 = (rd_T34 l (i : Int)).f4 ∧
  (rd_T34 x 1).f0 = (rd_T34 m (j : Int)).f0 ∧ (rd_T34 x 1).f2 = (rd_T34 m (j : Int)).f2

set_option maxHeartbeats 8000000 in
set_option maxRecDepth 100000 in
theorem again_walk (K : Nat) (a0 a1 : ByteArray) (l m : List S34) (p1 p2 : Int) (w : World) (h1 : lex_Scan.f K a0 = some (l, p1, 0)) (h2 : lex_Scan.f K a1 = some (m, p2, 0)) (hl0 : 1 ≤ l.length) (hl : l.length ≤ 5000) (hm0 : 1 ≤ m.length) (hm : m.length ≤ 5000)
    (zl : ∀ i : Int, (rd_T34 l i).f2.size ≤ 4096) (zm : ∀ i : Int, (rd_T34 m i).f2.size ≤ 4096)
    (law : ∀ i j : Nat, i + 1 < l.length → j + 1 < m.length → (rd_T34 l (i : Int)).f2.size + (rd_T34 m (j : Int)).f2.size ≤ 4000 → Pair K l m i j) (ha : auspicelaw09_awake.f K = some true) :
    Calls Tryd.prog 6 #[.string a0, .string a1] w fun e w' => e = .returned (.bool true) ∧ Below w.heap.size w w' := by
  have hu34 := Tryd.underlying34
  have HB := Aside0.mk (Below.refl w.heap.size w)
  have A1 := Aside0.mk h1
  have A2 := Aside0.mk h2
  have A3 := Aside0.mk ha
  have LAW := Aside0.mk law
  clear h1 h2 ha law
  go_enter Tryd.func6, Tryd.ntmps6
  go_wp2_with (first
    | (go_at_call 7; (with_reducible refine (lex_Scan.calls K a0 l p1 0 _ A1.out).mono ?_); rintro e w4 ⟨vl, rfl, ho0, hb⟩; have n0_ := Aside0.mk (Kd.R_lower ho0 (below_size (by repeat (first | (with_reducible first | exact HB.out | apply below_alloc | apply pw_below_drewN | apply below_drew1) | exact HB.out)))); have n1_ := Aside0.mk (below_step (by repeat (first | (with_reducible first | exact HB.out | apply below_alloc | apply pw_below_drewN | apply below_drew1) | exact HB.out)) hb); clear HB; have HL := n0_; have HB := n1_; clear n0_ n1_; (try clear hb); (try clear ho0))
    | (go_at_call 7; (with_reducible refine (lex_Scan.calls K a1 m p2 0 _ A2.out).mono ?_); rintro e w5 ⟨vm, rfl, ho0, hb⟩; have n0_ := Aside0.mk (Kd.R_mono (Kd.R_elder' (by (with_reducible repeat (first | apply Kd.R_alloc | apply Kd.R_drewN | apply Kd.R_drew)); exact HL.out) (Kd.R_base ho0) hb) (fun _ _ => (trivial : True))); have n1_ := Aside0.mk (Kd.R_lower ho0 (below_size (by repeat (first | (with_reducible first | exact HB.out | apply below_alloc | apply pw_below_drewN | apply below_drew1) | exact HB.out)))); have n2_ := Aside0.mk (below_step (by repeat (first | (with_reducible first | exact HB.out | apply below_alloc | apply pw_below_drewN | apply below_drew1) | exact HB.out)) hb); clear HL; clear HB; have HL := n0_; have HM := n1_; have HB := n2_; clear n0_ n1_ n2_; (try clear hb); (try clear ho0)))
  go_loopg [11] (l.length + 5) (fun kq v11 w' => ∃ (i : Int), v11 = .int .i64 i ∧ Aside0 (0 ≤ i ∧ i + 1 ≤ l.length) ∧ Aside0 ((l.length : Int) < kq + i) ∧ Aside0 (Kd.R k34 34 w' w.heap.size (fun _ => True) vl l) ∧ Aside0 (Kd.R k34 34 w' w.heap.size (fun _ => True) vm m) ∧ Aside0 (Below w.heap.size w w'))
  case atStart => exact ⟨0, rfl, ⟨by omega⟩, ⟨by omega⟩, ⟨by (with_reducible repeat (first | apply Kd.R_alloc | apply Kd.R_drewN | apply Kd.R_drew)); exact HL.out⟩, ⟨by (with_reducible repeat (first | apply Kd.R_alloc | apply Kd.R_drewN | apply Kd.R_drew)); exact HM.out⟩, ⟨(by repeat (first | (with_reducible first | exact HB.out | apply below_alloc | apply pw_below_drewN | apply below_drew1) | exact HB.out))⟩⟩
  case round =>
    obtain ⟨i, rfl, HI, HK, HL, HM, HB⟩ := hrel
    cases gk with
    | zero => exact absurd HK.out (by have := HI.out; omega)
    | succ k1 =>
      have hi1 := HI.out
      have e1 : wrap64 ((l.length : Int) - 1) = (l.length : Int) - 1 := w64 (by omega) (by omega)
      obtain ⟨Al, cl, el⟩ := Kd.R_slice HL.out
      subst el
      obtain ⟨Am, cm, em⟩ := Kd.R_slice HM.out
      subst em
      by_cases c1 : i < wrap64 ((l.length : Int) - 1)
      · have c1b0 : decide (i < wrap64 ((l.length : Int) - 1)) = true := decide_eq_true c1
        rw [e1] at c1
        have hi2 : i + 1 < l.length := by omega
        have pi : (0 ≤ i) = True := eq_true hi1.1
        have qi : (i < (l.length : Int)) = True := eq_true (by omega)
        clear c1
        go_wp2
        go_loopg [12] (m.length + 5) (fun kq v12 w' => ∃ (j : Int), v12 = .int .i64 j ∧ Aside0 (0 ≤ j ∧ j + 1 ≤ m.length) ∧ Aside0 ((m.length : Int) < kq + j) ∧ Aside0 (Kd.R k34 34 w' w.heap.size (fun _ => True) (.slice Al l.length cl) l) ∧ Aside0 (Kd.R k34 34 w' w.heap.size (fun _ => True) (.slice Am m.length cm) m) ∧ Aside0 (Below w.heap.size w w'))
        case atStart => exact ⟨0, rfl, ⟨by omega⟩, ⟨by omega⟩, ⟨by (with_reducible repeat (first | apply Kd.R_alloc | apply Kd.R_drewN | apply Kd.R_drew)); exact HL.out⟩, ⟨by (with_reducible repeat (first | apply Kd.R_alloc | apply Kd.R_drewN | apply Kd.R_drew)); exact HM.out⟩, ⟨(by repeat (first | (with_reducible first | exact HB.out | apply below_alloc | apply pw_below_drewN | apply below_drew1) | exact HB.out))⟩⟩
        case round =>
          obtain ⟨j, rfl, HJ, HK2, HL, HM, HB⟩ := hrel
          cases gk with
          | zero => exact absurd HK2.out (by have := HJ.out; omega)
          | succ k2 =>
            have hj1 := HJ.out
            have e2 : wrap64 ((m.length : Int) - 1) = (m.length : Int) - 1 := w64 (by omega) (by omega)
            by_cases c2 : j < wrap64 ((m.length : Int) - 1)
            · have c2b0 : decide (j < wrap64 ((m.length : Int) - 1)) = true := decide_eq_true c2
              rw [e2] at c2
              have hj2 : j + 1 < m.length := by omega
              have pj : (0 ≤ j) = True := eq_true hj1.1
              have qj : (j < (m.length : Int)) = True := eq_true (by omega)
              clear c2
              by_cases c3 : j < 6
              · have c3b0 : decide (j < 6) = true := decide_eq_true c3
                clear c3
                by_cases c4 : i > 6
                · have c4b0 : decide (i > 6) = true := decide_eq_true c4
                  clear c4
                  go_wp2
                  repeat (go_quiet (fail); try go_wp2)
                  go_roundg k2
                  case measure => omega
                  case rel => exact ⟨j + 1, (by first | rfl | (simp; done) | (simp [*]; done)), ⟨by omega⟩, ⟨by have := HK2.out; omega⟩, ⟨(by (with_reducible repeat (first | apply Kd.R_alloc | apply Kd.R_drewN | apply Kd.R_drew)); exact HL.out)⟩, ⟨(by (with_reducible repeat (first | apply Kd.R_alloc | apply Kd.R_drewN | apply Kd.R_drew)); exact HM.out)⟩, ⟨(by repeat (first | (with_reducible first | exact HB.out | apply below_alloc | apply pw_below_drewN | apply below_drew1) | exact HB.out))⟩⟩
                · have c4b0 : decide (i > 6) = false := decide_eq_false c4
                  clear c4
                  obtain ⟨ad, ea, hl_0, hl_1, hl_2, hl_3, hl_4⟩ := at_T34 (Kd.R_reads' HL.out).2.2 i (by omega) (by omega)
                  cases ea
                  obtain ⟨bd, ea, hm_0, hm_1, hm_2, hm_3, hm_4⟩ := at_T34 (Kd.R_reads' HM.out).2.2 j (by omega) (by omega)
                  cases ea
                  have zi := zl i
                  have zj := zm j
                  have e3 : wrap64 (((rd_T34 l i).f2.size : Int) + ((rd_T34 m j).f2.size : Int)) = ((rd_T34 l i).f2.size : Int) + ((rd_T34 m j).f2.size : Int) := w64 (by omega) (by omega)
                  by_cases c5 : wrap64 (((rd_T34 l i).f2.size : Int) + ((rd_T34 m j).f2.size : Int)) > 4000
                  · have c5b0 : decide (wrap64 (((rd_T34 l i).f2.size : Int) + ((rd_T34 m j).f2.size : Int)) > 4000) = true := decide_eq_true c5
                    have c5b1 : decide (((rd_T34 l i).f2.size : Int) + ((rd_T34 m j).f2.size : Int) > 4000) = true := by rw [e3] at c5b0; exact c5b0
                    clear c5
                    go_wp2
                    repeat (go_quiet (fail); try go_wp2)
                    go_roundg k2
                    case measure => omega
                    case rel => exact ⟨j + 1, (by first | rfl | (simp; done) | (simp [*]; done)), ⟨by omega⟩, ⟨by have := HK2.out; omega⟩, ⟨(by (with_reducible repeat (first | apply Kd.R_alloc | apply Kd.R_drewN | apply Kd.R_drew)); exact HL.out)⟩, ⟨(by (with_reducible repeat (first | apply Kd.R_alloc | apply Kd.R_drewN | apply Kd.R_drew)); exact HM.out)⟩, ⟨(by repeat (first | (with_reducible first | exact HB.out | apply below_alloc | apply pw_below_drewN | apply below_drew1) | exact HB.out))⟩⟩
                  · have c5b0 : decide (wrap64 (((rd_T34 l i).f2.size : Int) + ((rd_T34 m j).f2.size : Int)) > 4000) = false := decide_eq_false c5
                    have c5b1 : decide (((rd_T34 l i).f2.size : Int) + ((rd_T34 m j).f2.size : Int) > 4000) = false := by rw [e3] at c5b0; exact c5b0
                    rw [e3] at c5
                    obtain ⟨ni, rfl⟩ : ∃ n : Nat, i = (n : Int) := ⟨i.toNat, by omega⟩
                    obtain ⟨nj, rfl⟩ : ∃ n : Nat, j = (n : Int) := ⟨j.toNat, by omega⟩
                    have LW := LAW.out ni nj (by omega) (by omega) (by omega)
                    unfold Pair at LW
                    generalize (ni : Int) = i at *
                    generalize (nj : Int) = j at *
                    obtain ⟨x, q, hx, xl, x0, x2, x3, x4, y0, y2⟩ := LW
                    have f1 : decide ((rd_T34 l i).f2.size + (⟨#[32]⟩ : ByteArray).size ≤ 9223372036854775807) = true := decide_eq_true (by have : (⟨#[32]⟩ : ByteArray).size = 1 := rfl; omega)
                    have f2 : (9223372036854775807 < (rd_T34 l i).f2.size + (⟨#[32]⟩ : ByteArray).size) = False := eq_false (by have : (⟨#[32]⟩ : ByteArray).size = 1 := rfl; omega)
                    have f3 : decide ((rd_T34 l i).f2.size + 1 ≤ 9223372036854775807) = true := decide_eq_true (by omega)
                    have f4 : (9223372036854775807 < (rd_T34 l i).f2.size + 1) = False := eq_false (by omega)
                    have az : ((rd_T34 l i).f2 ++ (⟨#[32]⟩ : ByteArray)).size = (rd_T34 l i).f2.size + 1 := ByteArray.size_append
                    have f5 : decide (((rd_T34 l i).f2 ++ (⟨#[32]⟩ : ByteArray)).size + (rd_T34 m j).f2.size ≤ 9223372036854775807) = true := decide_eq_true (by omega)
                    have f6 : (9223372036854775807 < ((rd_T34 l i).f2 ++ (⟨#[32]⟩ : ByteArray)).size + (rd_T34 m j).f2.size) = False := eq_false (by omega)
                    have f7 : decide ((rd_T34 l i).f2.size + 1 + (rd_T34 m j).f2.size ≤ 9223372036854775807) = true := decide_eq_true (by omega)
                    have f8 : (9223372036854775807 < (rd_T34 l i).f2.size + 1 + (rd_T34 m j).f2.size) = False := eq_false (by omega)
                    clear az
                    have HX := Aside0.mk hx
                    clear hx c5
                    have l3 : ((x.length : Int) == 3) = true := beq_iff_eq.2 (by omega)
                    have l3n : ((x.length : Int) != 3) = false := bne_eq_false_iff_eq.2 (by omega)
                    have lx0 : ((0 : Int) < (x.length : Int)) = True := eq_true (by omega)
                    have lx1 : ((1 : Int) < (x.length : Int)) = True := eq_true (by omega)
                    go_wp2
                    repeat (go_quiet (fail); try go_wp2)
                    go_region_held3 (fun W => W.cell? ⟨(ad.add (i.toNat * 5)).block, (ad.add (i.toNat * 5)).off + 2, none⟩ = some (.string (rd_T34 l i).f2) ∧ W.cell? ⟨(bd.add (j.toNat * 5)).block, (bd.add (j.toNat * 5)).off + 2, none⟩ = some (.string (rd_T34 m j).f2)) (first | (with_reducible exact ⟨hz2, hu2⟩) | exact ⟨hl_2, hm_2⟩) (first | (go_at_call 7; (with_reducible refine (lex_Scan.calls K _ x q 0 _ HX.out).mono ?_); rintro e w6 ⟨vx, rfl, ho0, hb⟩; have n0_ := Aside0.mk (Kd.R_mono (Kd.R_elder' (by (with_reducible repeat (first | apply Kd.R_alloc | apply Kd.R_drewN | apply Kd.R_drew)); exact HL.out) (Kd.R_base ho0) hb) (fun _ _ => (trivial : True))); have n1_ := Aside0.mk (Kd.R_mono (Kd.R_elder' (by (with_reducible repeat (first | apply Kd.R_alloc | apply Kd.R_drewN | apply Kd.R_drew)); exact HM.out) (Kd.R_base ho0) hb) (fun _ _ => (trivial : True))); have n2_ := Aside0.mk (below_step (by repeat (first | (with_reducible first | exact HB.out | apply below_alloc | apply pw_below_drewN | apply below_drew1) | exact HB.out)) hb); clear HL; clear HM; clear HB; have HL := n0_; have HM := n1_; have HB := n2_; clear n0_ n1_ n2_; obtain ⟨Ax, cx, ex⟩ := Kd.R_slice ho0; subst ex; obtain ⟨ax, ea, hx0, hx1, hx2, hx3, hx4⟩ := at_T34 (Kd.R_reads' ho0).2.2 0 (by decide) (by omega); cases ea; obtain ⟨ay, ea, hy0, hy1, hy2, hy3, hy4⟩ := at_T34 (Kd.R_reads' ho0).2.2 1 (by decide) (by omega); cases ea; obtain ⟨az, ea, hz0, hz1, hz2, hz3, hz4⟩ := at_T34 (Kd.R_reads' HL.out).2.2 i (by omega) (by omega); cases ea; obtain ⟨au, ea, hu0, hu1, hu2, hu3, hu4⟩ := at_T34 (Kd.R_reads' HM.out).2.2 j (by omega) (by omega); cases ea; rw [x0] at hx0; rw [x2] at hx2; rw [x3] at hx3; rw [x4] at hx4; rw [y0] at hy0; rw [y2] at hy2; (try simp only [show (0 : Int).toNat = 0 from rfl, show (1 : Int).toNat = 1 from rfl, Nat.reduceMul, Nat.reduceEqDiff, Go.Addr.add, ↓reduceIte] at hx0 hx2 hx3 hx4 hy0 hy2); (try clear hb); (try clear ho0)))
                    all_goals (try simp only [List.getElem_toArray, List.getElem_cons_succ, List.getElem_cons_zero])
                    all_goals (try simp only [Act.put, List.setIfInBounds_toArray, List.set_cons_zero, List.set_cons_succ])
                    all_goals go_wp2
                    all_goals (repeat (go_quiet (fail); try go_wp2))
                    all_goals
                      go_roundg k2
                      case measure => omega
                      case rel => exact ⟨j + 1, (by first | rfl | (simp; done) | (simp [*]; done)), ⟨by omega⟩, ⟨by have := HK2.out; omega⟩, ⟨by (with_reducible repeat (first | apply Kd.R_alloc | apply Kd.R_drewN | apply Kd.R_drew)); exact HL.out⟩, ⟨by (with_reducible repeat (first | apply Kd.R_alloc | apply Kd.R_drewN | apply Kd.R_drew)); exact HM.out⟩, ⟨(by repeat (first | (with_reducible first | exact HB.out | apply below_alloc | apply pw_below_drewN | apply below_drew1) | exact HB.out))⟩⟩
              · have c3b0 : decide (j < 6) = false := decide_eq_false c3
                clear c3
                go_wp2
                repeat (go_quiet (fail); try go_wp2)
                go_roundg k1
                case measure => omega
                case rel => exact ⟨i + 1, (by first | rfl | (simp; done) | (simp [*]; done)), ⟨by omega⟩, ⟨by have := HK.out; omega⟩, ⟨(by (with_reducible repeat (first | apply Kd.R_alloc | apply Kd.R_drewN | apply Kd.R_drew)); exact HL.out)⟩, ⟨(by (with_reducible repeat (first | apply Kd.R_alloc | apply Kd.R_drewN | apply Kd.R_drew)); exact HM.out)⟩, ⟨(by repeat (first | (with_reducible first | exact HB.out | apply below_alloc | apply pw_below_drewN | apply below_drew1) | exact HB.out))⟩⟩
            · have c2b0 : decide (j < wrap64 ((m.length : Int) - 1)) = false := decide_eq_false c2
              have c2b1 : decide (j < (m.length : Int) - 1) = false := by rw [e2] at c2b0; exact c2b0
              clear c2
              go_wp2
              repeat (go_quiet (fail); try go_wp2)
              go_roundg k1
              case measure => omega
              case rel => exact ⟨i + 1, (by first | rfl | (simp; done) | (simp [*]; done)), ⟨by omega⟩, ⟨by have := HK.out; omega⟩, ⟨(by (with_reducible repeat (first | apply Kd.R_alloc | apply Kd.R_drewN | apply Kd.R_drew)); exact HL.out)⟩, ⟨(by (with_reducible repeat (first | apply Kd.R_alloc | apply Kd.R_drewN | apply Kd.R_drew)); exact HM.out)⟩, ⟨(by repeat (first | (with_reducible first | exact HB.out | apply below_alloc | apply pw_below_drewN | apply below_drew1) | exact HB.out))⟩⟩
      · have c1b0 : decide (i < wrap64 ((l.length : Int) - 1)) = false := decide_eq_false c1
        have c1b1 : decide (i < (l.length : Int) - 1) = false := by rw [e1] at c1b0; exact c1b0
        clear c1
        go_wp2_with (first | (go_at_call 9; (with_reducible refine (auspicelaw09_awake.calls K true _ A3.out).mono ?_); rintro e w7 ⟨rfl, hb⟩; have n2_ := Aside0.mk (below_step (by repeat (first | (with_reducible first | exact HB.out | apply below_alloc | apply pw_below_drewN | apply below_drew1) | exact HB.out)) hb); clear HB; have HB := n2_; clear n2_; clear hb))
        go_ret
        exact ⟨rfl, (by repeat (first | (with_reducible first | exact HB.out | apply below_alloc | apply pw_below_drewN | apply below_drew1) | exact HB.out))⟩

end Go.Proofs.YtgillodpbkpecaaDoor.Lex
