/- LexAgain: where a text has a fault the answer is the page's example's; the whole. -/
import Derived.Test.YtgillodpbkpecaaDoorLexR
namespace Go.Proofs.YtgillodpbkpecaaDoor.Lex
open Go.RowKit Go.Proofs.YtgillodpbkpecaaDoorW.PrintWords Go.Proofs.YtgillodpbkpecaaDoorW.PrintLast Go.Proofs.YtgillodpbkpecaaDoorW.PrintMore Go.Proofs.YtgillodpbkpecaaDoor.Ext Go.Proofs.YtgillodpbkpecaaDoor.PLx
attribute [local go_sem] max2_int min2_int max_two min_two max_three min_three max_four min_four
set_option linter.unusedVariables false
set_option linter.unusedSimpArgs false

set_option maxHeartbeats 8000000 in
set_option maxRecDepth 100000 in
theorem again_err (K : Nat) (a0 a1 : ByteArray) (l m : List S34) (p1 e1 p2 e2 : Int) (w : World) (h1 : lex_Scan.f K a0 = some (l, p1, e1)) (h2 : lex_Scan.f K a1 = some (m, p2, e2)) (he : ¬ (e1 = 0 ∧ e2 = 0)) (ha : auspicelaw09_awake.f K = some true) :
    Calls Tryd.prog 6 #[.string a0, .string a1] w fun e w' => e = .returned (.bool true) ∧ Below w.heap.size w w' := by
  have hu34 := Tryd.underlying34
  have HB := Aside0.mk (Below.refl w.heap.size w)
  have A1 := Aside0.mk h1
  have A2 := Aside0.mk h2
  have A3 := Aside0.mk ha
  clear h1 h2 ha
  by_cases c1 : e1 = 0
  · have c2 : e2 ≠ 0 := fun h => he ⟨c1, h⟩
    have b1 : (e1 == 0) = true := beq_iff_eq.2 c1
    have b1n : (e1 != 0) = false := bne_eq_false_iff_eq.2 c1
    have b2 : (e2 == 0) = false := beq_eq_false_iff_ne.2 c2
    have b2n : (e2 != 0) = true := bne_iff_ne.2 c2
    clear he c1 c2
    go_enter Tryd.func6, Tryd.ntmps6
    go_wp2_with (first | (go_at_call 7; (with_reducible refine (lex_Scan.calls K a0 l p1 e1 _ A1.out).mono ?_); rintro e w4 ⟨vl, rfl, ho0, hb⟩; have n0_ := Aside0.mk (Kd.R_lower ho0 (below_size (by repeat (first | (with_reducible first | exact HB.out | apply below_alloc | apply pw_below_drewN | apply below_drew1) | exact HB.out)))); have n1_ := Aside0.mk (below_step (by repeat (first | (with_reducible first | exact HB.out | apply below_alloc | apply pw_below_drewN | apply below_drew1) | exact HB.out)) hb); clear HB; have HL := n0_; have HB := n1_; clear n0_ n1_; (try clear hb); (try clear ho0)) | (go_at_call 7; (with_reducible refine (lex_Scan.calls K a1 m p2 e2 _ A2.out).mono ?_); rintro e w5 ⟨vm, rfl, ho0, hb⟩; have n0_ := Aside0.mk (Kd.R_mono (Kd.R_elder' (by (with_reducible repeat (first | apply Kd.R_alloc | apply Kd.R_drewN | apply Kd.R_drew)); exact HL.out) (Kd.R_base ho0) hb) (fun _ _ => (trivial : True))); have n1_ := Aside0.mk (Kd.R_lower ho0 (below_size (by repeat (first | (with_reducible first | exact HB.out | apply below_alloc | apply pw_below_drewN | apply below_drew1) | exact HB.out)))); have n2_ := Aside0.mk (below_step (by repeat (first | (with_reducible first | exact HB.out | apply below_alloc | apply pw_below_drewN | apply below_drew1) | exact HB.out)) hb); clear HL; clear HB; have HL := n0_; have HM := n1_; have HB := n2_; clear n0_ n1_ n2_; (try clear hb); (try clear ho0)) | (go_at_call 9; (with_reducible refine (auspicelaw09_awake.calls K true _ A3.out).mono ?_); rintro e w7 ⟨rfl, hb⟩; have n2_ := Aside0.mk (below_step (by repeat (first | (with_reducible first | exact HB.out | apply below_alloc | apply pw_below_drewN | apply below_drew1) | exact HB.out)) hb); clear HB; have HB := n2_; clear n2_; clear hb))
    repeat (go_quiet (fail); try go_wp2_with (first | (go_at_call 7; (with_reducible refine (lex_Scan.calls K a0 l p1 e1 _ A1.out).mono ?_); rintro e w4 ⟨vl, rfl, ho0, hb⟩; have n0_ := Aside0.mk (Kd.R_lower ho0 (below_size (by repeat (first | (with_reducible first | exact HB.out | apply below_alloc | apply pw_below_drewN | apply below_drew1) | exact HB.out)))); have n1_ := Aside0.mk (below_step (by repeat (first | (with_reducible first | exact HB.out | apply below_alloc | apply pw_below_drewN | apply below_drew1) | exact HB.out)) hb); clear HB; have HL := n0_; have HB := n1_; clear n0_ n1_; (try clear hb); (try clear ho0)) | (go_at_call 7; (with_reducible refine (lex_Scan.calls K a1 m p2 e2 _ A2.out).mono ?_); rintro e w5 ⟨vm, rfl, ho0, hb⟩; have n0_ := Aside0.mk (Kd.R_mono (Kd.R_elder' (by (with_reducible repeat (first | apply Kd.R_alloc | apply Kd.R_drewN | apply Kd.R_drew)); exact HL.out) (Kd.R_base ho0) hb) (fun _ _ => (trivial : True))); have n1_ := Aside0.mk (Kd.R_lower ho0 (below_size (by repeat (first | (with_reducible first | exact HB.out | apply below_alloc | apply pw_below_drewN | apply below_drew1) | exact HB.out)))); have n2_ := Aside0.mk (below_step (by repeat (first | (with_reducible first | exact HB.out | apply below_alloc | apply pw_below_drewN | apply below_drew1) | exact HB.out)) hb); clear HL; clear HB; have HL := n0_; have HM := n1_; have HB := n2_; clear n0_ n1_ n2_; (try clear hb); (try clear ho0)) | (go_at_call 9; (with_reducible refine (auspicelaw09_awake.calls K true _ A3.out).mono ?_); rintro e w7 ⟨rfl, hb⟩; have n2_ := Aside0.mk (below_step (by repeat (first | (with_reducible first | exact HB.out | apply below_alloc | apply pw_below_drewN | apply below_drew1) | exact HB.out)) hb); clear HB; have HB := n2_; clear n2_; clear hb)))
    go_ret
    exact ⟨rfl, (by repeat (first | (with_reducible first | exact HB.out | apply below_alloc | apply pw_below_drewN | apply below_drew1) | exact HB.out))⟩
  · have b1 : (e1 == 0) = false := beq_eq_false_iff_ne.2 c1
    have b1n : (e1 != 0) = true := bne_iff_ne.2 c1
    clear he c1
    go_enter Tryd.func6, Tryd.ntmps6
    go_wp2_with (first | (go_at_call 7; (with_reducible refine (lex_Scan.calls K a0 l p1 e1 _ A1.out).mono ?_); rintro e w4 ⟨vl, rfl, ho0, hb⟩; have n0_ := Aside0.mk (Kd.R_lower ho0 (below_size (by repeat (first | (with_reducible first | exact HB.out | apply below_alloc | apply pw_below_drewN | apply below_drew1) | exact HB.out)))); have n1_ := Aside0.mk (below_step (by repeat (first | (with_reducible first | exact HB.out | apply below_alloc | apply pw_below_drewN | apply below_drew1) | exact HB.out)) hb); clear HB; have HL := n0_; have HB := n1_; clear n0_ n1_; (try clear hb); (try clear ho0)) | (go_at_call 7; (with_reducible refine (lex_Scan.calls K a1 m p2 e2 _ A2.out).mono ?_); rintro e w5 ⟨vm, rfl, ho0, hb⟩; have n0_ := Aside0.mk (Kd.R_mono (Kd.R_elder' (by (with_reducible repeat (first | apply Kd.R_alloc | apply Kd.R_drewN | apply Kd.R_drew)); exact HL.out) (Kd.R_base ho0) hb) (fun _ _ => (trivial : True))); have n1_ := Aside0.mk (Kd.R_lower ho0 (below_size (by repeat (first | (with_reducible first | exact HB.out | apply below_alloc | apply pw_below_drewN | apply below_drew1) | exact HB.out)))); have n2_ := Aside0.mk (below_step (by repeat (first | (with_reducible first | exact HB.out | apply below_alloc | apply pw_below_drewN | apply below_drew1) | exact HB.out)) hb); clear HL; clear HB; have HL := n0_; have HM := n1_; have HB := n2_; clear n0_ n1_ n2_; (try clear hb); (try clear ho0)) | (go_at_call 9; (with_reducible refine (auspicelaw09_awake.calls K true _ A3.out).mono ?_); rintro e w7 ⟨rfl, hb⟩; have n2_ := Aside0.mk (below_step (by repeat (first | (with_reducible first | exact HB.out | apply below_alloc | apply pw_below_drewN | apply below_drew1) | exact HB.out)) hb); clear HB; have HB := n2_; clear n2_; clear hb))
    repeat (go_quiet (fail); try go_wp2_with (first | (go_at_call 7; (with_reducible refine (lex_Scan.calls K a0 l p1 e1 _ A1.out).mono ?_); rintro e w4 ⟨vl, rfl, ho0, hb⟩; have n0_ := Aside0.mk (Kd.R_lower ho0 (below_size (by repeat (first | (with_reducible first | exact HB.out | apply below_alloc | apply pw_below_drewN | apply below_drew1) | exact HB.out)))); have n1_ := Aside0.mk (below_step (by repeat (first | (with_reducible first | exact HB.out | apply below_alloc | apply pw_below_drewN | apply below_drew1) | exact HB.out)) hb); clear HB; have HL := n0_; have HB := n1_; clear n0_ n1_; (try clear hb); (try clear ho0)) | (go_at_call 7; (with_reducible refine (lex_Scan.calls K a1 m p2 e2 _ A2.out).mono ?_); rintro e w5 ⟨vm, rfl, ho0, hb⟩; have n0_ := Aside0.mk (Kd.R_mono (Kd.R_elder' (by (with_reducible repeat (first | apply Kd.R_alloc | apply Kd.R_drewN | apply Kd.R_drew)); exact HL.out) (Kd.R_base ho0) hb) (fun _ _ => (trivial : True))); have n1_ := Aside0.mk (Kd.R_lower ho0 (below_size (by repeat (first | (with_reducible first | exact HB.out | apply below_alloc | apply pw_below_drewN | apply below_drew1) | exact HB.out)))); have n2_ := Aside0.mk (below_step (by repeat (first | (with_reducible first | exact HB.out | apply below_alloc | apply pw_below_drewN | apply below_drew1) | exact HB.out)) hb); clear HL; clear HB; have HL := n0_; have HM := n1_; have HB := n2_; clear n0_ n1_ n2_; (try clear hb); (try clear ho0)) | (go_at_call 9; (with_reducible refine (auspicelaw09_awake.calls K true _ A3.out).mono ?_); rintro e w7 ⟨rfl, hb⟩; have n2_ := Aside0.mk (below_step (by repeat (first | (with_reducible first | exact HB.out | apply below_alloc | apply pw_below_drewN | apply below_drew1) | exact HB.out)) hb); clear HB; have HB := n2_; clear n2_; clear hb)))
    go_ret
    exact ⟨rfl, (by repeat (first | (with_reducible first | exact HB.out | apply below_alloc | apply pw_below_drewN | apply below_drew1) | exact HB.out))⟩

theorem again (a0 a1 : ByteArray) (w : World) : Calls Tryd.prog 6 #[.string a0, .string a1] w fun e w' => e = .returned (.bool true) ∧ Below w.heap.size w w' := by
  have f1 := scan_f a0 60000 (by omega)
  have f2 := scan_f a1 60000 (by omega)
  have ha := awake_from 60000 (by omega)
  by_cases h : (scanS a0).2.2 = 0 ∧ (scanS a1).2.2 = 0
  · obtain ⟨c1, z1⟩ := (scanS_chain a0).1 h.1
    obtain ⟨c2, z2⟩ := (scanS_chain a1).1 h.2
    have n1 := chain_length c1
    have n2 := chain_length c2
    have q1 := chain_pos c1
    have q2 := chain_pos c2
    have g1 : lex_Scan.f 60000 a0 = some ((scanS a0).1.map mk34, (scanS a0).2.1, 0) := by rw [f1, ← h.1]
    have g2 : lex_Scan.f 60000 a1 = some ((scanS a1).1.map mk34, (scanS a1).2.1, 0) := by rw [f2, ← h.2]
    exact again_walk 60000 a0 a1 _ _ _ _ w g1 g2 (by rw [List.length_map]; omega) (by rw [List.length_map]; omega) (by rw [List.length_map]; omega) (by rw [List.length_map]; omega) (text_le a0) (text_le a1)
      (fun i j hi hj hz => pair_of 60000 (by omega) a0 a1 h.1 h.2 i j hi hj hz) ha
  · exact again_err 60000 a0 a1 _ _ _ _ _ _ w f1 f2 h ha

end Go.Proofs.YtgillodpbkpecaaDoor.Lex
