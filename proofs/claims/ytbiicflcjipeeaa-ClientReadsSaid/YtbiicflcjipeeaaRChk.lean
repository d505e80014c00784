/- Which events may be: the document's. -/
import Derived.Test.YtbiicflcjipeeaaChk
import Derived.Test.YtbiicflcjipeeaaStr
namespace Go.Proofs.Ytbiicflcjipeeaa
open Go.RowKit
set_option linter.unusedSimpArgs false
set_option linter.unusedVariables false
open Sp (fold intB textS bs)
attribute [local go_sem] Mem.run_store_float Mem.After.cell
noncomputable def inBB (n : Int) : Bool := @decide (inB n) (Classical.propDecidable _)
theorem inBB_iff {n : Int} : inBB n = true ↔ inB n := by unfold inBB; simp
theorem inBB_no {n : Int} : inBB n = false ↔ ¬ inB n := by unfold inBB; simp
set_option maxRecDepth 100000 in
set_option maxHeartbeats 400000 in
theorem rin_any (n : Int) (w : World) : Calls Try.prog 63 #[.int .i64 n] w fun e w' => e = .returned (.bool (inBB n)) ∧ w = w' := by
  cases h : inBB n
  · have h2 := inBB_no.1 h
    unfold inB at h2
    have h3 : n < 0 ∨ 549755813888 < n := by omega
    rcases h3 with h3 | h3
    all_goals
      clear h h2
      go_enter Try.func63, Try.ntmps63
      go_wp2_with fail
      go_ret
      exact ⟨Mem.ret_bool (by first | rfl | (simp; omega)), rfl⟩
  · obtain ⟨h2, h3⟩ := inBB_iff.1 h
    clear h
    go_enter Try.func63, Try.ntmps63
    go_wp2_with fail
    go_ret
    exact ⟨Mem.ret_bool (by first | rfl | (simp; omega)), rfl⟩
theorem rWord_yes (s : ByteArray) (w : World) (hs : s.size ≤ 140737488351232) (h : wordB s = true) : Calls Try.prog 18 #[.string s] w fun e w' => e = .returned (.bool true) ∧ w = w' :=
  (rWord_any s w hs).mono fun _ _ ⟨he, hw⟩ => ⟨by rw [he, h], hw⟩
theorem rWord_no (s : ByteArray) (w : World) (hs : s.size ≤ 140737488351232) (h : wordB s = false) : Calls Try.prog 18 #[.string s] w fun e w' => e = .returned (.bool false) ∧ w = w' :=
  (rWord_any s w hs).mono fun _ _ ⟨he, hw⟩ => ⟨by rw [he, h], hw⟩
theorem rmay_yes (v : Val) (w : World) (hs : v.s.size ≤ 140737488351232) (h : mayB v = true) :
    Calls Try.prog 64 #[.agg #[.int .i64 v.kind, .int .i64 v.n, .float .f64 v.f, .string v.s]] w fun e w' => e = .returned (.bool true) ∧ Below w.heap.size w w' :=
  (rmay_any v w hs).mono fun _ _ ⟨he, hw⟩ => ⟨by rw [he, h], hw⟩
theorem rmay_no (v : Val) (w : World) (hs : v.s.size ≤ 140737488351232) (h : mayB v = false) :
    Calls Try.prog 64 #[.agg #[.int .i64 v.kind, .int .i64 v.n, .float .f64 v.f, .string v.s]] w fun e w' => e = .returned (.bool false) ∧ Below w.heap.size w w' :=
  (rmay_any v w hs).mono fun _ _ ⟨he, hw⟩ => ⟨by rw [he, h], hw⟩
set_option maxRecDepth 100000 in
set_option maxHeartbeats 2000000 in
theorem rCheck_any (e : Evt) (vf : Value) (ok : Nat → Prop) (w : World) (hs : e.small) (hr : EvR w ok e vf) :
    Calls Try.prog 39 #[.agg #[.int .i64 e.session, .int .i64 e.seq, .int .i64 e.stamp, .string e.kind, vf]] w fun r w' => r = .returned (.int .i64 e.chk) ∧ Below w.heap.size w w' := by
  obtain ⟨A, cap, rfl⟩ := hr.slice
  obtain ⟨session, seq, stamp, kind, fields⟩ := e
  have HR := Lib.hid hr
  have HS := Lib.hid hs
  have hkind := HS.out.1
  clear hr hs
  dsimp only at hkind ⊢
  by_cases hin : inB session ∧ inB seq ∧ inB stamp ∧ Word kind ∧ fields.length ≤ 8
  · have GG := Lib.hid hin
    obtain ⟨g1, g2, g3, g4, h8⟩ := hin
    have G1 := inBB_iff.2 g1
    have G2 := inBB_iff.2 g2
    have G3 := inBB_iff.2 g3
    have G4 := wordB_true g4
    clear g1 g2 g3 g4
    go_enter Try.func39, Try.ntmps39
    go_wp2_with (first | (go_at_call 63; refine (rin_any _ _).mono ?_; rintro _ w' ⟨rfl, rfl⟩) | (go_at_call 18; refine (rWord_any kind _ hkind).mono ?_; rintro _ w' ⟨rfl, rfl⟩))
    clear G1 G2 G3 G4
    have hB := Mem.new w (Obj.cells #[Value.int IntKind.i64 session, Value.int IntKind.i64 seq, Value.int IntKind.i64 stamp, Value.string kind, Value.slice A fields.length cap] 42)
    have hW : Below w.heap.size w (w.alloc (Obj.cells #[Value.int IntKind.i64 session, Value.int IntKind.i64 seq, Value.int IntKind.i64 stamp, Value.string kind, Value.slice A fields.length cap] 42)) := (Below.refl _ _).alloc (Nat.le_refl _) _
    go_loopw [3] (fun i wr => ∃ k : Nat, k ≤ fields.length ∧ i = .int .i64 k ∧ (∀ j f, j < k → fields[j]? = some f → Fld.ok fields j f) ∧ Below w.heap.size w wr ∧
        wr.heap[w.heap.size]? = some (.cells #[Value.int IntKind.i64 session, Value.int IntKind.i64 seq, Value.int IntKind.i64 stamp, Value.string kind, Value.slice A fields.length cap] 42 (0, 0))) (fun i _ => fields.length - (intOf i).toNat)
    case atStart => exact ⟨0, Nat.zero_le _, rfl, fun j f h => absurd h (Nat.not_lt_zero _), hW, hB⟩
    case round =>
      obtain ⟨k, hk, rfl, hall, hbel, hB⟩ := hrel
      have HA := Lib.hid hall
      clear hall
      have b4 : wr.cell? ⟨w.heap.size, 4, none⟩ = some (.slice A fields.length cap) := Mem.cell hB (j := 4) rfl
      by_cases hlt : k < fields.length
      · obtain ⟨f, hf⟩ : ∃ f, fields[k]? = some f := ⟨_, List.getElem?_eq_getElem hlt⟩
        obtain ⟨g, o, rfl, hg, hgl, hrow⟩ := (HR.out.below hbel).row (k := k) (r := f.cells) (by rw [List.getElem?_map, hf]; rfl)
        have c0 : wr.cell? ⟨g, o + k * 5, none⟩ = some (.string f.name) := hrow 0 _ rfl
        have c1 := hrow 1 _ rfl
        have c2 := hrow 2 _ rfl
        have c3 := hrow 3 _ rfl
        have c4 := hrow 4 _ rfl
        have HB := Lib.hid hB
        have HF := Lib.hid hf
        have hl3 := Mem.lt hB
        obtain ⟨hs1, hs2⟩ := HS.out.2 f (List.mem_of_getElem? hf)
        clear hB hf hrow hW
        cases hwn : wordB f.name
        · have HN := Lib.hid hwn
          clear hwn
          go_wp2_with (go_at_call 18; refine (rWord_no f.name _ hs1 HN.out).mono ?_; rintro _ w' ⟨rfl, rfl⟩)
          go_ret
          refine ⟨?_, hbel⟩
          rw [chk_no (fun h => by have hfo := h.2.2.2.2.2 k f HF.out; have := wordB_true hfo.1; rw [HN.out] at this; cases this)]
          rfl
        · have HN := Lib.hid hwn
          clear hwn
          cases hm : mayB f.v
          · have HM := Lib.hid hm
            clear hm
            go_wp2_with (first | (go_at_call 18; refine (rWord_yes f.name _ hs1 HN.out).mono ?_; rintro _ w' ⟨rfl, rfl⟩) | (go_at_call 64; refine (rmay_no f.v _ hs2 HM.out).mono ?_; rintro _ w1 ⟨rfl, hb1⟩))
            go_ret
            refine ⟨?_, hbel.trans (hb1.mono hbel.size)⟩
            rw [chk_no (fun h => by have hfo := h.2.2.2.2.2 k f HF.out; have := mayB_true hfo.2.1; rw [HM.out] at this; cases this)]
            rfl
          · have HM := Lib.hid hm
            clear hm
            go_wp2_with (first | (go_at_call 18; refine (rWord_yes f.name _ hs1 HN.out).mono ?_; rintro _ w' ⟨rfl, rfl⟩) | (go_at_call 64; refine (rmay_yes f.v _ hs2 HM.out).mono ?_; rintro _ w1 ⟨rfl, hb1⟩))
            have hbel1 := hbel.trans (hb1.mono hbel.size)
            have d4 : w1.cell? ⟨w.heap.size, 4, none⟩ = some (.slice (some ⟨g, o, none⟩) fields.length cap) := (hb1.cell (p := ⟨w.heap.size, 4, none⟩) hl3).trans b4
            have d0 : w1.cell? ⟨g, o + k * 5, none⟩ = some (.string f.name) := (hb1.cell (p := ⟨g, o + k * 5, none⟩) hgl).trans c0
            have HB1 := Lib.hid ((hb1.block _ hl3).trans HB.out)
            clear b4 c0 c1 c2 c3 c4
            by_cases hk0 : 0 < k
            · obtain ⟨p, hp⟩ : ∃ p, fields[k - 1]? = some p := ⟨_, List.getElem?_eq_getElem (by omega)⟩
              obtain ⟨g', o', e', _, _, hrow'⟩ := (HR.out.below hbel1).row (k := k - 1) (r := p.cells) (by rw [List.getElem?_map, hp]; rfl)
              cases e'
              have p0 : w1.cell? ⟨g, o + (k - 1) * 5, none⟩ = some (.string p.name) := hrow' 0 _ rfl
              have HP := Lib.hid hp
              clear hp hrow'
              have hki : (0 : Int) < (k : Int) := by omega
              cases hb : Op.bytesLess p.name.toList f.name.toList
              · have HBL := Lib.hid hb
                have hx := Str.of_not hb
                clear hb
                go_quiet (fail)
                rcases hx with hx | ⟨hx, hy⟩
                all_goals go_wp2_with fail
                all_goals first
                  | (go_ret
                     refine ⟨?_, Mem.bdrewN hbel1 _⟩
                     rw [chk_no (fun h => by have hfo := h.2.2.2.2.2 k f HF.out; have := hfo.2.2 hk0 p HP.out; rw [HBL.out] at this; cases this)]
                     rfl)
                  | exact absurd (show Op.bytesLess f.name.toList p.name.toList = false ∧ (f.name.toList == p.name.toList) = false by assumption) (fun hz => by rw [hx] at hz; exact Bool.noConfusion hz.1)
                  | exact absurd (show Op.bytesLess f.name.toList p.name.toList = false ∧ (f.name.toList == p.name.toList) = false by assumption) (fun hz => by rw [hy] at hz; exact Bool.noConfusion hz.2)
              · have HBL := Lib.hid hb
                obtain ⟨hx, hy⟩ := Str.of_less hb
                clear hb
                go_quiet (fail)
                go_wp2_with fail
                go_roundw
                case rel =>
                  refine ⟨k + 1, by omega, by go_num, fun j f' hj hf' => ?_, Mem.bdrewN hbel1 _, HB1.out⟩
                  by_cases e : j < k
                  · exact HA.out j f' e hf'
                  · obtain rfl : j = k := by omega
                    obtain rfl : f = f' := Option.some.inj (HF.out.symm.trans hf')
                    exact ⟨wordB_iff.1 HN.out, mayB_iff.1 HM.out, fun _ p' hp' => by obtain rfl : p = p' := Option.some.inj (HP.out.symm.trans hp'); exact HBL.out⟩
                case measure => simp [intOf]; try omega
            · have hki : ¬ (0 : Int) < (k : Int) := by omega
              have hkd : decide ((0 : Int) < (k : Int)) = false := by simp; omega
              go_quiet (fail)
              go_wp2_with fail
              go_roundw
              case rel =>
                refine ⟨k + 1, by omega, by go_num, fun j f' hj hf' => ?_, Mem.bdrewN hbel1 _, HB1.out⟩
                by_cases e : j < k
                · exact HA.out j f' e hf'
                · obtain rfl : j = k := by omega
                  obtain rfl : f = f' := Option.some.inj (HF.out.symm.trans hf')
                  exact ⟨wordB_iff.1 HN.out, mayB_iff.1 HM.out, fun h => absurd h hk0⟩
              case measure => simp [intOf]; try omega
      · obtain rfl : k = fields.length := by omega
        have HB := Lib.hid hB
        clear hB hW
        go_wp2_with fail
        go_ret
        refine ⟨?_, hbel⟩
        rw [chk_ok ⟨GG.out.1, GG.out.2.1, GG.out.2.2.1, GG.out.2.2.2.1, h8, fun i f hf => HA.out i f (List.getElem?_eq_some_iff.1 hf).1 hf⟩]
        rfl
  · go_enter Try.func39, Try.ntmps39
    go_wp2_with (first | (go_at_call 63; refine (rin_any _ _).mono ?_; rintro _ w' ⟨rfl, rfl⟩) | (go_at_call 18; refine (rWord_any kind _ hkind).mono ?_; rintro _ w' ⟨rfl, rfl⟩))
    all_goals first
      | (go_ret
         refine ⟨?_, (Below.refl _ _).alloc (Nat.le_refl _) _⟩
         rw [chk_no (fun h => hin ⟨h.1, h.2.1, h.2.2.1, h.2.2.2.1, h.2.2.2.2.1⟩)]
         rfl)
      | exact absurd ⟨inBB_iff.1 (by assumption), inBB_iff.1 (by assumption), inBB_iff.1 (by assumption), wordB_iff.1 (by assumption), by omega⟩ hin
end Go.Proofs.Ytbiicflcjipeeaa
