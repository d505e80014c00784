/- Which events may be: event's and the document's. · The order of texts. · Which events may be: the document's. · The texts of values and events: event's and the document's. -/
import Derived.Test.YtiomhmdkaglelaaG3
import Derived.Test.YtiomhmdkaglelaaG1
import Derived.Deep.RegionWith
import Derived.WalkKit
namespace Go.Proofs.Ytiomhmdkaglelaa
open Go.RowKit
set_option linter.unusedSimpArgs false
set_option linter.unusedVariables false
open Sp (fold intB textS bs)
attribute [local go_sem] Mem.run_store_float Mem.After.cell
theorem Word_yes (s : ByteArray) (w : World) (hs : s.size ≤ 140737488351232) (h : wordB s = true) : Calls Try.prog 19 #[.string s] w fun e w' => e = .returned (.bool true) ∧ w' = w :=
  (Word_any s w hs).mono fun _ _ ⟨he, hw⟩ => ⟨by rw [he, h], hw.symm⟩
theorem Word_no (s : ByteArray) (w : World) (hs : s.size ≤ 140737488351232) (h : wordB s = false) : Calls Try.prog 19 #[.string s] w fun e w' => e = .returned (.bool false) ∧ w' = w :=
  (Word_any s w hs).mono fun _ _ ⟨he, hw⟩ => ⟨by rw [he, h], hw.symm⟩
theorem may_yes (v : Val) (w : World) (hs : v.s.size ≤ 140737488351232) (h : mayB v = true) :
    Calls Try.prog 47 #[.agg #[.int .i64 v.kind, .int .i64 v.n, .float .f64 v.f, .string v.s]] w fun e w' => e = .returned (.bool true) ∧ Below w.heap.size w w' :=
  (may_any v w hs).mono fun _ _ ⟨he, hw⟩ => ⟨by rw [he, h], hw⟩
theorem may_no (v : Val) (w : World) (hs : v.s.size ≤ 140737488351232) (h : mayB v = false) :
    Calls Try.prog 47 #[.agg #[.int .i64 v.kind, .int .i64 v.n, .float .f64 v.f, .string v.s]] w fun e w' => e = .returned (.bool false) ∧ Below w.heap.size w w' :=
  (may_any v w hs).mono fun _ _ ⟨he, hw⟩ => ⟨by rw [he, h], hw⟩
structure Fld where
  name : ByteArray
  v : Val
def Fld.cells (f : Fld) : List Value := [.string f.name, .int .i64 f.v.kind, .int .i64 f.v.n, .float .f64 f.v.f, .string f.v.s]
structure Evt where
  session : Int
  seq : Int
  stamp : Int
  kind : ByteArray
  fields : List Fld
def inB (n : Int) : Prop := 0 ≤ n ∧ n ≤ 549755813888
def Fld.ok (l : List Fld) (i : Nat) (f : Fld) : Prop := Word f.name ∧ f.v.may ∧ (0 < i → ∀ p, l[i - 1]? = some p → Op.bytesLess p.name.toList f.name.toList = true)
def Evt.ok (e : Evt) : Prop := inB e.session ∧ inB e.seq ∧ inB e.stamp ∧ Word e.kind ∧ e.fields.length ≤ 8 ∧ ∀ i f, e.fields[i]? = some f → Fld.ok e.fields i f
noncomputable def Evt.chk (e : Evt) : Int := if @decide e.ok (Classical.propDecidable _) then 0 else 1
theorem chk_ok {e : Evt} (h : e.ok) : e.chk = 0 := by unfold Evt.chk; simp [h]
theorem chk_no {e : Evt} (h : ¬ e.ok) : e.chk = 1 := by unfold Evt.chk; simp [h]
/-- All texts of an event are short enough. -/
def Evt.small (e : Evt) : Prop := e.kind.size ≤ 140737488351232 ∧ ∀ f ∈ e.fields, f.name.size ≤ 140737488351232 ∧ f.v.s.size ≤ 140737488351232
/-- An event's cells. -/
def EvR (w : World) (ok : Nat → Prop) (e : Evt) (vf : Value) : Prop := Mem.Rd w ok 5 vf (e.fields.map Fld.cells)
set_option maxRecDepth 100000 in
set_option maxHeartbeats 2000000 in
theorem Check_any (e : Evt) (vf : Value) (ok : Nat → Prop) (w : World) (hs : e.small) (hr : EvR w ok e vf) :
    Calls Try.prog 39 #[.agg #[.int .i64 e.session, .int .i64 e.seq, .int .i64 e.stamp, .string e.kind, vf]] w fun r w' => r = .returned (.int .i64 e.chk) ∧ Below w.heap.size w w' := by
  obtain ⟨A, cap, rfl⟩ := hr.slice
  obtain ⟨session, seq, stamp, kind, fields⟩ := e
  have HR := Lib.hid hr
  have HS := Lib.hid hs
  clear hr hs
  dsimp only
  go_enter Try.func39, Try.ntmps39
  go_wp2_with fail
  go_loop [15] (fun i => ∃ k : Nat, k ≤ 3 ∧ i = .int .i64 k ∧ ∀ j, j < k → inB ([session, seq, stamp].getD j 0)) (fun i => 3 - (intOf i).toNat)
  case atStart => exact ⟨0, Nat.zero_le _, rfl, fun i h => absurd h (Nat.not_lt_zero _)⟩
  case round =>
    obtain ⟨k, hk, rfl, hall⟩ := hrel
    have HA := Lib.hid hall
    clear hall
    by_cases hlt : k < 3
    · obtain ⟨x, hx⟩ : ∃ x, x = [session, seq, stamp].getD k 0 := ⟨_, rfl⟩
      have hc := Mem.cell (Mem.new (w.alloc (Obj.cells #[Value.int IntKind.i64 session, Value.int IntKind.i64 seq, Value.int IntKind.i64 stamp, Value.string kind, Value.slice A fields.length cap] 36)) (Obj.cells #[Value.int IntKind.i64 session, Value.int IntKind.i64 seq, Value.int IntKind.i64 stamp] 3)) (j := k) (v := .int .i64 x) (by
        rw [hx]; match k, hlt with
        | 0, _ => rfl
        | 1, _ => rfl
        | 2, _ => rfl)
      have HX := Lib.hid hx
      clear hx
      have e1 : (w.alloc (Obj.cells #[Value.int IntKind.i64 session, Value.int IntKind.i64 seq, Value.int IntKind.i64 stamp, Value.string kind, Value.slice A fields.length cap] 36)).heap.size = w.heap.size + 1 := by simp
      rw [e1] at hc
      clear e1
      by_cases h0 : x < 0
      all_goals by_cases h1 : 549755813888 < x
      all_goals go_wp2_with fail
      all_goals first
        | (go_ret
           refine ⟨?_, ((Below.refl _ _).alloc (Nat.le_refl _) _).alloc (by simp) _⟩
           rw [chk_no (fun h => by
             have hin : inB x := by
               rw [HX.out]
               match k, hlt with
               | 0, _ => exact h.1
               | 1, _ => exact h.2.1
               | 2, _ => exact h.2.2.1
             unfold inB at hin
             omega)]
           rfl)
        | (go_round
           case rel =>
             refine ⟨k + 1, by omega, by go_num, fun j hj => ?_⟩
             by_cases e : j < k
             · exact HA.out j e
             · obtain rfl : j = k := by omega
               rw [← HX.out]
               unfold inB
               omega
           case measure => simp [intOf]; omega)
    · obtain rfl : k = 3 := by omega
      have hall : Hid (inB session ∧ inB seq ∧ inB stamp) := Lib.hid ⟨HA.out 0 (by omega), HA.out 1 (by omega), HA.out 2 (by omega)⟩
      clear HA
      have hkind := HS.out.1
      dsimp only at hkind
      go_wp2_with fail
      refine (Word_any _ _ hkind).mono ?_
      rintro r w' ⟨rfl, rfl⟩
      cases hw : wordB kind
      · go_wp2_with fail
        go_ret
        refine ⟨?_, ((Below.refl _ _).alloc (Nat.le_refl _) _).alloc (by simp) _⟩
        rw [chk_no (fun h => by have := wordB_true h.2.2.2.1; dsimp only at this; rw [hw] at this; cases this)]
        rfl
      · by_cases h8 : fields.length ≤ 8
        · have HW := Lib.hid hw
          clear hw
          go_wp2_with fail
          have hB := Mem.old (Mem.new w (Obj.cells #[Value.int IntKind.i64 session, Value.int IntKind.i64 seq, Value.int IntKind.i64 stamp, Value.string kind, Value.slice A fields.length cap] 36)) (Obj.cells #[Value.int IntKind.i64 session, Value.int IntKind.i64 seq, Value.int IntKind.i64 stamp] 3)
          have hW : Below w.heap.size w ((w.alloc (Obj.cells #[Value.int IntKind.i64 session, Value.int IntKind.i64 seq, Value.int IntKind.i64 stamp, Value.string kind, Value.slice A fields.length cap] 36)).alloc (Obj.cells #[Value.int IntKind.i64 session, Value.int IntKind.i64 seq, Value.int IntKind.i64 stamp] 3)) := ((Below.refl _ _).alloc (Nat.le_refl _) _).alloc (by simp) _
          go_loopw [39] (fun i wr => ∃ k : Nat, k ≤ fields.length ∧ i = .int .i64 k ∧ (∀ j f, j < k → fields[j]? = some f → Fld.ok fields j f) ∧ Below w.heap.size w wr ∧
              wr.heap[w.heap.size]? = some (.cells #[Value.int IntKind.i64 session, Value.int IntKind.i64 seq, Value.int IntKind.i64 stamp, Value.string kind, Value.slice A fields.length cap] 36 (0, 0))) (fun i _ => fields.length - (intOf i).toNat)
          case atStart => exact ⟨0, Nat.zero_le _, rfl, fun j f h => absurd h (Nat.not_lt_zero _), hW, hB⟩
          case round =>
            obtain ⟨k, hk, rfl, hall', hbel, hB⟩ := hrel
            have HA := Lib.hid hall'
            clear hall'
            by_cases hlt : k < fields.length
            · obtain ⟨f, hf⟩ : ∃ f, fields[k]? = some f := ⟨_, List.getElem?_eq_getElem hlt⟩
              obtain ⟨g, o, rfl, hg, hgl, hrow⟩ := (HR.out.below hbel).row (k := k) (r := f.cells) (by rw [List.getElem?_map, hf]; rfl)
              have c0 : wr.cell? ⟨g, o + k * 5, none⟩ = some (.string f.name) := hrow 0 _ rfl
              have c1 := hrow 1 _ rfl
              have c2 := hrow 2 _ rfl
              have c3 := hrow 3 _ rfl
              have c4 := hrow 4 _ rfl
              have b4 : wr.cell? ⟨w.heap.size, 4, none⟩ = some (.slice (some ⟨g, o, none⟩) fields.length cap) := Mem.cell hB (j := 4) rfl
              have HB := Lib.hid hB
              have HF := Lib.hid hf
              have HRow := Lib.hid hrow
              obtain ⟨hs1, hs2⟩ := HS.out.2 f (List.mem_of_getElem? hf)
              clear hB hf hrow hW
              go_wp2_with fail
              have hbs := hbel.size
              have hl1 : g < wr.heap.size + 1 := by omega
              have hl3 : w.heap.size < wr.heap.size := Mem.lt HB.out
              have hl2 : w.heap.size < wr.heap.size + 1 := by omega
              cases hwn : wordB f.name
              · have HN := Lib.hid hwn
                clear hwn
                go_quiet ((go_at_call 19; exact Calls.quiet_of_same (Word_no _ _ hs1 HN.out)))
                go_wp2_with fail
                have hbel1 : Below w.heap.size w ((wr.alloc (Obj.cells #[Value.string f.name, Value.int IntKind.i64 f.v.kind, Value.int IntKind.i64 f.v.n, Value.float FloatKind.f64 f.v.f, Value.string f.v.s] 111)).drewN nq) := Mem.bdrewN (hbel.alloc hbs _) _
                go_ret
                refine ⟨?_, hbel1⟩
                rw [chk_no (fun h => by have hfo := h.2.2.2.2.2 k f HF.out; have := wordB_true hfo.1; rw [HN.out] at this; cases this)]
                rfl
              · have HN := Lib.hid hwn
                clear hwn
                cases hm : mayB f.v
                · have HM := Lib.hid hm
                  clear hm
                  refine Mem.wp_region_after (by kernel_rfl) (by kernel_rfl) ?_
                  repeat (go_big_quiet_step ((first | (go_at_call 19; exact Mem.After.same _ (Word_yes _ _ hs1 HN.out)) | (go_at_call 47; exact Mem.After.call _ (may_no f.v _ hs2 HM.out)))))
                  refine wpQuiet_nil ?_
                  intro w1 hb1
                  have hbel1 : Below w.heap.size w w1 := (hbel.alloc hbs _).trans (hb1.mono (by simp; omega))
                  go_wp2_with fail
                  go_ret
                  refine ⟨?_, hbel1⟩
                  rw [chk_no (fun h => by have hfo := h.2.2.2.2.2 k f HF.out; have := mayB_true hfo.2.1; rw [HM.out] at this; cases this)]
                  rfl
                · have HM := Lib.hid hm
                  clear hm
                  by_cases hk0 : 0 < k
                  · obtain ⟨p, hp⟩ : ∃ p, fields[k - 1]? = some p := ⟨_, List.getElem?_eq_getElem (by omega)⟩
                    obtain ⟨g', o', e', _, _, hrow'⟩ := (HR.out.below hbel).row (k := k - 1) (r := p.cells) (by rw [List.getElem?_map, hp]; rfl)
                    cases e'
                    have p0 : wr.cell? ⟨g, o + (k - 1) * 5, none⟩ = some (.string p.name) := hrow' 0 _ rfl
                    have HP := Lib.hid hp
                    clear hp hrow'
                    have hki : (0 : Int) < (k : Int) := by omega
                    cases hb : Op.bytesLess p.name.toList f.name.toList
                    · have HBL := Lib.hid hb
                      refine Mem.wp_region_after (by kernel_rfl) (by kernel_rfl) ?_
                      repeat (go_big_quiet_step ((first | (go_at_call 19; exact Mem.After.same _ (Word_yes _ _ hs1 HN.out)) | (go_at_call 47; exact Mem.After.call _ (may_yes f.v _ hs2 HM.out)))))
                      refine wpQuiet_nil ?_
                      intro w1 hb1
                      have hbel1 : Below w.heap.size w w1 := (hbel.alloc hbs _).trans (hb1.mono (by simp; omega))
                      go_wp2_with fail
                      go_ret
                      refine ⟨?_, hbel1⟩
                      rw [chk_no (fun h => by have hfo := h.2.2.2.2.2 k f HF.out; have := hfo.2.2 hk0 p HP.out; rw [HBL.out] at this; cases this)]
                      rfl
                    · have HBL := Lib.hid hb
                      refine Mem.wp_region_after (by kernel_rfl) (by kernel_rfl) ?_
                      repeat (go_big_quiet_step ((first | (go_at_call 19; exact Mem.After.same _ (Word_yes _ _ hs1 HN.out)) | (go_at_call 47; exact Mem.After.call _ (may_yes f.v _ hs2 HM.out)))))
                      refine wpQuiet_nil ?_
                      intro w1 hb1
                      have hbel1 : Below w.heap.size w w1 := (hbel.alloc hbs _).trans (hb1.mono (by simp; omega))
                      go_wp2_with fail
                      go_roundw
                      case rel =>
                        refine ⟨k + 1, by omega, by go_num, fun j f' hj hf' => ?_, hbel1, ?_⟩
                        · by_cases e : j < k
                          · exact HA.out j f' e hf'
                          · obtain rfl : j = k := by omega
                            obtain rfl : f = f' := Option.some.inj (HF.out.symm.trans hf')
                            exact ⟨wordB_iff.1 HN.out, mayB_iff.1 HM.out, fun _ p' hp' => by obtain rfl : p = p' := Option.some.inj (HP.out.symm.trans hp'); exact HBL.out⟩
                        · rw [hb1.block _ (by simp; omega)]; exact Mem.old HB.out _
                      case measure => simp [intOf]; omega
                  · have hki : ¬ (0 : Int) < (k : Int) := by omega
                    refine Mem.wp_region_after (by kernel_rfl) (by kernel_rfl) ?_
                    repeat (go_big_quiet_step ((first | (go_at_call 19; exact Mem.After.same _ (Word_yes _ _ hs1 HN.out)) | (go_at_call 47; exact Mem.After.call _ (may_yes f.v _ hs2 HM.out)))))
                    refine wpQuiet_nil ?_
                    intro w1 hb1
                    have hbel1 : Below w.heap.size w w1 := (hbel.alloc hbs _).trans (hb1.mono (by simp; omega))
                    go_wp2_with fail
                    go_roundw
                    case rel =>
                      refine ⟨k + 1, by omega, by go_num, fun j f' hj hf' => ?_, hbel1, ?_⟩
                      · by_cases e : j < k
                        · exact HA.out j f' e hf'
                        · obtain rfl : j = k := by omega
                          obtain rfl : f = f' := Option.some.inj (HF.out.symm.trans hf')
                          exact ⟨wordB_iff.1 HN.out, mayB_iff.1 HM.out, fun h => absurd h hk0⟩
                      · rw [hb1.block _ (by simp; omega)]; exact Mem.old HB.out _
                    case measure => simp [intOf]; omega
            · obtain rfl : k = fields.length := by omega
              go_wp2_with fail
              go_ret
              refine ⟨?_, hbel⟩
              rw [chk_ok ⟨hall.out.1, hall.out.2.1, hall.out.2.2, wordB_iff.1 HW.out, h8, fun i f hf => HA.out i f (List.getElem?_eq_some_iff.1 hf).1 hf⟩]
              rfl
        · go_wp2_with fail
          go_ret
          refine ⟨?_, ((Below.refl _ _).alloc (Nat.le_refl _) _).alloc (by simp) _⟩
          rw [chk_no (fun h => h8 h.2.2.2.2.1)]
          rfl
end Go.Proofs.Ytiomhmdkaglelaa
namespace Go.Proofs.Ytiomhmdkaglelaa.Str
theorem flip : ∀ x y : List UInt8, Op.bytesLess x y = !(Op.bytesLess y x || y == x)
  | [], [] => rfl
  | [], _ :: _ => rfl
  | _ :: _, [] => rfl
  | a :: x, b :: y => by
    have ih := flip x y
    have hc : (b :: y == a :: x) = (b == a && y == x) := rfl
    simp only [Op.bytesLess, hc, ih]
    rcases Nat.lt_trichotomy a.toNat b.toNat with h | h | h
    · have h1 : a < b := UInt8.lt_iff_toNat_lt.2 h
      have h2 : ¬ b < a := fun h' => by have := UInt8.lt_iff_toNat_lt.1 h'; omega
      have h3 : (b == a) = false := beq_eq_false_iff_ne.2 (fun e => by subst e; omega)
      simp [h1, h2, h3]
    · obtain rfl : a = b := UInt8.toNat_inj.1 h
      have h2 : ¬ a < a := fun h' => by have := UInt8.lt_iff_toNat_lt.1 h'; omega
      simp [h2]
    · have h1 : ¬ a < b := fun h' => by have := UInt8.lt_iff_toNat_lt.1 h'; omega
      have h2 : b < a := UInt8.lt_iff_toNat_lt.2 h
      have h3 : (a == b) = false := beq_eq_false_iff_ne.2 (fun e => by subst e; omega)
      simp [h1, h2, h3]
/-- x below y: y is not below x, nor is it x. -/
theorem of_less {x y : List UInt8} (h : Op.bytesLess x y = true) : Op.bytesLess y x = false ∧ (y == x) = false := by
  rw [flip, Bool.not_eq_true', Bool.or_eq_false_iff] at h
  exact h
theorem of_not {x y : List UInt8} (h : Op.bytesLess x y = false) : Op.bytesLess y x = true ∨ (Op.bytesLess y x = false ∧ (y == x) = true) := by
  rw [flip, Bool.not_eq_false', Bool.or_eq_true] at h
  rcases h with h | h
  · exact .inl h
  · cases h2 : Op.bytesLess y x
    · exact .inr ⟨rfl, h⟩
    · exact .inl rfl
end Go.Proofs.Ytiomhmdkaglelaa.Str
namespace Go.Proofs.Ytiomhmdkaglelaa
open Go.RowKit
set_option linter.unusedSimpArgs false
set_option linter.unusedVariables false
open Sp (fold intB textS bs)
attribute [local go_sem] Mem.run_store_float Mem.After.cell
noncomputable def inBB (n : Int) : Bool := @decide (inB n) (Classical.propDecidable _)
theorem inBB_iff {n : Int} : inBB n = true ↔ inB n := by unfold inBB; simp
theorem inBB_no {n : Int} : inBB n = false ↔ ¬ inB n := by unfold inBB; simp
end Go.Proofs.Ytiomhmdkaglelaa
namespace Go.Proofs.Ytiomhmdkaglelaa
open Go.RowKit
set_option linter.unusedSimpArgs false
set_option linter.unusedVariables false
open Sp (fold intB textS bs)
attribute [local go_sem] Mem.run_store_float Mem.After.cell
theorem num_size (n : Nat) (h : n < 18446744073709551616) : (bs (Sp.num n)).size ≤ 9 := by rw [Sp.bs_size]; exact (Sp.num_length n h).2
theorem num_size' (n : Int) (h : n < 18446744073709551616) : (bs (Sp.num n.toNat)).size ≤ 9 := num_size _ (by omega)
theorem int_size (n : Int) (h : IsI64 n) : (bs (intB n)).size ≤ 9 := by have := fold_u64 h; unfold IsU64 at this; exact num_size _ (by omega)
theorem real_size (f : Nat) : (bs (realB f)).size = 8 := by rw [Sp.bs_size]; exact Sp.be_length _ _
theorem text_size (s : ByteArray) (h : s.size ≤ 140737488351232) : (textS s).size ≤ s.size + 9 := by
  have := num_size s.size (by omega)
  unfold textS
  rw [ByteArray.size_append]
  omega
/-- A value's text. -/
def valS (v : Val) : ByteArray := bs (Sp.num v.kind.toNat) ++ (if v.kind = 1 then bs (intB v.n) else if v.kind = 2 then bs (realB v.f) else textS v.s)
theorem val_size (v : Val) (hn : IsI64 v.n) (hm : v.may) : (valS v).size ≤ 100 := by
  unfold Val.may at hm
  have h1 := num_size' v.kind (by omega)
  have h2 := int_size v.n hn
  have h3 := real_size v.f
  have h4 := text_size v.s
  unfold valS
  rw [ByteArray.size_append]
  split
  · omega
  · split
    · omega
    · have := h4 (by omega); omega
set_option maxRecDepth 100000 in
set_option maxHeartbeats 1000000 in
theorem value_any (v : Val) (w : World) (hn : IsI64 v.n) (hm : v.may) :
    Calls Try.prog 58 #[.agg #[.int .i64 v.kind, .int .i64 v.n, .float .f64 v.f, .string v.s]] w fun e w' => e = .returned (.string (valS v)) ∧ Below w.heap.size w w' := by
  obtain ⟨kind, n, f, s⟩ := v
  unfold Val.may at hm
  dsimp only at hn hm ⊢
  have h2 := int_size n hn
  have h3 := real_size f
  have h3' : (bs (realB f)).size ≤ 8 := by omega
  clear h3
  have h4 := text_size s (by omega)
  have hk : kind = 1 ∨ kind = 2 ∨ kind = 3 := by omega
  have hs : s.size ≤ 64 := by omega
  rcases hk with rfl | rfl | rfl
  all_goals
    clear hm
    go_enter Try.func58, Try.ntmps58
    go_wp2_with fail
    refine (Num_any _ _ ⟨by decide, by decide⟩).mono ?_
    rintro _ w1 ⟨rfl, hb1⟩
    have hB := (hb1.block w.heap.size (by simp)).trans (Mem.new _ _)
    have b1 := Mem.cell hB (j := 0) rfl
    have b2 := Mem.cell hB (j := 1) rfl
    have b3 := Mem.cell hB (j := 2) rfl
    have b4 := Mem.cell hB (j := 3) rfl
    have hbel : Below w.heap.size w w1 := ((Below.refl _ _).alloc (Nat.le_refl _) _).trans (hb1.mono (by simp))
    have h9 := num_size 1 (by decide)
    have h9' := num_size 2 (by decide)
    have h9'' := num_size 3 (by decide)
    clear hB hb1
    go_wp2_with (first | (go_at_call 59; refine (Int_any n _ hn).mono ?_; rintro _ w2 ⟨rfl, hb2⟩) | (go_at_call 60; refine (Real_any f _).mono ?_; rintro _ w2 ⟨rfl, hb2⟩) | (go_at_call 57; refine (Text_any s _ (by omega)).mono ?_; rintro _ w2 ⟨rfl, hb2⟩))
    go_ret
    exact ⟨by unfold valS; simp; done, hbel.trans (hb2.mono hbel.size)⟩
end Go.Proofs.Ytiomhmdkaglelaa
