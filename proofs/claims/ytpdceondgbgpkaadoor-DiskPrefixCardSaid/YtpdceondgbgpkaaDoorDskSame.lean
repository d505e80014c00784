/- The document's Same: are these the same files? -/
import Derived.Test.YtpdceondgbgpkaaDoorFlat
import Derived.Test.YtpdceondgbgpkaaDoorDskFc
namespace Go.Proofs.YtpdceondgbgpkaaDoor.Dsk
open Go.RowKit
set_option linter.unusedSimpArgs false
set_option linter.unusedVariables false
set_option maxRecDepth 100000 in
set_option maxHeartbeats 4000000 in
theorem Same_any (a b : List (ByteArray × ByteArray)) (va vb : Value) (ok1 ok2 : Nat → Prop) (w : World) (ha : Mem.Rd w ok1 2 va (a.map fc)) (hb : Mem.Rd w ok2 2 vb (b.map fc)) :
    Calls Tryd.prog 12 #[va, vb] w fun r w' => r = .returned (.bool (decide (a = b))) ∧ Below w.heap.size w w' := by
  obtain ⟨A1, c1, rfl⟩ := ha.slice
  obtain ⟨A2, c2, rfl⟩ := hb.slice
  have l1 : (a.map fc).length = a.length := List.length_map _
  have l2 : (b.map fc).length = b.length := List.length_map _
  rw [l1] at ha ⊢
  rw [l2] at hb ⊢
  have m1 := ha.len
  have m2 := hb.len
  rw [l1] at m1
  rw [l2] at m2
  have HA := Lib.hid ha
  have HB := Lib.hid hb
  clear ha hb l1 l2
  generalize hR : decide (a = b) = R
  have HR := Lib.hid hR
  clear hR
  by_cases hl : a.length = b.length
  · have hl' : (a.length : Int) = (b.length : Int) := by omega
    go_enter Tryd.func12, Tryd.ntmps12
    go_wp2_with fail
    go_loopw [5] (fun i wr => ∃ j : Nat, j ≤ a.length ∧ i = .int .i64 (j : Int) ∧ a.take j = b.take j ∧ Below w.heap.size w wr) (fun i _ => a.length - (intOf i).toNat)
    case atStart => exact ⟨0, Nat.zero_le _, rfl, rfl, Below.refl _ _⟩
    case round =>
      obtain ⟨j, hj, rfl, htk, hbel⟩ := hrel
      by_cases hlt : j < a.length
      · have hlt' : (j : Int) < (a.length : Int) := by omega
        have hlt2 : (j : Int) < (b.length : Int) := by omega
        have hkw : wrap64 ((j : Int) + 1) = (j : Int) + 1 := by unfold wrap64; omega
        obtain ⟨⟨s1, t1⟩, hx⟩ : ∃ x, a[j]? = some x := ⟨_, List.getElem?_eq_getElem hlt⟩
        obtain ⟨⟨s2, t2⟩, hy⟩ : ∃ y, b[j]? = some y := ⟨_, List.getElem?_eq_getElem (by omega : j < b.length)⟩
        obtain ⟨g1, o1, rfl, hg1, hgl1, hr1⟩ := (HA.out.below hbel).row (k := j) (r := fc (s1, t1)) (by rw [List.getElem?_map, hx]; rfl)
        obtain ⟨g2, o2, rfl, hg2, hgl2, hr2⟩ := (HB.out.below hbel).row (k := j) (r := fc (s2, t2)) (by rw [List.getElem?_map, hy]; rfl)
        have c10 : wr.cell? ⟨g1, o1 + j * 2, none⟩ = some (.string s1) := hr1 0 _ rfl
        have c11 : wr.cell? ⟨g1, o1 + j * 2 + 1, none⟩ = some (.string t1) := hr1 1 _ rfl
        have c20 : wr.cell? ⟨g2, o2 + j * 2, none⟩ = some (.string s2) := hr2 0 _ rfl
        have c21 : wr.cell? ⟨g2, o2 + j * 2 + 1, none⟩ = some (.string t2) := hr2 1 _ rfl
        clear hr1 hr2
        have HT := Lib.hid (And.intro htk (And.intro hx hy))
        clear htk hx hy
        by_cases e1 : s1 = s2
        · by_cases e2 : t1 = t2
          · subst e1 e2
            go_wp2_with fail
            go_quiet (fail)
            go_wp2_with fail
            go_roundw
            case rel =>
              refine ⟨j + 1, hlt, by go_num, ?_, ?_⟩
              · obtain ⟨h1, h2, h3⟩ := HT.out
                rw [List.take_add_one, List.take_add_one, h1, h2, h3]
              · first | exact hbel | exact Mem.bdrewN hbel _
            case measure => first | exact measS hlt | (rw [hkw]; exact measS hlt)
          · have e2' := toList_ne e2
            subst e1
            go_wp2_with fail
            go_quiet (fail)
            go_wp2_with fail
            go_ret
            refine ⟨?_, ?_⟩
            · have hRf : R = false := by
                rw [← HR.out]
                refine decide_eq_false (fun e => ?_)
                obtain ⟨h1, h2, h3⟩ := HT.out
                rw [e, h3] at h2
                exact e2 (by injection h2 with h2; injection h2 with h2 h4; exact h4.symm)
              rw [hRf]
              rfl
            · first | exact hbel | exact Mem.bdrewN hbel _
        · have e1' := toList_ne e1
          go_wp2_with fail
          go_quiet (fail)
          go_wp2_with fail
          go_ret
          refine ⟨?_, ?_⟩
          · have hRf : R = false := by
              rw [← HR.out]
              refine decide_eq_false (fun e => ?_)
              obtain ⟨h1, h2, h3⟩ := HT.out
              rw [e, h3] at h2
              exact e1 (by injection h2 with h2; injection h2 with h2 h4; exact h2.symm)
            rw [hRf]
            rfl
          · first | exact hbel | exact Mem.bdrewN hbel _
      · have hge : ¬ (j : Int) < (a.length : Int) := by omega
        go_wp2_with fail
        go_ret
        refine ⟨?_, hbel⟩
        rw [List.take_of_length_le (by omega), List.take_of_length_le (by omega)] at htk
        have hRt : R = true := by rw [← HR.out]; exact decide_eq_true htk
        rw [hRt]
        rfl
  · have hl' : ¬ (a.length : Int) = (b.length : Int) := by omega
    go_enter Tryd.func12, Tryd.ntmps12
    go_wp2_with fail
    go_ret
    refine ⟨?_, Below.refl _ _⟩
    have hRf : R = false := by rw [← HR.out]; exact decide_eq_false (fun e => hl (by rw [e]))
    rw [hRf]
    try rfl
end Go.Proofs.YtpdceondgbgpkaaDoor.Dsk
