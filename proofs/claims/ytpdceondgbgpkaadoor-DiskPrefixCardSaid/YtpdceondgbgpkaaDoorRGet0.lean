/- The document's Get: a file's bytes. -/
import Derived.Test.YtpdceondgbgpkaaDoorDskFc
import Derived.Test.YtpdceondgbgpkaaDoorFlat
namespace Go.Proofs.YtpdceondgbgpkaaDoor
open Go.RowKit
set_option linter.unusedSimpArgs false
set_option linter.unusedVariables false
open Dsk (fc)
/-- The first file of a name. -/
def look (k : ByteArray) : List (ByteArray × ByteArray) → Option ByteArray
  | [] => none
  | x :: l => if x.1 = k then some x.2 else look k l
theorem look_hit {k s : ByteArray} : ∀ (l : List (ByteArray × ByteArray)) (j : Nat), (∀ x ∈ l.take j, x.1 ≠ k) → l[j]? = some (k, s) → look k l = some s
  | [], j, _, h => by simp at h
  | x :: l, 0, _, h => by
    have e : x = (k, s) := by simpa using h
    subst e
    unfold look
    rw [if_pos rfl]
  | x :: l, j + 1, hn, h => by
    unfold look
    rw [if_neg (hn x (by simp)), look_hit l j (fun y hy => hn y (by rw [List.take_succ_cons]; exact List.mem_cons_of_mem _ hy)) (by simpa using h)]
theorem look_miss {k : ByteArray} : ∀ (l : List (ByteArray × ByteArray)), (∀ x ∈ l, x.1 ≠ k) → look k l = none
  | [], _ => rfl
  | x :: l, hn => by
    unfold look
    rw [if_neg (hn x List.mem_cons_self), look_miss l (fun y hy => hn y (List.mem_cons_of_mem _ hy))]
set_option maxRecDepth 100000 in
set_option maxHeartbeats 4000000 in
theorem rget_any (fl : List (ByteArray × ByteArray)) (k : ByteArray) (v : Value) (ok : Nat → Prop) (w : World) (h : Mem.Rd w ok 2 v (fl.map fc)) :
    Calls Tryd.prog 28 #[v, .string k] w fun r w' => r = .returned (.tuple #[.string ((look k fl).getD ⟨#[]⟩), .bool (look k fl).isSome]) ∧ Below w.heap.size w w' := by
  obtain ⟨A1, c1, rfl⟩ := h.slice
  have l1 : (fl.map fc).length = fl.length := List.length_map _
  rw [l1] at h ⊢
  have m1 := h.len
  rw [l1] at m1
  have HA := Lib.hid h
  clear h l1
  generalize hR : look k fl = R
  have HR := Lib.hid hR
  clear hR
  go_enter Tryd.func28, Tryd.ntmps28
  go_wp2_with fail
  go_loopw [6] (fun i wr => ∃ j : Nat, j ≤ fl.length ∧ i = .int .i64 (j : Int) ∧ (∀ x ∈ fl.take j, x.1 ≠ k) ∧ Below w.heap.size w wr) (fun i _ => fl.length - (intOf i).toNat)
  case atStart => exact ⟨0, Nat.zero_le _, rfl, (fun x hx => by simp at hx), Below.refl _ _⟩
  case round =>
    obtain ⟨j, hj, rfl, hno, hbel⟩ := hrel
    by_cases hlt : j < fl.length
    · have hlt' : (j : Int) < (fl.length : Int) := by omega
      obtain ⟨⟨s1, t1⟩, hx⟩ : ∃ x, fl[j]? = some x := ⟨_, List.getElem?_eq_getElem hlt⟩
      obtain ⟨g1, o1, rfl, hg1, hgl1, hr1⟩ := (HA.out.below hbel).row (k := j) (r := fc (s1, t1)) (by rw [List.getElem?_map, hx]; rfl)
      have c10 : wr.cell? ⟨g1, o1 + j * 2, none⟩ = some (.string s1) := hr1 0 _ rfl
      have c11 : wr.cell? ⟨g1, o1 + j * 2 + 1, none⟩ = some (.string t1) := hr1 1 _ rfl
      have HT := Lib.hid (And.intro hno hx)
      have HK := Lib.hid (show wrap64 ((j : Int) + 1) = (j : Int) + 1 by unfold wrap64; omega)
      clear hr1 hno hx
      by_cases e1 : s1 = k
      · subst e1
        go_wp2_with fail
        go_ret2
        have e2 : R = some t1 := by rw [← HR.out]; exact look_hit fl j HT.out.1 HT.out.2
        rw [e2]
        exact ⟨rfl, hbel⟩
      · have e1' : (s1.toList == k.toList) = false := by simpa using Dsk.toList_ne e1
        go_wp2_with fail
        go_roundw
        case rel =>
          refine ⟨j + 1, hlt, by go_num, fun x hx => ?_, hbel⟩
          rw [List.take_add_one, HT.out.2] at hx
          rcases List.mem_append.1 hx with hx | hx
          · exact HT.out.1 x hx
          · have e3 : x = (s1, t1) := by simpa using hx
            rw [e3]
            exact e1
        case measure => first | exact Dsk.measS hlt | (rw [HK.out]; exact Dsk.measS hlt)
    · have hge : ¬ (j : Int) < (fl.length : Int) := by omega
      have e2 : R = none := by
        rw [← HR.out]
        refine look_miss fl (fun x hx => ?_)
        rw [List.take_of_length_le (by omega)] at hno
        exact hno x hx
      go_wp2_with fail
      go_ret2
      exact ⟨rfl, hbel⟩
end Go.Proofs.YtpdceondgbgpkaaDoor
