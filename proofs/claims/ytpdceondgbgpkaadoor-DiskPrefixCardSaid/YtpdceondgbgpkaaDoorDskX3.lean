/- DiskPrefix, plain: what was not met. -/
import Derived.Test.YtpdceondgbgpkaaDoorDskX2
namespace Go.Proofs.YtpdceondgbgpkaaDoor.Dsk
open Go.RowKit
set_option linter.unusedVariables false
/-- The files behind the first i acts. -/
def St (l : List Act) (i : Nat) : FM := play (fun _ => none) ((l.take i).map Act.chg)
theorem St_zero (l : List Act) : St l 0 = fun _ => none := rfl
theorem St_all (l : List Act) : St l l.length = play (fun _ => none) (l.map Act.chg) := by unfold St; rw [List.take_length]
theorem St_next {l : List Act} {i : Nat} {x : Act} (h : l[i]? = some x) : St l (i + 1) = x.chg.does (St l i) := by
  unfold St
  rw [List.take_add_one, h, List.map_append]
  exact play_snoc _ _ _
/-- The files behind the first i acts, and some bytes of the next. -/
def Torn (l : List Act) (i : Nat) (x : Act) (m : Nat) : FM := (Chg.put x.name (x.s.extract 0 m) x.n.toNat).does (St l i)
/-- Up to the i-th act what is there was not met. -/
def Miss (l : List Act) (G : FM) (i : Nat) : Prop := ∀ j x, j < i → l[j]? = some x → (x.kind = 0 → ∀ m, m < x.s.size → G ≠ Torn l j x m) ∧ G ≠ St l (j + 1)
theorem miss_zero (l : List Act) (G : FM) : Miss l G 0 := fun j x h => absurd h (Nat.not_lt_zero j)
theorem Miss.next {l : List Act} {G : FM} {i : Nat} {x : Act} (h : Miss l G i) (hx : l[i]? = some x) (h1 : x.kind = 0 → ∀ m, m < x.s.size → G ≠ Torn l i x m) (h2 : G ≠ St l (i + 1)) : Miss l G (i + 1) := fun j y hj hy => by
  by_cases e : j = i
  · subst e
    rw [hx] at hy
    obtain rfl : x = y := by injection hy
    exact ⟨h1, h2⟩
  · exact h j y (by omega) hy
theorem chg_put {x : Act} {n s : ByteArray} {a : Nat} (h : x.chg = .put n s a) : x.kind = 0 ∧ x.name = n ∧ x.s = s ∧ x.n.toNat = a := by
  unfold Act.chg at h
  split at h
  · rename_i k0
    injection h with h1 h2 h3
    exact ⟨k0, h1, h2, h3⟩
  · split at h
    · cases h
    · split at h
      · cases h
      · cases h
theorem Miss.never {l : List Act} {k : Int} {G : FM} (hG : G = fallen (fun _ => none) (l.map Act.chg) k) (h0 : G ≠ fun _ => none) (h : Miss l G l.length) : False := by
  rcases fallen_is (fun _ => none) (l.map Act.chg) k with ⟨i, hi, e⟩ | ⟨i, n, s, a, m, hi, hm, e⟩
  · rw [List.length_map] at hi
    rw [← hG] at e
    cases i with
    | zero => exact h0 e
    | succ i =>
      have hlt : i < l.length := by omega
      refine (h i l[i] hlt (List.getElem?_eq_getElem hlt)).2 ?_
      rw [e]
      unfold St
      rw [List.map_take]
  · rw [← hG] at e
    rw [List.getElem?_map] at hi
    obtain ⟨x, hx, hc⟩ := Option.map_eq_some_iff.1 hi
    obtain ⟨k0, rfl, rfl, rfl⟩ := chg_put hc
    have hlt : i < l.length := (List.getElem?_eq_some_iff.1 hx).1
    refine (h i x hlt hx).1 k0 m hm ?_
    rw [e]
    unfold Torn St
    rw [List.map_take]
end Go.Proofs.YtpdceondgbgpkaaDoor.Dsk
