/- Acts that change something, on a disk whose power stays and that has no bound: plain. -/
import Derived.Test.YtpdceondgbgpkaaDoorDskX1
import Derived.Test.YtpdceondgbgpkaaDoorDskW
namespace Go.Proofs.YtpdceondgbgpkaaDoor.Dsk
open Go.RowKit
set_option linter.unusedSimpArgs false
set_option linter.unusedVariables false
def Act.chg (x : Act) : Chg := if x.kind = 0 then .put x.name x.s x.n.toNat else if x.kind = 1 then .trim x.name x.n.toNat else if x.kind = 2 then .move x.name x.s else .drop x.name
/-- An act that can be done on these files. -/
def Can (F : FM) (x : Act) : Prop :=
  if x.kind = 0 then nameP x.name = true ∧ 0 ≤ x.n ∧ x.n ≤ ((F.get x.name).size : Int) ∧ (x.s.size : Int) ≤ 4194304 - x.n
  else if x.kind = 1 then nameP x.name = true ∧ (F x.name).isSome = true ∧ 0 ≤ x.n ∧ x.n ≤ ((F.get x.name).size : Int)
  else if x.kind = 2 then nameP x.s = true ∧ nameP x.name = true ∧ (F x.name).isSome = true
  else nameP x.name = true ∧ (F x.name).isSome = true
structure Still5 (d : Dk) : Prop where
  inv : Dk.Inv d
  up : d.down = false
  aft : d.after = 0
  room : d.room < 0
theorem Still5.lay {d : Dk} (h : Still5 d) (c : Chg) : d.lay c = (0, d.push c) := by
  unfold Dk.lay Dk.trips
  rw [if_pos h.aft, if_neg (by decide)]
theorem Still5.push {d : Dk} (h : Still5 d) {c : Chg} (hc : c.ok d.now) : Still5 (d.push c) := by
  refine ⟨h.inv.push hc, h.up, ?_, h.room⟩
  show (if d.after = 0 then (0 : Int) else _) = 0
  rw [if_pos h.aft]
theorem there_up0 {d : Dk} (h : d.down = false) (f : ByteArray) : (d.there f = 0 ↔ nameP f = true ∧ (d.now f).isSome = true) := by
  unfold Dk.there
  rw [if_neg (by rw [h]; decide)]
  by_cases hn : nameP f = true
  · rw [if_pos hn]
    by_cases hs : (d.now f).isSome = true
    · rw [if_pos hs]; exact ⟨fun _ => ⟨hn, hs⟩, fun _ => rfl⟩
    · rw [if_neg hs]; exact ⟨fun h => absurd h (by decide), fun h => absurd h.2 hs⟩
  · rw [if_neg hn]; exact ⟨fun h => absurd h (by decide), fun h => absurd h.1 hn⟩
theorem Acts.can {d d' : Dk} {x : Act} {e : Int} (hA : Acts d x e d') (hc : Still5 d) (hk : 0 ≤ x.kind ∧ x.kind ≤ 3) : (Can d.now x ∧ e = 0 ∧ d' = d.push x.chg) ∨ (¬ Can d.now x ∧ e ≠ 0 ∧ d' = d) := by
  unfold Acts at hA
  by_cases k0 : x.kind = 0
  · rw [if_pos k0] at hA
    unfold Dk.Puts at hA
    rw [if_neg (by rw [hc.up]; decide)] at hA
    have hbad : d.bad x.name x.n x.s ↔ ¬ Can d.now x := by
      unfold Dk.bad Can
      rw [if_pos k0]
      cases hn : nameP x.name
      · simp
      · simp
        omega
    have hch : x.chg = .put x.name x.s x.n.toNat := by unfold Act.chg; rw [if_pos k0]
    rcases hA with ⟨hb, rfl, rfl⟩ | ⟨hb, ⟨hr, _, _⟩ | hl⟩
    · exact .inr ⟨hbad.1 hb, by decide, rfl⟩
    · exact absurd hc.room (by omega)
    · rw [hc.lay] at hl
      have e1 := congrArg Prod.fst hl
      have e2 := congrArg Prod.snd hl
      dsimp only at e1 e2
      exact .inl ⟨Classical.byContradiction (fun h => hb (hbad.2 h)), e1, by rw [e2, hch]⟩
  rw [if_neg k0] at hA
  by_cases k1 : x.kind = 1
  · rw [if_pos k1] at hA
    have hcan : Can d.now x ↔ d.there x.name = 0 ∧ ¬ (x.n < 0 ∨ ((d.now.get x.name).size : Int) < x.n) := by
      unfold Can
      rw [if_neg k0, if_pos k1, there_up0 hc.up]
      constructor
      · rintro ⟨h1, h2, h3, h4⟩; exact ⟨⟨h1, h2⟩, by omega⟩
      · rintro ⟨⟨h1, h2⟩, h3⟩; exact ⟨h1, h2, by omega, by omega⟩
    have hch : x.chg = .trim x.name x.n.toNat := by unfold Act.chg; rw [if_neg k0, if_pos k1]
    unfold Dk.trim at hA
    split at hA
    · rename_i ht
      cases hA
      exact .inr ⟨fun h => ht (hcan.1 h).1, ht, rfl⟩
    · rename_i ht
      split at hA
      · rename_i hn
        cases hA
        exact .inr ⟨fun h => (hcan.1 h).2 hn, by decide, rfl⟩
      · rename_i hn
        rw [hc.lay] at hA
        have e1 := congrArg Prod.fst hA
        have e2 := congrArg Prod.snd hA
        dsimp only at e1 e2
        exact .inl ⟨hcan.2 ⟨Classical.byContradiction (fun h => ht h), hn⟩, e1, by rw [e2, hch]⟩
  rw [if_neg k1] at hA
  by_cases k2 : x.kind = 2
  · rw [if_pos k2] at hA
    have hcan : Can d.now x ↔ nameP x.s = true ∧ d.there x.name = 0 := by
      unfold Can
      rw [if_neg k0, if_neg k1, if_pos k2, there_up0 hc.up]
    have hch : x.chg = .move x.name x.s := by unfold Act.chg; rw [if_neg k0, if_neg k1, if_pos k2]
    unfold Dk.move at hA
    split at hA
    · rename_i hn
      cases hA
      exact .inr ⟨fun h => by rw [(hcan.1 h).1] at hn; exact absurd hn.2 (by decide), by decide, rfl⟩
    · rename_i hn
      split at hA
      · rename_i ht
        cases hA
        exact .inr ⟨fun h => ht (hcan.1 h).2, ht, rfl⟩
      · rename_i ht
        rw [hc.lay] at hA
        have e1 := congrArg Prod.fst hA
        have e2 := congrArg Prod.snd hA
        dsimp only at e1 e2
        refine .inl ⟨hcan.2 ⟨?_, Classical.byContradiction (fun h => ht h)⟩, e1, by rw [e2, hch]⟩
        cases hs : nameP x.s
        · exact absurd ⟨hc.up, hs⟩ hn
        · rfl
  rw [if_neg k2, if_pos (by omega)] at hA
  have hcan : Can d.now x ↔ d.there x.name = 0 := by
    unfold Can
    rw [if_neg k0, if_neg k1, if_neg k2, there_up0 hc.up]
  have hch : x.chg = .drop x.name := by unfold Act.chg; rw [if_neg k0, if_neg k1, if_neg k2]
  unfold Dk.drop at hA
  split at hA
  · rename_i ht
    cases hA
    exact .inr ⟨fun h => ht (hcan.1 h), ht, rfl⟩
  · rename_i ht
    rw [hc.lay] at hA
    have e1 := congrArg Prod.fst hA
    have e2 := congrArg Prod.snd hA
    dsimp only at e1 e2
    exact .inl ⟨hcan.2 (Classical.byContradiction (fun h => ht h)), e1, by rw [e2, hch]⟩
theorem Can.ok {F : FM} {x : Act} (h : Can F x) (hf : x.fit) : x.chg.ok F := by
  unfold Can at h
  unfold Act.chg
  split at h
  · rename_i k0
    rw [if_pos k0]
    exact ⟨hf.f0, by omega, by omega⟩
  · rename_i k0
    rw [if_neg k0]
    split at h
    · rename_i k1
      rw [if_pos k1]
      exact ⟨hf.f0, by omega⟩
    · rename_i k1
      rw [if_neg k1]
      split at h
      · rename_i k2
        rw [if_pos k2]
        exact ⟨hf.f0, hf.s0⟩
      · rename_i k2
        rw [if_neg k2]
        exact hf.f0
theorem Can.nc {F : FM} {x : Act} (h : Can F x) : NC x.chg := by
  unfold Can at h
  unfold Act.chg
  split at h
  · rename_i k0
    rw [if_pos k0]; exact h.1
  · rename_i k0
    rw [if_neg k0]
    split at h
    · rename_i k1
      rw [if_pos k1]; exact h.1
    · rename_i k1
      rw [if_neg k1]
      split at h
      · rename_i k2
        rw [if_pos k2]; exact h.1
      · rename_i k2
        rw [if_neg k2]; trivial
/-- Acts, each of which can be done behind those ahead of it. -/
def CanAll (l : List Act) : Prop := ∀ i x, l[i]? = some x → Can (play (fun _ => none) ((l.take i).map Act.chg)) x
theorem canAll_nil : CanAll [] := fun i x h => by simp at h
theorem CanAll.snoc {l : List Act} {x : Act} (h : CanAll l) (hx : Can (play (fun _ => none) (l.map Act.chg)) x) : CanAll (l ++ [x]) := fun i y hy => by
  by_cases hi : i < l.length
  · rw [List.getElem?_append_left hi] at hy
    rw [List.take_append_of_le_length (by omega)]
    exact h i y hy
  · rw [List.getElem?_append_right (by omega)] at hy
    have hi0 : i - l.length = 0 := by
      rcases Nat.eq_zero_or_pos (i - l.length) with h0 | h0
      · exact h0
      · rw [List.getElem?_eq_none (by rw [List.length_singleton]; omega)] at hy; cases hy
    rw [hi0] at hy
    have e : x = y := by simpa using hy
    subst e
    have hil : i = l.length := by omega
    subst hil
    rw [List.take_left']
    · exact hx
    · rfl
theorem CanAll.nc {l : List Act} (h : CanAll l) : ∀ c ∈ l.map Act.chg, NC c := fun c hc => by
  obtain ⟨x, hx, rfl⟩ := List.mem_map.1 hc
  obtain ⟨i, hi⟩ := List.getElem?_of_mem hx
  exact (h i x hi).nc
theorem CanAll.nv {l : List Act} (h : CanAll l) (i : Nat) : NV (play (fun _ => none) ((l.take i).map Act.chg)) :=
  nv_none.play _ (fun c hc => by
    obtain ⟨x, hx, rfl⟩ := List.mem_map.1 hc
    exact h.nc _ (List.mem_map.2 ⟨x, List.mem_of_mem_take hx, rfl⟩))
/-- The row of small acts costs less than 200,000. -/
theorem cost_small : ∀ (l : List Act), (∀ x ∈ l, x.s.size ≤ 3000) → ((l.map Act.chg).map Chg.cost).sum ≤ l.length * 3001
  | [], _ => Nat.zero_le _
  | x :: l, h => by
    rw [List.map_cons, List.map_cons, List.sum_cons, List.length_cons, Nat.add_mul]
    have h1 := cost_small l (fun y hy => h y (List.mem_cons_of_mem _ hy))
    have h2 := h x List.mem_cons_self
    have h3 : x.chg.cost ≤ 3001 := by
      unfold Act.chg
      split
      · show 1 + x.s.size ≤ 3001; omega
      · split
        · show 1 ≤ 3001; omega
        · split
          · show 1 ≤ 3001; omega
          · show 1 ≤ 3001; omega
    omega
theorem fits_all {l : List Act} (h : ∀ x ∈ l, x.s.size ≤ 3000) (hn : l.length ≤ 30) {k : Int} (hk : 200000 < k) : fallen (fun _ => none) (l.map Act.chg) k = play (fun _ => none) (l.map Act.chg) := by
  refine fallen_all _ _ _ ?_
  have := cost_small l h
  omega
end Go.Proofs.YtpdceondgbgpkaaDoor.Dsk
