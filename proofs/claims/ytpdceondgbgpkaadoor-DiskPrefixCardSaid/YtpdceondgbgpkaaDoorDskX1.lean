/- DiskPrefix, plain: files set in their places; what a loss of power leaves. -/
import Derived.Test.YtpdceondgbgpkaaDoorRDo3
import Derived.Test.YtpdceondgbgpkaaDoorDskSm
namespace Go.Proofs.YtpdceondgbgpkaaDoor.Dsk
open Go.RowKit
set_option linter.unusedSimpArgs false
set_option linter.unusedVariables false
def pairsF (F : FM) (l : List ByteArray) : Fl := l.map (fun s => (s, F.get s))
theorem mem_insP {f : ByteArray × ByteArray} : ∀ (l : Fl) (y : ByteArray × ByteArray), y ∈ insP f l ↔ y = f ∨ y ∈ l
  | [], y => by unfold insP; simp
  | x :: l, y => by
    unfold insP
    split
    · simp
    · rw [List.mem_cons, mem_insP l y, List.mem_cons]
      constructor
      · rintro (h | h | h)
        · exact .inr (.inl h)
        · exact .inl h
        · exact .inr (.inr h)
      · rintro (h | h | h)
        · exact .inr (.inl h)
        · exact .inl h
        · exact .inr (.inr h)
theorem ltN_trans {a b c : ByteArray} (h : ltN a b) (h' : ltN b c) : ltN a c := List.lt_trans h h'
theorem ltN_irr {a : ByteArray} (h : ltN a a) : False := List.lt_irrefl _ h
theorem ltN_tri {a b : ByteArray} (h : ¬ ltN a b) (hne : b ≠ a) : ltN b a := by
  unfold ltN at *
  refine Classical.byContradiction (fun hn => hne ?_)
  exact ByteArray.ext (Array.toList_inj.1 (List.le_antisymm (List.not_lt.1 h) (List.not_lt.1 hn)))
theorem insP_up {f : ByteArray × ByteArray} : ∀ (l : Fl), l.Pairwise (fun x y => ltN x.1 y.1) → (∀ x ∈ l, x.1 ≠ f.1) → (insP f l).Pairwise (fun x y => ltN x.1 y.1)
  | [], _, _ => List.pairwise_singleton _ _
  | x :: l, hp, hn => by
    obtain ⟨h1, h2⟩ := List.pairwise_cons.1 hp
    unfold insP
    split
    · rename_i hlt
      refine List.pairwise_cons.2 ⟨fun y hy => ?_, hp⟩
      rcases List.mem_cons.1 hy with rfl | hy
      · exact hlt
      · exact ltN_trans hlt (h1 y hy)
    · rename_i hlt
      refine List.pairwise_cons.2 ⟨fun y hy => ?_, insP_up l h2 (fun z hz => hn z (List.mem_cons_of_mem _ hz))⟩
      rcases (mem_insP l y).1 hy with rfl | hy
      · exact ltN_tri hlt (hn x List.mem_cons_self)
      · exact h1 y hy
theorem pairs_up {F : FM} {l : List ByteArray} (h : l.Pairwise (fun a b => a.data.toList < b.data.toList)) : (pairsF F l).Pairwise (fun x y => ltN x.1 y.1) := List.pairwise_map.2 h
/-- A file put in its place among the files of F: those behind the put. -/
theorem ins_pairs {F : FM} {l l' : List ByteArray} {n t : ByteArray} (hl : NamesOf F l) (hl' : NamesOf (F.set n t) l') : insP (n, t) (woP (pairsF F l) n) = pairsF (F.set n t) l' := by
  have hm : ∀ y, y ∈ insP (n, t) (woP (pairsF F l) n) ↔ y = (n, t) ∨ (y.1 ∈ l ∧ y.2 = F.get y.1 ∧ y.1 ≠ n) := fun y => by
    rw [mem_insP]
    unfold woP pairsF
    rw [List.mem_filter, List.mem_map]
    constructor
    · rintro (h | ⟨⟨s, hs, rfl⟩, h⟩)
      · exact .inl h
      · exact .inr ⟨hs, rfl, of_decide_eq_true h⟩
    · rintro (h | ⟨h1, h2, h3⟩)
      · exact .inl h
      · exact .inr ⟨⟨y.1, h1, by rw [← h2]⟩, decide_eq_true h3⟩
  have hup := insP_up (f := (n, t)) (woP (pairsF F l) n) ((pairs_up hl.up).filter _) (woP_no _ _)
  have hnames : NamesOf (F.set n t) ((insP (n, t) (woP (pairsF F l) n)).map Prod.fst) := by
    refine ⟨fun s => ?_, List.pairwise_map.2 hup⟩
    rw [List.mem_map]
    constructor
    · rintro ⟨y, hy, rfl⟩
      rcases (hm y).1 hy with rfl | ⟨h1, h2, h3⟩
      · show ((F.set n t) n).isSome = true
        rw [FM.set_same]; rfl
      · rw [FM.set_other _ _ h3]
        exact (hl.mem y.1).1 h1
    · intro hs
      by_cases e : s = n
      · exact ⟨(n, t), (hm _).2 (.inl rfl), e.symm⟩
      · rw [FM.set_other _ _ e] at hs
        exact ⟨(s, F.get s), (hm _).2 (.inr ⟨(hl.mem s).2 hs, rfl, e⟩), rfl⟩
  have he := hnames.one hl'
  unfold pairsF
  rw [← he, List.map_map]
  refine (List.map_id _).symm.trans (List.map_congr_left (fun y hy => ?_))
  show y = (y.1, (F.set n t).get y.1)
  rcases (hm y).1 hy with rfl | ⟨h1, h2, h3⟩
  · show (n, t) = (n, (F.set n t).get n)
    rw [FM.get_set_same]
  · rw [FM.get_set_other _ _ h3, ← h2]
/-- What a loss of power leaves: the files behind a beginning of the row; or, behind it, a put of which some first bytes alone are there. -/
theorem fallen_is : ∀ (F : FM) (l : List Chg) (k : Int), (∃ i, i ≤ l.length ∧ fallen F l k = play F (l.take i)) ∨ (∃ i n s a m, l[i]? = some (.put n s a) ∧ m < s.size ∧ fallen F l k = (Chg.put n (s.extract 0 m) a).does (play F (l.take i)))
  | F, [], k => .inl ⟨0, Nat.le_refl _, rfl⟩
  | F, c :: l, k => by
    by_cases hk : (c.cost : Int) ≤ k
    · rw [fallen_le hk]
      rcases fallen_is (c.does F) l (k - c.cost) with ⟨i, hi, e⟩ | ⟨i, n, s, a, m, hi, hm, e⟩
      · exact .inl ⟨i + 1, by simpa using hi, e⟩
      · exact .inr ⟨i + 1, n, s, a, m, by simpa using hi, hm, e⟩
    · cases c with
      | put n s a =>
        rw [fallen_put (by simpa [Chg.cost] using hk)]
        have hk' : ¬ 1 + (s.size : Int) ≤ k := by simpa [Chg.cost] using hk
        split
        · exact .inr ⟨0, n, s, a, (k - 1).toNat, rfl, by omega, rfl⟩
        · exact .inl ⟨0, Nat.zero_le _, rfl⟩
      | _ =>
        rw [fallen_other (by intro _ _ _ e; cases e) hk]
        exact .inl ⟨0, Nat.zero_le _, rfl⟩
theorem fallen_all : ∀ (F : FM) (l : List Chg) (k : Int), ((l.map Chg.cost).sum : Int) ≤ k → fallen F l k = play F l
  | F, [], k, _ => rfl
  | F, c :: l, k, h => by
    rw [List.map_cons, List.sum_cons] at h
    rw [fallen_le (by omega), fallen_all (c.does F) l (k - c.cost) (by omega)]
    rfl
/-- All names may be. -/
def NV (F : FM) : Prop := ∀ s, (F s).isSome = true → nameP s = true
/-- The names that a change makes may be. -/
def NC : Chg → Prop
  | .put n _ _ => nameP n = true
  | .trim n _ => nameP n = true
  | .move _ t => nameP t = true
  | .drop _ => True
theorem NV.set {F : FM} (h : NV F) {n t : ByteArray} (hn : nameP n = true) : NV (F.set n t) := fun s hs => by
  by_cases e : s = n
  · rw [e]; exact hn
  · rw [FM.set_other _ _ e] at hs; exact h s hs
theorem NV.del {F : FM} (h : NV F) {n : ByteArray} : NV (F.del n) := fun s hs => by
  by_cases e : s = n
  · rw [e] at hs
    unfold FM.del at hs
    rw [if_pos rfl] at hs
    cases hs
  · rw [FM.del_other _ e] at hs; exact h s hs
theorem NV.does {F : FM} (h : NV F) {c : Chg} (hc : NC c) : NV (c.does F) := by
  cases c with
  | put n s a => exact h.set hc
  | trim n k => exact h.set hc
  | move n t => exact h.del.set hc
  | drop n => exact h.del
theorem NV.play : ∀ {F : FM} (l : List Chg), NV F → (∀ c ∈ l, NC c) → NV (play F l)
  | F, [], h, _ => h
  | F, c :: l, h, hc => NV.play l (h.does (hc c List.mem_cons_self)) (fun x hx => hc x (List.mem_cons_of_mem _ hx))
theorem nv_none : NV (fun _ => none) := fun s hs => by cases hs
/-- A disk's files are those of its names. -/
theorem pairs_eq {d : Dk} {l : List ByteArray} (hl : NamesOf d.now l) (hd : d.down = false) (hv : NV d.now) : d.pairs l = pairsF d.now l := by
  unfold Dk.pairs pairsF
  refine List.map_congr_left (fun s hs => ?_)
  have hs' := (hl.mem s).1 hs
  have : d.there s = 0 := by
    unfold Dk.there
    rw [if_neg (by rw [hd]; decide), if_pos (hv s hs'), if_pos hs']
  unfold Dk.fileS
  rw [this, if_neg (by decide)]
end Go.Proofs.YtpdceondgbgpkaaDoor.Dsk
