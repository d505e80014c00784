/- A disk, plain: files as a function from names; a row of changes; no program. -/
import Derived.Maps.Views
import Derived.RowKit
namespace Go.Proofs.YtpdceondgbgpkaaDoor.Dsk
open Go.Maps Go.RowKit
abbrev FM := ByteArray → Option ByteArray
namespace FM
def get (F : FM) (s : ByteArray) : ByteArray := (F s).getD ⟨#[]⟩
def set (F : FM) (k v : ByteArray) : FM := fun s => if s = k then some v else F s
def del (F : FM) (k : ByteArray) : FM := fun s => if s = k then none else F s
theorem get_set (F : FM) (k v s : ByteArray) : (F.set k v).get s = if s = k then v else F.get s := by
  unfold get set
  split <;> rfl
theorem get_set_same (F : FM) (k v : ByteArray) : (F.set k v).get k = v := by simp [get_set]
theorem get_set_other (F : FM) {k s : ByteArray} (v : ByteArray) (h : s ≠ k) : (F.set k v).get s = F.get s := by simp [get_set, h]
theorem set_other (F : FM) {k s : ByteArray} (v : ByteArray) (h : s ≠ k) : (F.set k v) s = F s := by simp [set, h]
theorem set_same (F : FM) (k v : ByteArray) : (F.set k v) k = some v := by simp [set]
theorem del_other (F : FM) {k s : ByteArray} (h : s ≠ k) : (F.del k) s = F s := by simp [del, h]
end FM
/-- One of the changes of a disk. -/
inductive Chg
  | put (n s : ByteArray) (a : Nat)
  | trim (n : ByteArray) (k : Nat)
  | move (n t : ByteArray)
  | drop (n : ByteArray)
def splice (old s : ByteArray) (a : Nat) : ByteArray := old.extract 0 a ++ s ++ (if a + s.size < old.size then old.extract (a + s.size) old.size else ⟨#[]⟩)
namespace Chg
def cost : Chg → Nat
  | put _ s _ => 1 + s.size
  | _ => 1
theorem cost_pos (c : Chg) : 1 ≤ c.cost := by cases c <;> simp [cost]
/-- A change that may be done. -/
def ok (F : FM) : Chg → Prop
  | put n s a => n.size ≤ maxLen ∧ a ≤ (F.get n).size ∧ a + s.size ≤ 1099511627776
  | trim n k => n.size ≤ maxLen ∧ k ≤ (F.get n).size
  | move n t => n.size ≤ maxLen ∧ t.size ≤ maxLen
  | drop n => n.size ≤ maxLen
def does (F : FM) : Chg → FM
  | put n s a => F.set n (splice (F.get n) s a)
  | trim n k => F.set n ((F.get n).extract 0 k)
  | move n t => (F.del n).set t (F.get n)
  | drop n => F.del n
/-- A change that leaves the file of this name alone. -/
def spares (K : ByteArray) : Chg → Prop
  | put n _ _ => n ≠ K
  | trim n _ => n ≠ K
  | move n t => n ≠ K ∧ t ≠ K
  | drop n => n ≠ K
theorem does_spares {F : FM} {K : ByteArray} {c : Chg} (h : c.spares K) : c.does F K = F K := by
  cases c with
  | put n s a => exact FM.set_other _ _ (Ne.symm h)
  | trim n k => exact FM.set_other _ _ (Ne.symm h)
  | move n t => exact (FM.set_other _ _ (Ne.symm h.2)).trans (FM.del_other _ (Ne.symm h.1))
  | drop n => exact FM.del_other _ (Ne.symm h)
end Chg
theorem splice_size (old s : ByteArray) (a : Nat) (h : a ≤ old.size) : (splice old s a).size = max old.size (a + s.size) := by
  unfold splice
  rw [ByteArray.size_append, ByteArray.size_append, ByteArray.size_extract]
  split
  · rw [ByteArray.size_extract]; omega
  · show _ + 0 = _
    omega
/-- A row of changes, each of which may be done behind those ahead of it. -/
def Valid : FM → List Chg → Prop
  | _, [] => True
  | F, c :: l => c.ok F ∧ Valid (c.does F) l
def play (F : FM) (l : List Chg) : FM := l.foldl (fun F c => c.does F) F
theorem play_snoc (F : FM) (l : List Chg) (c : Chg) : play F (l ++ [c]) = c.does (play F l) := by simp [play, List.foldl_append]
theorem valid_snoc : ∀ (F : FM) (l : List Chg) (c : Chg), Valid F l → c.ok (play F l) → Valid F (l ++ [c])
  | _, [], _, _, h => ⟨h, trivial⟩
  | F, d :: l, c, hv, h => ⟨hv.1, valid_snoc (d.does F) l c hv.2 h⟩
theorem play_spares {K : ByteArray} : ∀ (F : FM) (l : List Chg), (∀ c ∈ l, c.spares K) → play F l K = F K
  | _, [], _ => rfl
  | F, c :: l, h => by
    show play (c.does F) l K = _
    rw [play_spares (c.does F) l (fun x hx => h x (List.mem_cons_of_mem _ hx)), Chg.does_spares (h c List.mem_cons_self)]
/-- What is left of a row behind a loss of power, k bytes and heads of which are kept. -/
def fallen : FM → List Chg → Int → FM
  | F, [], _ => F
  | F, c :: l, k => if (c.cost : Int) ≤ k then fallen (c.does F) l (k - c.cost) else
    match c with
    | .put n s a => if 0 < k then (Chg.put n (s.extract 0 (k - 1).toNat) a).does F else F
    | _ => F
theorem fallen_le {F : FM} {c : Chg} {l : List Chg} {k : Int} (h : (c.cost : Int) ≤ k) : fallen F (c :: l) k = fallen (c.does F) l (k - c.cost) := by cases c <;> (rw [fallen, if_pos h] <;> (intro _ _ _ h; cases h))
theorem fallen_put {F : FM} {n s : ByteArray} {a : Nat} {l : List Chg} {k : Int} (h : ¬ 1 + (s.size : Int) ≤ k) : fallen F (.put n s a :: l) k = if 0 < k then (Chg.put n (s.extract 0 (k - 1).toNat) a).does F else F := by
  rw [fallen, if_neg (by show ¬ ((1 + s.size : Nat) : Int) ≤ k; omega)]
theorem fallen_other {F : FM} {c : Chg} {l : List Chg} {k : Int} (hc : ∀ n s a, c ≠ .put n s a) (h : ¬ (c.cost : Int) ≤ k) : fallen F (c :: l) k = F := by
  cases c with
  | put n s a => exact absurd rfl (hc n s a)
  | _ => rw [fallen, if_neg h] <;> (intro _ _ _ h; cases h)
theorem fallen_spares {K : ByteArray} : ∀ (F : FM) (l : List Chg) (k : Int), (∀ c ∈ l, c.spares K) → fallen F l k K = F K
  | _, [], _, _ => rfl
  | F, c :: l, k, h => by
    have hc := h c List.mem_cons_self
    unfold fallen
    split
    · rw [fallen_spares (c.does F) l _ (fun x hx => h x (List.mem_cons_of_mem _ hx)), Chg.does_spares hc]
    · split
      · split
        · exact FM.set_other _ _ (Ne.symm hc)
        · rfl
      · rfl
/-- A disk. -/
structure Dk where
  sure : FM
  now : FM
  row : List Chg
  room : Int
  calls : Int
  after : Int
  keep : Int
  down : Bool
namespace Dk
def new : Dk := ⟨fun _ => none, fun _ => none, [], -1, 0, 0, 0, false⟩
/-- What holds of each disk. -/
structure Inv (d : Dk) : Prop where
  kept : d.keep ≤ 9223372036854775807
  valid : Valid d.sure d.row
  now : d.now = play d.sure d.row
theorem inv_new : Inv new := ⟨by decide, trivial, rfl⟩
def fail (d : Dk) (k : Int) : Dk := if d.down then d else { d with sure := fallen d.sure d.row k, now := fallen d.sure d.row k, row := [], down := true, after := 0 }
def counted (d : Dk) : Dk := { d with calls := wrap64 (d.calls + 1), after := if d.after = 0 then 0 else wrap64 (d.after - 1) }
def trips (d : Dk) : Bool := if d.after = 0 then false else (wrap64 (d.after - 1) == 0)
def push (d : Dk) (c : Chg) : Dk := { d.counted with row := d.row ++ [c], now := c.does d.now }
def lay (d : Dk) (c : Chg) : Int × Dk := if d.trips then (8, (d.push c).fail d.keep) else (0, d.push c)
def sync (d : Dk) : Int × Dk := if d.down then (8, d) else if d.trips then (8, d.counted.fail d.keep) else (0, { d.counted with sure := d.now, row := [] })
theorem Inv.fail {d : Dk} (h : Inv d) (k : Int) : Inv (d.fail k) := by
  unfold Dk.fail
  split
  · exact h
  · exact ⟨h.kept, trivial, rfl⟩
theorem Inv.counted {d : Dk} (h : Inv d) : Inv d.counted := ⟨h.kept, h.valid, h.now⟩
theorem Inv.push {d : Dk} (h : Inv d) {c : Chg} (hc : c.ok d.now) : Inv (d.push c) :=
  ⟨h.kept, valid_snoc _ _ _ h.valid (by show c.ok (play d.sure d.row); rw [← h.now]; exact hc), by show c.does d.now = play d.sure (d.row ++ [c]); rw [play_snoc, h.now]⟩
theorem Inv.lay {d : Dk} (h : Inv d) {c : Chg} (hc : c.ok d.now) : Inv (d.lay c).2 := by
  unfold Dk.lay
  split
  · exact (h.push hc).fail _
  · exact h.push hc
theorem Inv.sync {d : Dk} (h : Inv d) : Inv d.sync.2 := by
  unfold Dk.sync
  split
  · exact h
  · split
    · exact h.counted.fail _
    · exact ⟨h.kept, trivial, rfl⟩
/-- The file of this name is sure, and nothing in the row speaks of it. -/
structure Keeps (K s : ByteArray) (d : Dk) : Prop where
  sure : d.sure K = some s
  spares : ∀ c ∈ d.row, c.spares K
theorem Keeps.fail {K s : ByteArray} {d : Dk} (h : Keeps K s d) (k : Int) : Keeps K s (d.fail k) := by
  unfold Dk.fail
  split
  · exact h
  · exact ⟨(fallen_spares _ _ _ h.spares).trans h.sure, fun c hc => by cases hc⟩
theorem Keeps.counted {K s : ByteArray} {d : Dk} (h : Keeps K s d) : Keeps K s d.counted := ⟨h.sure, h.spares⟩
theorem Keeps.push {K s : ByteArray} {d : Dk} (h : Keeps K s d) {c : Chg} (hc : c.spares K) : Keeps K s (d.push c) :=
  ⟨h.sure, fun x hx => by
    rcases List.mem_append.1 hx with hx | hx
    · exact h.spares x hx
    · have : x = c := by simpa using hx
      rw [this]; exact hc⟩
theorem Keeps.lay {K s : ByteArray} {d : Dk} (h : Keeps K s d) {c : Chg} (hc : c.spares K) : Keeps K s (d.lay c).2 := by
  unfold Dk.lay
  split
  · exact (h.push hc).fail _
  · exact h.push hc
theorem Keeps.now {K s : ByteArray} {d : Dk} (h : Keeps K s d) (hi : Inv d) : d.now K = some s := by rw [hi.now, play_spares _ _ h.spares, h.sure]
theorem Keeps.sync {K s : ByteArray} {d : Dk} (h : Keeps K s d) (hi : Inv d) : Keeps K s d.sync.2 := by
  unfold Dk.sync
  split
  · exact h
  · split
    · exact h.counted.fail _
    · exact ⟨h.now hi, fun c hc => by cases hc⟩
end Dk
/-- What a map of the program's reads as, as files. -/
structure Files (D : DataW Unit) (F : FM) : Prop where
  map : IsMap D
  has : ∀ s : ByteArray, Maps.has D (.string s.data.toList) = (F s).isSome
  at_ : ∀ (s v : ByteArray) (z : DataW Unit), F s = some v → D.atKey (.string s.data.toList) z = .lit (.string v.data.toList)
namespace Files
theorem keyEq {s t : ByteArray} : (Lit.string s.data.toList : Lit) = .string t.data.toList ↔ s = t := by
  constructor
  · intro h
    injection h with h
    cases s; cases t
    simp at h
    rw [h]
  · rintro rfl; rfl
theorem isKey (s : ByteArray) : WideAt.IsKeyLit (.string s.data.toList) := trivial
theorem empty : Files (.map []) (fun _ => none) := ⟨isMap_empty, fun _ => rfl, fun _ _ _ h => by cases h⟩
theorem put {D : DataW Unit} {F : FM} (h : Files D F) (k v : ByteArray) : Files (D.put (.string k.data.toList) (.lit (.string v.data.toList))) (F.set k v) where
  map := h.map.put _ _
  has s := by
    by_cases hs : s = k
    · subst hs
      rw [has_put_same h.map (isKey s), FM.set_same]; rfl
    · rw [has_put_other (fun e => hs (keyEq.1 e)), h.has, FM.set_other _ _ hs]
  at_ s u z hu := by
    by_cases hs : s = k
    · subst hs
      rw [FM.set_same] at hu
      cases hu
      exact atKey_put_same h.map (isKey s) _ _
    · rw [FM.set_other _ _ hs] at hu
      rw [atKey_put_other (fun e => hs (keyEq.1 e))]
      exact h.at_ s u z hu
theorem del {D : DataW Unit} {F : FM} (h : Files D F) (k : ByteArray) : Files (D.del (.string k.data.toList)) (F.del k) where
  map := h.map.del _
  has s := by
    by_cases hs : s = k
    · subst hs
      rw [has_del_same]; simp [FM.del]
    · rw [has_del_other (fun e => hs (keyEq.1 e)), h.has, FM.del_other _ hs]
  at_ s u z hu := by
    by_cases hs : s = k
    · subst hs
      simp [FM.del] at hu
    · rw [FM.del_other _ hs] at hu
      rw [atKey_del_other (fun e => hs (keyEq.1 e))]
      exact h.at_ s u z hu
theorem get {D : DataW Unit} {F : FM} (h : Files D F) (s : ByteArray) : D.atKey (.string s.data.toList) (.lit (.string [])) = .lit (.string (F.get s).data.toList) := by
  unfold FM.get
  cases hF : F s with
  | some v => exact h.at_ s v _ hF
  | none =>
    have := h.has s
    rw [hF] at this
    rw [atKey_of_not_has this]
    rfl
end Files
end Go.Proofs.YtpdceondgbgpkaaDoor.Dsk
