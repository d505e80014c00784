/- The files' names, in order: plain. -/
import Derived.Test.YtpdceondgbgpkaaDoorDsk2
import Derived.Test.YtpdceondgbgpkaaDoorFlat
import Derived.Sort.KeysCollected
namespace Go.Proofs.YtpdceondgbgpkaaDoor.Dsk
open Go.RowKit Go.Maps
set_option linter.unusedSimpArgs false
set_option linter.unusedVariables false
/-- The names of files, rising. -/
structure NamesOf (F : FM) (l : List ByteArray) : Prop where
  mem : ∀ s, s ∈ l ↔ (F s).isSome = true
  up : l.Pairwise (fun a b => a.data.toList < b.data.toList)
theorem NamesOf.nodup {F : FM} {l : List ByteArray} (h : NamesOf F l) : l.Nodup := h.up.imp (fun hab e => by subst e; exact List.lt_irrefl _ hab)
theorem NamesOf.one {F : FM} {l l' : List ByteArray} (h : NamesOf F l) (h' : NamesOf F l') : l = l' := by
  have hp : l.Perm l' := (List.perm_ext_iff_of_nodup h.nodup h'.nodup).2 (fun s => (h.mem s).trans (h'.mem s).symm)
  exact List.Perm.eq_of_pairwise (le := fun a b : ByteArray => a.data.toList < b.data.toList) (fun a b _ _ h1 h2 => absurd (List.lt_trans h1 h2) (List.lt_irrefl _)) h.up h'.up hp
section
variable {H : Type} {P : Program} {k : TypeId} {R : Value → Option (DataW H × List MemPlace)} {w : World} {b n : Nat} {D : DataW H}
theorem mem_keys (hown : w.ownsMap P k R b n D) (hk : P.underlying k = some .string) (x : List UInt8) : x ∈ strKeys D ↔ Maps.has D (.string x) = true := by
  obtain ⟨es, rfl, hko⟩ := hown.keysOf
  have hs : ∀ p ∈ es, ∃ x, p.1 = .string x := fun p hp => by obtain ⟨v, hv⟩ := hko p hp; obtain ⟨x, _, hx, _⟩ := Maps.keyOf_str hk hv; exact ⟨x, hx⟩
  rw [has_eq, List.any_eq_true]
  show (x ∈ es.map fun p => strOf p.1) ↔ _
  rw [List.mem_map]
  constructor
  · rintro ⟨p, hp', rfl⟩
    obtain ⟨a, ha⟩ := hs p hp'
    exact ⟨p, hp', by rw [ha]; simp [Lit.sameKey, strOf]⟩
  · rintro ⟨p, hp', hq⟩
    obtain ⟨a, ha⟩ := hs p hp'
    rw [ha] at hq
    exact ⟨p, hp', by rw [ha]; simpa [Lit.sameKey, strOf] using hq⟩
theorem nodup_keys (hown : w.ownsMap P k R b n D) (K : Keyed P k) (hk : P.underlying k = some .string) : (strKeys D).Nodup := by
  obtain ⟨es, hD, hpw, _⟩ := hown.entries K
  obtain ⟨es', hD', hko⟩ := hown.keysOf
  obtain rfl : es = es' := by rw [hD] at hD'; simpa using hD'
  subst hD
  have hs : ∀ p ∈ es, ∃ x, p.1 = .string x := fun p hp => by obtain ⟨v, hv⟩ := hko p hp; obtain ⟨x, _, hx, _⟩ := Maps.keyOf_str hk hv; exact ⟨x, hx⟩
  show (es.map fun p => strOf p.1).Nodup
  refine List.pairwise_map.2 (hpw.imp_of_mem fun {p q} hp' hq' hne e => hne ?_)
  obtain ⟨a, ha⟩ := hs p hp'
  obtain ⟨b, hb⟩ := hs q hq'
  rw [ha, hb] at e ⊢
  exact congrArg _ e
end
theorem data_mk (x : List UInt8) : (ByteArray.mk x.toArray).data.toList = x := rfl
theorem names_of {w : World} {b n : Nat} {D : DataW Unit} {F : FM} (hown : w.ownsMap Tryd.prog 9 (plainElem Tryd.prog 9) b n D) (hF : Files D F) {ss : List (List UInt8)} (hp : ss.Perm (strKeys D)) : NamesOf F ((ss.mergeSort leB).map (fun x => ByteArray.mk x.toArray)) := by
  have tr : ∀ a b c : List UInt8, leB a b = true → leB b c = true → leB a c = true := fun a b c h1 h2 => by simp only [leB, decide_eq_true_eq] at *; exact List.le_trans h1 h2
  have to : ∀ a b : List UInt8, (leB a b || leB b a) = true := fun a b => by simp only [leB, Bool.or_eq_true, decide_eq_true_eq]; exact List.le_total a b
  have hperm := (List.mergeSort_perm ss leB).trans hp
  have hnd : (ss.mergeSort leB).Nodup := hperm.nodup_iff.2 (nodup_keys hown key_law Tryd.underlying9)
  refine ⟨fun s => ?_, ?_⟩
  · rw [List.mem_map, ← hF.has, ← mem_keys hown Tryd.underlying9]
    constructor
    · rintro ⟨x, hx, rfl⟩
      exact hperm.mem_iff.1 hx
    · intro hx
      exact ⟨s.data.toList, hperm.mem_iff.2 hx, by apply ByteArray.ext; exact Array.ext' rfl⟩
  · refine List.pairwise_map.2 ?_
    refine ((List.pairwise_mergeSort tr to ss).and hnd).imp (fun {a b} h => ?_)
    obtain ⟨h1, h2⟩ := h
    simp only [leB, decide_eq_true_eq] at h1
    show a < b
    refine Classical.byContradiction (fun hn => h2 ?_)
    exact List.le_antisymm h1 (List.not_lt.1 hn)
theorem size_keys {w : World} {b n : Nat} {D : DataW Unit} (hown : w.ownsMap Tryd.prog 9 (plainElem Tryd.prog 9) b n D) : Maps.size D = (strKeys D).length := by
  obtain ⟨es, rfl, _⟩ := hown.keysOf
  show _ = (es.map _).length
  rw [List.length_map]
  rfl
theorem flat_one {α β : Type} (f : α → β) : ∀ l : List α, (l.map (fun s => [f s])).flatten = l.map f
  | [] => rfl
  | a :: l => by rw [List.map_cons, List.flatten_cons, flat_one f l]; rfl
end Go.Proofs.YtpdceondgbgpkaaDoor.Dsk
