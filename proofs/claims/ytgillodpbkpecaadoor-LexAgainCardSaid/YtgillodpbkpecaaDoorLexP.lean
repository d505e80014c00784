/- A token depends on its own text alone, where a blank or the end stands behind it. -/
import Derived.Test.YtgillodpbkpecaaDoorLexI
namespace Go.Proofs.YtgillodpbkpecaaDoor.Lex
open Go.RowKit Go.Proofs.YtgillodpbkpecaaDoorW.PrintWords Go.Proofs.YtgillodpbkpecaaDoorW.PrintLast Go.Proofs.YtgillodpbkpecaaDoorW.PrintMore Go.Proofs.YtgillodpbkpecaaDoor.Ext Go.Proofs.YtgillodpbkpecaaDoor.PLx

/-- what stands behind: nothing, or a blank. -/
def Free (u : ByteArray) : Prop := u = nul ∨ ∃ v : List UInt8, u.data.toList = 32 :: v
theorem free_run {u : ByteArray} (h : Free u) (p : UInt8 → Bool) (hp : p 32 = false) : run p u 0 = 0 := by
  unfold run
  rw [List.drop_zero]
  rcases h with rfl | ⟨v, hv⟩
  · rfl
  · rw [hv, runL_cons, hp, if_neg (by decide)]
/-- a run that reaches a text's end goes on behind it. -/
theorem run_through (p : UInt8 → Bool) (t u : ByteArray) (k : Nat) (hk : k ≤ t.size) (hp : ∀ c ∈ t.data.toList.drop k, p c = true) : run p (t ++ u) k = t.size - k + run p u 0 := by
  unfold run runL
  rw [app_list, List.drop_append_of_le_length (by rw [← size_list]; exact hk), List.drop_zero, List.takeWhile_append_of_pos hp, List.length_append, List.length_drop, ← size_list]
/-- a run that ends within a text ends there whatever is behind it. -/
theorem run_within (p : UInt8 → Bool) (t u : ByteArray) (k : Nat) (h : k + run p t k < t.size) : run p (t ++ u) k = run p t k := by
  have hk : k ≤ t.size := by omega
  unfold run runL at h ⊢
  rw [app_list, List.drop_append_of_le_length (by rw [← size_list]; exact hk)]
  have : ∀ (l r : List UInt8), (l.takeWhile p).length < l.length → (l ++ r).takeWhile p = l.takeWhile p := by
    intro l
    induction l with
    | nil => intro r h; simp at h
    | cons c l ih =>
      intro r h
      rw [List.cons_append, List.takeWhile_cons, List.takeWhile_cons]
      rw [List.takeWhile_cons] at h
      split
      · rename_i hc
        rw [if_pos hc, List.length_cons, List.length_cons] at h
        rw [ih r (by omega)]
      · rfl
  rw [this _ _ (by rw [List.length_drop, ← size_list]; omega)]
theorem byteAt_left (t u : ByteArray) (k : Nat) (hk : k < t.size) : byteAt (t ++ u) k = byteAt t k := by
  rw [byteAt_head, byteAt_head, app_list, List.drop_append_of_le_length (by rw [← size_list]; omega), List.drop_eq_getElem_cons (l := t.data.toList) (i := k) (by simpa using hk)]
  rfl
theorem ext_left (t u : ByteArray) (a b : Nat) (hb : b ≤ t.size) : (t ++ u).extract a b = t.extract a b := by
  apply ext_list
  rw [ext_data, ext_data, app_list, List.take_append_of_le_length (by rw [← size_list]; exact hb)]
theorem run_add (p : UInt8 → Bool) (s : ByteArray) (a b : Nat) (hb : b ≤ s.size) (h : a + run p s a < b) : run p (s.extract 0 b) a = run p s a := by
  have e : s.extract 0 b ++ s.extract b s.size = s := by
    apply ext_list
    rw [app_list, ext_data, ext_data, List.drop_zero, size_list, List.take_length, List.take_append_drop]
  have hz : (s.extract 0 b).size = b := by rw [ext_size]; omega
  by_cases hw : a + run p (s.extract 0 b) a < b
  · have := run_within p (s.extract 0 b) (s.extract b s.size) a (by rw [hz]; exact hw)
    rw [e] at this; exact this.symm
  · exfalso
    have hle := run_le p (s.extract 0 b) a (by rw [hz]; omega)
    have h2 := run_through p (s.extract 0 b) (s.extract b s.size) a (by rw [hz]; omega) (by
      intro c hc
      have ht := take_run p (s.extract 0 b) a
      rw [List.take_of_length_le (by rw [List.length_drop, ← size_list, hz]; omega)] at ht
      exact ht c hc)
    rw [e, hz] at h2
    omega

end Go.Proofs.YtgillodpbkpecaaDoor.Lex
