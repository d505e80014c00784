/- What an argument's data say of its cells: numbers, texts, structs, slices, however deep; with the sizes that the row's weights bound. -/
import Derived.Test.YtpdceondgbgpkaaDoorMem2
import Derived.SizedLaws
import Derived.ChangeArms
import Derived.Laws.Cover2
import Derived.WideShapes
namespace Go.Proofs.YtpdceondgbgpkaaDoor.Seen
open Go.RowKit
set_option linter.unusedVariables false
/-- The cells cs are seen as data of type t, each text and row of which is not greater than memory is. -/
def Sees {H : Type} (enc : TypeId × Value → H) (P : Program) (W : World) (t : TypeId) (cs : List Value) : Prop :=
  ∃ fuel x, DataW.trod enc P W 0 (fun _ => true) true fuel t cs = some x ∧ ∀ n ∈ x.1.weights P t, n ≤ 140737488351232
section
variable {H : Type} {enc : TypeId × Value → H} {P : Program} {W : World} {t e : TypeId} {cs : List Value}
/-- An argument of a row. -/
theorem of_arg {ts : List TypeId} {ds : List (DataW H)} {j : Nat} {v : Value} {d : DataW H} {p : List MemPlace} (hsz : (DataW.weightsEach P ts ds).all (· ≤ reachBytes) = true) (ht : ts[j]? = some t) (hd : ds[j]? = some d)
    (h : DataW.Trod enc P W 0 (fun _ => true) true t v d p) : Sees enc P W t v.cells.toList := by
  obtain ⟨fuel, hf⟩ := h
  refine ⟨fuel, _, hf, fun n hn => ?_⟩
  have := List.all_eq_true.1 hsz _ (DataW.weights_mem_each ht hd n hn)
  have h2 : n ≤ reachBytes := by simpa using this
  exact h2
theorem int {k : IntKind} (ht : P.underlying t = some (.int k)) (h : Sees enc P W t cs) : ∃ n, cs = [.int k n] ∧ (Lit.int k n).wf = true := by
  obtain ⟨fuel, x, hx, hz⟩ := h
  obtain ⟨n, e1, _, e3⟩ := DataW.trod_int ht hx
  exact ⟨n, e1, e3⟩
theorem str (ht : P.underlying t = some .string) (h : Sees enc P W t cs) : ∃ s, cs = [.string s] ∧ s.size ≤ 140737488351232 := by
  obtain ⟨fuel, x, hx, hz⟩ := h
  obtain ⟨s, e1, rfl, e3⟩ := DataW.trod_string ht hx
  refine ⟨s, e1, ?_⟩
  have := hz s.data.toList.length (by simp [DataW.weights])
  simpa using this
theorem bool (ht : P.underlying t = some .bool) (h : Sees enc P W t cs) : ∃ b, cs = [.bool b] := by
  obtain ⟨fuel, x, hx, hz⟩ := h
  obtain ⟨n, e1, _⟩ := DataW.trod_bool ht hx
  exact ⟨n, e1⟩
theorem float {k : FloatKind} (ht : P.underlying t = some (.float k)) (h : Sees enc P W t cs) : ∃ b, cs = [.float k b] := by
  obtain ⟨fuel, x, hx, hz⟩ := h
  cases fuel with
  | zero => simp [DataW.trod] at hx
  | succ n =>
    unfold DataW.trod at hx
    rw [ht] at hx
    split at hx <;> simp_all
theorem mem_all {l : List (DataW H)} {d : DataW H} {n : Nat} (hd : d ∈ l) (hn : n ∈ d.weights P e) : n ∈ DataW.weightsAll P e l := by
  induction l with
  | nil => simp at hd
  | cons a l ih =>
    rw [DataW.weightsAll, List.mem_append]
    rcases List.mem_cons.1 hd with rfl | h
    · exact .inl hn
    · exact .inr (ih h)
theorem struct {fs : Array Field} (ht : P.underlying t = some (.struct fs)) (h : Sees enc P W t cs) :
    cs.length = P.cellsOf t ∧ ∀ (i : Nat) (f : Go.Field), fs[i]? = some f → Sees enc P W f.type ((cs.drop f.offset).take (P.cellsOf f.type)) := by
  obtain ⟨fuel, x, hx, hz⟩ := h
  obtain ⟨xs, n, _, rfl, hl, hs, hp⟩ := DataW.trod_struct ht hx
  refine ⟨hl, fun i f hf => ?_⟩
  have hi : i < fs.size := (Array.getElem?_eq_some_iff.1 hf).1
  obtain ⟨y, hy⟩ : ∃ y, xs[i]? = some y := ⟨_, List.getElem?_eq_getElem (by omega)⟩
  refine ⟨n, y, (hp i f hf).trans hy, fun m hm => hz m ?_⟩
  simp only [DataW.weights, ht]
  refine DataW.weights_mem_each (j := i) (t := f.type) (d := y.1) ?_ ?_ m hm
  · simp [hf]
  · simp [hy]
theorem part {fs : Array Field} (ht : P.underlying t = some (.struct fs)) (h : Sees enc P W t cs) (i T off n : Nat) (hf : (fs[i]?).map (fun f : Go.Field => (f.type, f.offset)) = some (T, off)) (hn : P.cellsOf T = n) : Sees enc P W T ((cs.drop off).take n) := by
  obtain ⟨f, hf, hv⟩ := Option.map_eq_some_iff.1 hf
  injection hv with h1 h2
  have := (struct ht h).2 i f hf
  rw [h1, h2, hn] at this
  exact this
theorem slice (ht : P.underlying t = some (.slice e)) (h : Sees enc P W t cs) :
    cs = [.slice none 0 0] ∨ ∃ a len cap, cs = [.slice (some a) len cap] ∧ len ≤ cap ∧ cap ≤ maxLen ∧ cap * P.bytesOf e ≤ 140737488351232 ∧
      ∀ i, i < len → ∃ r, W.cells? 0 (a.add (i * P.cellsOf e)) (P.cellsOf e) = some r ∧ Sees enc P W e r := by
  obtain ⟨fuel, x, hx, hz⟩ := h
  rcases DataW.trod_slice ht hx with ⟨rfl, _⟩ | ⟨a, len, cap, elems, rest, n, _, rfl, rfl, hb, hl, hm, hlen, hel, hsp, _⟩
  · exact .inl rfl
  refine .inr ⟨a, len, cap, rfl, hl, hm, ?_, fun i hi => ?_⟩
  · have := hz ((elems.length + rest.length) * P.bytesOf e) (by simp [DataW.weights, ht])
    have h2 := (hsp rfl).1
    rw [hlen, h2, show len + (cap - len) = cap by omega] at this
    exact this
  · obtain ⟨y, hy⟩ : ∃ y, elems[i]? = some y := ⟨_, List.getElem?_eq_getElem (by omega)⟩
    have h1 := hel i hi
    rw [hy, Option.bind_eq_some_iff] at h1
    obtain ⟨r, hr, hrx⟩ := h1
    refine ⟨r, hr, n, y, hrx, fun m hm' => hz m ?_⟩
    simp only [DataW.weights, ht, List.mem_cons, List.mem_append]
    refine .inr (.inl (mem_all (d := y.1) ?_ hm'))
    exact List.mem_map.2 ⟨y, List.mem_of_getElem? hy, rfl⟩
/-- A slice is read, row by row. -/
theorem rows (sz : Nat) (ht : P.underlying t = some (.slice e)) (hc : P.cellsOf e = sz) (h0 : 0 < sz) (h : Sees enc P W t cs) :
    ∃ v rs, cs = [v] ∧ Mem.Rd W (fun g => g < W.heap.size) sz v rs ∧ rs.length * P.bytesOf e ≤ 140737488351232 ∧ ∀ r ∈ rs, r.length = sz ∧ Sees enc P W e r := by
  rcases slice ht h with rfl | ⟨a, len, cap, rfl, hl, hm, hby, hel⟩
  · exact ⟨_, [], rfl, Mem.Rd.nil _ _ _, by simp, fun r hr => by simp at hr⟩
  rw [hc] at hel
  have hch : ∃ rs : List (List Value), rs.length = len ∧ ∀ i r, rs[i]? = some r → W.cells? 0 (a.add (i * sz)) sz = some r ∧ Sees enc P W e r := by
    refine ⟨(List.range len).map (fun i => if hi : i < len then (hel i hi).choose else []), by simp, fun i r hr => ?_⟩
    rw [List.getElem?_map] at hr
    obtain ⟨j, hj, rfl⟩ := Option.map_eq_some_iff.1 hr
    have hji : i < len ∧ j = i := by
      have h1 := (List.getElem?_eq_some_iff.1 hj)
      obtain ⟨h2, h3⟩ := h1
      simp at h2 h3
      exact ⟨h2, h3.symm⟩
    obtain ⟨hi, rfl⟩ := hji
    rw [dif_pos hi]
    exact (hel j hi).choose_spec
  obtain ⟨rs, hlen, hrs⟩ := hch
  subst hlen
  refine ⟨_, rs, rfl, ⟨some a, cap, rfl, hl, by unfold maxLen at hm; omega, fun hne => ?_, fun g o ea k i r c hk hi => ?_⟩, ?_, fun r hr => ?_⟩
  · cases rs with
    | nil => exact absurd rfl hne
    | cons r rs =>
      have h1 := (hrs 0 r rfl).1
      obtain ⟨hb, hlr, hcell⟩ := World.cells?_some h1
      have h2 := hcell 0 h0
      obtain ⟨c, hcc⟩ : ∃ c, r[0]? = some c := ⟨_, List.getElem?_eq_getElem (by omega)⟩
      rw [hcc, Nat.zero_mul] at h2
      have e0 : (a.add 0).add 0 = a := by simp [Addr.add]
      rw [e0] at h2
      unfold World.cell? at h2
      split at h2
      · rename_i cc tt ff hh
        split at h2
        · cases h2
        · rename_i hs
          refine ⟨a.block, a.off, ?_, (Array.getElem?_eq_some_iff.1 hh).1, (Array.getElem?_eq_some_iff.1 hh).1⟩
          cases a with
          | mk b o s =>
            cases s with
            | none => rfl
            | some s => simp at hs
      · cases h2
  · cases ea
    obtain ⟨hb, hlr, hcell⟩ := World.cells?_some (hrs k r hk).1
    have hi' := (List.getElem?_eq_some_iff.1 hi).1
    refine ⟨by omega, ?_⟩
    have h2 := hcell i (by omega)
    rw [hi] at h2
    have e1 : ((⟨g, o, none⟩ : Addr).add (k * sz)).add i = ⟨g, o + k * sz + i, none⟩ := by
      have h3 : ∀ g o j, (⟨g, o, none⟩ : Addr).add j = ⟨g, o + j, none⟩ := fun g o j => by unfold Addr.add; split <;> simp_all
      rw [h3, h3]
    rw [e1] at h2
    exact h2
  · exact Nat.le_trans (Nat.mul_le_mul_right _ hl) hby
  · obtain ⟨k, hk⟩ := List.getElem?_of_mem hr
    obtain ⟨h1, h2⟩ := hrs k r hk
    exact ⟨(World.cells?_some h1).2.1, h2⟩
end
end Go.Proofs.YtpdceondgbgpkaaDoor.Seen
