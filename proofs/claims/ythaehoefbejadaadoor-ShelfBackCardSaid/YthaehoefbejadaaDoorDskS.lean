/- What each act keeps: the disk's own law, and a file that is sure. -/
import Derived.Test.YthaehoefbejadaaDoorDsk8
namespace Go.Proofs.YthaehoefbejadaaDoor.Dsk
open Go.RowKit Go.Maps
theorem lay_ok {d : Dk} {c : Chg} {e : Int} {d' : Dk} (h : (e, d') = d.lay c) (hi : Dk.Inv d) (hc : c.ok d.now) : Dk.Inv d' := by
  have := congrArg Prod.snd h
  rw [show d' = (d.lay c).2 from this]
  exact hi.lay hc
theorem lay_keeps {K s : ByteArray} {d : Dk} {c : Chg} {e : Int} {d' : Dk} (h : (e, d') = d.lay c) (hk : Dk.Keeps K s d) (hc : c.spares K) : Dk.Keeps K s d' := by
  have := congrArg Prod.snd h
  rw [show d' = (d.lay c).2 from this]
  exact hk.lay hc
theorem snd_eq {α : Type} {e a : Int} {d' b : α} (h : (e, d') = (a, b)) : d' = b := congrArg Prod.snd h
/-- An act that leaves the file K alone. -/
def Act.far (x : Act) (K : ByteArray) : Prop := x.name ≠ K ∧ ¬ (x.kind = 2 ∧ x.s = K)
theorem Acts.keep {K t : ByteArray} {d d' : Dk} {x : Act} {e : Int} (h : Acts d x e d') (hx : x.fit) (hf : x.far K) (hi : Dk.Inv d) (hk : Dk.Keeps K t d) : Dk.Inv d' ∧ Dk.Keeps K t d' := by
  unfold Acts at h
  split at h
  · unfold Dk.Puts at h
    split at h
    · rw [h.2]; exact ⟨hi, hk⟩
    · rcases h with ⟨_, _, rfl⟩ | ⟨hb, ⟨_, _, rfl⟩ | h⟩
      · exact ⟨hi, hk⟩
      · exact ⟨hi, hk⟩
      · have hb' := put_ok hb
        exact ⟨lay_ok h hi ⟨hx.f0, by omega, by omega⟩, lay_keeps h hk hf.1⟩
  split at h
  · unfold Dk.trim at h
    split at h
    · rw [snd_eq h]; exact ⟨hi, hk⟩
    · split at h
      · rw [snd_eq h]; exact ⟨hi, hk⟩
      · exact ⟨lay_ok h hi ⟨hx.f0, by omega⟩, lay_keeps h hk hf.1⟩
  split at h
  · rename_i h2
    unfold Dk.move at h
    split at h
    · rw [snd_eq h]; exact ⟨hi, hk⟩
    · split at h
      · rw [snd_eq h]; exact ⟨hi, hk⟩
      · exact ⟨lay_ok h hi ⟨hx.f0, hx.s0⟩, lay_keeps h hk ⟨hf.1, fun e => hf.2 ⟨h2, e⟩⟩⟩
  split at h
  · unfold Dk.drop at h
    split at h
    · rw [snd_eq h]; exact ⟨hi, hk⟩
    · exact ⟨lay_ok h hi hx.f0, lay_keeps h hk hf.1⟩
  split at h
  · rw [show d' = d.sync.2 from congrArg Prod.snd h]
    exact ⟨hi.sync, hk.sync hi⟩
  obtain ⟨_, rfl⟩ := h
  split
  · exact ⟨hi.fail _, hk.fail _⟩
  split
  · exact ⟨⟨hx.m0.2, hi.valid, hi.now⟩, ⟨hk.sure, hk.spares⟩⟩
  split
  · exact ⟨⟨hi.kept, hi.valid, hi.now⟩, ⟨hk.sure, hk.spares⟩⟩
  split
  · exact ⟨⟨hi.kept, hi.valid, hi.now⟩, ⟨hk.sure, hk.spares⟩⟩
  · exact ⟨hi, hk⟩
end Go.Proofs.YthaehoefbejadaaDoor.Dsk
