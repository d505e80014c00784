/- The document's teller: put, next, Late. -/
import Derived.Test.YtbiicflcjipeeaaTold3
namespace Go.Proofs.Ytbiicflcjipeeaa
open Go.RowKit
set_option linter.unusedSimpArgs false
set_option linter.unusedVariables false
open Sp (fold intB textS bs)
attribute [local go_sem] Mem.run_store_float Mem.After.cell
/-- Events in line that are read. -/
def REvs (w : World) (ok : Nat → Prop) (v : Value) (l : List (Evt × Value)) : Prop := Mem.Rd w ok 5 v (evRows l) ∧ ∀ p ∈ l, EvR w ok p.1 p.2
namespace REvs
variable {w w1 : World} {ok ok' : Nat → Prop} {v : Value} {l : List (Evt × Value)}
theorem step (h : REvs w ok v l) (hs : w.heap.size ≤ w1.heap.size) (hm : ∀ k, ok k → k < w.heap.size → w1.heap[k]? = w.heap[k]?) : REvs w1 ok v l := ⟨h.1.step hs hm, fun p hp => (h.2 p hp).step hs hm⟩
theorem mono (h : REvs w ok v l) (ho : ∀ k, ok k → ok' k) : REvs w ok' v l := ⟨h.1.mono ho, fun p hp => (h.2 p hp).mono ho⟩
theorem below (h : REvs w ok v l) (hb : Below w.heap.size w w1) : REvs w1 ok v l := h.step hb.size (fun k _ hk => hb.block k hk)
theorem lt (h : REvs w ok v l) : REvs w (fun k => ok k ∧ k < w.heap.size) v l := ⟨Mem.Rd.lt h.1, fun p hp => Mem.Rd.lt (h.2 p hp)⟩
end REvs
theorem info_revt : (Try.prog.info? 42).map (fun i => (i.zero, i.size, i.bytes)) = some (some (.agg #[.int .i64 0, .int .i64 0, .int .i64 0, .string ⟨#[]⟩, .slice none 0 0]), 5, 64) := by kernel_rfl
theorem evC_one (e : Evt) (vf : Value) {w : World} {ok : Nat → Prop} (h : EvR w ok e vf) : ∀ u ∈ evC e vf, u.oneCell' = true := by
  intro u hu
  obtain ⟨A, c, rfl⟩ := h.slice
  simp only [evC, List.mem_cons, List.not_mem_nil, or_false] at hu
  rcases hu with rfl | rfl | rfl | rfl | rfl <;> rfl
theorem evs_take_succ (l : List (Evt × Value)) (k : Nat) (p : Evt × Value) (h : l[k]? = some p) : evs (l.take (k + 1)) = evs (l.take k) ++ evC p.1 p.2 := by
  rw [List.take_add_one, h]
  exact evs_snoc _ _ _
set_option maxRecDepth 100000 in
set_option maxHeartbeats 4000000 in
theorem put_any (ok : Nat → Prop) (v vf : Value) (l : List (Evt × Value)) (e : Evt) (w : World) (h : REvs w ok v l) (he : EvR w ok e vf) (hn : l.length ≤ 1000) :
    Calls Try.prog 40 #[v, .agg #[.int .i64 e.session, .int .i64 e.seq, .int .i64 e.stamp, .string e.kind, vf]] w fun r w' => ∃ v', r = .returned v' ∧ w'.ownsRow w.heap.size 42 5 v' (l.length + 1) (evs (l ++ [(e, vf)])) ∧ Below w.heap.size w w' := by
  obtain ⟨A, cap, rfl⟩ := h.1.slice
  have hone := evC_one e vf he
  obtain ⟨Af, cf, rfl⟩ := he.slice
  rw [show (evRows l).length = l.length by simp [evRows]] at h ⊢
  have HR := Lib.hid h
  have HE := Lib.hid he
  have HO := Lib.hid hone
  clear h he hone
  obtain ⟨i0, hi, hz0, hz1, hz2⟩ := info_parts info_revt
  go_enter Try.func40, Try.ntmps40
  go_wp2_with fail
  go_loopw [5, 6] (fun v i wr => ∃ k : Nat, k ≤ l.length ∧ i = .int .i64 k ∧ wr.ownsRow w.heap.size 42 5 v k (evs (l.take k)) ∧ Below w.heap.size w wr ∧ wr.heap[w.heap.size]? = some (.cells #[.int .i64 e.session, .int .i64 e.seq, .int .i64 e.stamp, .string e.kind, .slice Af e.fields.length cf] 42 (0, 0)) ∧ (∀ j, v.ownBlock = some j → w.heap.size < j)) (fun _ i _ => l.length - (intOf i).toNat)
  case atStart => exact ⟨0, Nat.zero_le _, rfl, World.ownsRow_nil _ _ _ _, (Below.refl _ _).alloc (Nat.le_refl _) _, Mem.new _ _, fun j hj => by simp [Value.ownBlock] at hj⟩
  case round =>
    obtain ⟨k, hk, rfl, hown, hbel, hB, hnew⟩ := hrel
    by_cases hlt : k < l.length
    · obtain ⟨p, hp⟩ : ∃ p, l[k]? = some p := ⟨_, List.getElem?_eq_getElem hlt⟩
      obtain ⟨g, o, rfl, hg, hgl, hrow⟩ := (Mem.Rd.below HR.out.1 hbel).row (k := k) (r := evC p.1 p.2) (by rw [evRows, List.getElem?_map, hp]; rfl)
      have hpr := HR.out.2 p (List.mem_of_getElem? hp)
      have HP := Lib.hid (evC_one p.1 p.2 hpr)
      obtain ⟨e1, v1⟩ := p
      dsimp only at hrow hpr HP
      obtain ⟨A1, c1, rfl⟩ := hpr.slice
      have d0 : wr.cell? ⟨g, o + k * 5, none⟩ = some (.int .i64 e1.session) := hrow 0 _ rfl
      have d1 : wr.cell? ⟨g, o + k * 5 + 1, none⟩ = some (.int .i64 e1.seq) := hrow 1 _ rfl
      have d2 : wr.cell? ⟨g, o + k * 5 + 2, none⟩ = some (.int .i64 e1.stamp) := hrow 2 _ rfl
      have d3 : wr.cell? ⟨g, o + k * 5 + 3, none⟩ = some (.string e1.kind) := hrow 3 _ rfl
      have d4 : wr.cell? ⟨g, o + k * 5 + 4, none⟩ = some (.slice A1 e1.fields.length c1) := hrow 4 _ rfl
      have HX := Lib.hid (And.intro hbel (And.intro hB (And.intro hnew hp)))
      have hsz := hbel.size
      have hlN := Mem.lt hB
      clear hbel hB hnew hp hrow hpr
      have hz : w.heap.size ≤ wr.heap.size := hsz
      go_wp2_with (at_builtin; refine Mem.append_one rfl (.tmp 13) (.tmp 18) 26 rfl w.heap.size 42 i0 _ 5 64 Try.underlying26 hi hz0 hz1 hz2 rfl (by decide) wr _ k (evs (l.take k)) (by rfl) hown [.int .i64 e1.session, .int .i64 e1.seq, .int .i64 e1.stamp, .string e1.kind, .slice A1 e1.fields.length c1] rfl HP.out (by rfl) (by unfold maxLen; omega) (by omega) (by omega) ?_; intro v3 w3 hown3 hg3 ho3)
      go_roundw
      case rel =>
        obtain ⟨hbel, hB, hnew, hp⟩ := HX.out
        refine ⟨k + 1, by omega, by go_num, by rw [evs_take_succ l k _ hp]; exact hown3, ?_, ?_, ?_⟩
        · exact Below.grown (hbel.alloc (by omega) _) hg3 (by simp; omega) (fun j hj => (hown.lt j hj).1)
        · exact (hg3.block _ (by simp; omega) (fun h => by have := hnew _ h.symm; omega)).trans (Mem.old hB _)
        · intro j hj
          rcases ho3 with h | h
          · exact hnew j (h ▸ hj)
          · rw [h] at hj; have : wr.heap.size + 1 = j := by simpa using hj
            omega
      case measure => simp [intOf]; try omega
    · have hk' : k = l.length := by omega
      subst hk'
      rw [List.take_length] at hown
      have d0 := Mem.cell hB (j := 0) rfl
      have d1 := Mem.cell hB (j := 1) rfl
      have d2 := Mem.cell hB (j := 2) rfl
      have d3 := Mem.cell hB (j := 3) rfl
      have d4 := Mem.cell hB (j := 4) rfl
      have hsz := hbel.size
      have hlN := Mem.lt hB
      have HX := Lib.hid hbel
      clear hbel hB
      go_wp2_with (at_builtin; refine Mem.append_one rfl (.tmp 20) (.tmp 22) 26 rfl w.heap.size 42 i0 _ 5 64 Try.underlying26 hi hz0 hz1 hz2 rfl (by decide) wr _ l.length (evs l) (by rfl) hown [.int .i64 e.session, .int .i64 e.seq, .int .i64 e.stamp, .string e.kind, .slice Af e.fields.length cf] rfl HO.out (by rfl) (by unfold maxLen; omega) (by omega) (by omega) ?_; intro v3 w3 hown3 hg3 ho3)
      go_ret
      exact ⟨_, rfl, by rw [evs_snoc]; exact hown3, Below.grown (HX.out.alloc (by omega) _) hg3 (by simp; omega) (fun j hj => (hown.lt j hj).1)⟩
end Go.Proofs.Ytbiicflcjipeeaa
