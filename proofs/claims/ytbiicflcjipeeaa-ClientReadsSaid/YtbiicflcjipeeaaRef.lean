/- auspicelaw08.Ref: an event as the document's (under way). -/
import Derived.Test.YtbiicflcjipeeaaRTold4
import Derived.Deep.RegionHeld3
namespace Go.Proofs.Ytbiicflcjipeeaa
open Go.RowKit
set_option linter.unusedSimpArgs false
set_option linter.unusedVariables false
open Sp (fold intB textS bs)
attribute [local go_sem] Mem.run_store_float Mem.After.cell
theorem info_rfld : (Try.prog.info? 107).map (fun i => (i.zero, i.size, i.bytes)) = some (some (.agg #[.string ⟨#[]⟩, .int .i64 0, .int .i64 0, .float .f64 0, .string ⟨#[]⟩]), 5, 56) := by kernel_rfl
def flds (l : List Fld) : List Value := (l.map Fld.cells).flatten
theorem flds_take_succ (l : List Fld) (k : Nat) (f : Fld) (h : l[k]? = some f) : flds (l.take (k + 1)) = flds (l.take k) ++ f.cells := by
  unfold flds
  rw [List.take_add_one, h, List.map_append, List.flatten_append]
  simp
set_option maxRecDepth 100000 in
set_option maxHeartbeats 4000000 in
theorem Ref_any (e : Evt) (vf : Value) (ok : Nat → Prop) (w : World) (h : EvR w ok e vf) (hn : e.fields.length ≤ 100) :
    Calls Try.prog 10 #[.agg #[.int .i64 e.session, .int .i64 e.seq, .int .i64 e.stamp, .string e.kind, vf]] w
      fun r w' => ∃ v', r = .returned (.agg #[.int .i64 e.session, .int .i64 e.seq, .int .i64 e.stamp, .string e.kind, v']) ∧ EvR w' (fun k => w.heap.size ≤ k) e v' ∧ Below w.heap.size w w' := by
  obtain ⟨A, cap, rfl⟩ := h.slice
  have HR := Lib.hid h
  clear h
  obtain ⟨i0, hi, hz0, hz1, hz2⟩ := info_parts info_rfld
  go_enter Try.func10, Try.ntmps10
  go_wp2_with fail
  go_loopw [4] (fun i wr => ∃ (k : Nat) (v : Value), k ≤ e.fields.length ∧ i = .int .i64 k ∧ Qu.QRow wr (w.heap.size + 3) 107 5 v k (flds (e.fields.take k)) ∧ Below w.heap.size w wr ∧
      wr.heap[w.heap.size]? = some (.cells #[.int .i64 e.session, .int .i64 e.seq, .int .i64 e.stamp, .string e.kind, .slice A e.fields.length cap] 31 (0, 0)) ∧
      wr.heap[w.heap.size + 1]? = some (.cells #[.int .i64 0, .int .i64 0, .int .i64 0, .string ⟨#[]⟩, .slice none 0 0] 42 (0, 0)) ∧
      wr.heap[w.heap.size + 2]? = some (.cells #[.int .i64 e.session, .int .i64 e.seq, .int .i64 e.stamp, .string e.kind, v] 42 (0, 0))) (fun i _ => e.fields.length - (intOf i).toNat)
  case atStart => exact ⟨0, _, Nat.zero_le _, rfl, Qu.q_of_own (World.ownsRow_nil _ _ _ _), ((((Below.refl _ _).alloc (Nat.le_refl _) _).alloc (by simp) _).alloc (by simp; omega) _), Mem.old (Mem.old (Mem.new _ _) _) _, Mem.old (Mem.new_at _ (by simp)) _, Mem.new_at _ (by simp)⟩
  case round =>
    obtain ⟨k, v, hk, rfl, hown, hbel, hX, hZ, hY⟩ := hrel
    obtain ⟨Av, cv, rfl, hcv⟩ := Qu.q_slice hown
    have a4 := Mem.cell hX (j := 4) rfl
    have y0 := Mem.cell hY (j := 0) rfl
    have y1 := Mem.cell hY (j := 1) rfl
    have y2 := Mem.cell hY (j := 2) rfl
    have y3 := Mem.cell hY (j := 3) rfl
    have y4 := Mem.cell hY (j := 4) rfl
    have u4 := Mem.free (j := 4) hY
    have hlY := Mem.lt hY
    by_cases hlt : k < e.fields.length
    · obtain ⟨f, hf⟩ : ∃ f, e.fields[k]? = some f := ⟨_, List.getElem?_eq_getElem hlt⟩
      obtain ⟨g, o, rfl, hg, hgl, hrow⟩ := (Mem.Rd.below (Mem.Rd.lt HR.out) hbel).row (k := k) (r := f.cells) (by rw [List.getElem?_map, hf]; rfl)
      have c0 : wr.cell? ⟨g, o + k * 5, none⟩ = some (.string f.name) := hrow 0 _ rfl
      have c1 := hrow 1 _ rfl
      have c2 := hrow 2 _ rfl
      have c3 := hrow 3 _ rfl
      have c4 := hrow 4 _ rfl
      have HX := Lib.hid (And.intro hown (And.intro hbel (And.intro hX (And.intro hZ (And.intro hY hf)))))
      clear hrow hown hbel hX hZ hY hf
      go_wp2_with fail
      have HA := Lib.hid (And.intro c0 (And.intro c1 (And.intro c2 (And.intro c3 c4))))
      go_region_law ((
        refine step_q_append rfl (.tmp 22) (.tmp 36) 40 rfl (w.heap.size + 3) 107 i0 _ 5 56 Try.underlying40 hi hz0 hz1 hz2 rfl (by decide) _ k (flds (e.fields.take k)) (by rfl) (Qu.q_move HX.out.1 (fun j hj => Below.block (B := wr.heap.size) (w := wr) (by with_reducible repeat (first | exact Below.refl _ _ | refine Below.alloc ?_ (by simp) _ | refine Below.drew ?_)) j (Qu.q_lt HX.out.1 j hj))) ⟨wr.heap.size, 0, none⟩ 1 1 f.cells (by rfl) rfl (World.news_of_block (Mem.new_at _ (by simp))) (by intro u hu; simp only [Fld.cells, List.mem_cons, List.not_mem_nil, or_false] at hu; rcases hu with rfl | rfl | rfl | rfl | rfl <;> rfl) (by decide) (by unfold maxLen; omega) (by omega) (by simp; omega) ?_
        intro v3 w3 hq3 hg3 ho3
        obtain ⟨A3, cap3, rfl, hle3⟩ := Qu.q_slice hq3
        have h3Y : w3.heap[w.heap.size + 2]? = _ := (hg3.block _ (by simp; omega) (fun h => by have := (Qu.q_typed HX.out.1 _ h.symm).1; omega)).trans ((Below.block (B := wr.heap.size) (w := wr) (by with_reducible repeat (first | exact Below.refl _ _ | refine Below.alloc ?_ (by simp) _ | refine Below.drew ?_)) _ hlY).trans HX.out.2.2.2.2.1)
        have w4 := Mem.cell h3Y (j := 4) rfl
        have w4f := Mem.free (j := 4) h3Y
        have hkeep : ∀ b j, b < w.heap.size + 2 → w3.cell? ⟨b, j, none⟩ = wr.cell? ⟨b, j, none⟩ := fun b j hb => World.cell?_of_block (a := ⟨b, j, none⟩) ((hg3.block b (by simp; omega) (fun h => by have := (Qu.q_typed HX.out.1 _ h.symm).1; omega)).trans (Below.block (B := wr.heap.size) (w := wr) (by with_reducible repeat (first | exact Below.refl _ _ | refine Below.alloc ?_ (by simp) _ | refine Below.drew ?_)) _ (by omega)))
        have d4 := (hkeep _ 4 (by omega)).trans a4
        have d0 := (hkeep g (o + k * 5) (by omega)).trans HA.out.1
        have d1 := (hkeep g (o + k * 5 + 1) (by omega)).trans HA.out.2.1
        have d2 := (hkeep g (o + k * 5 + 2) (by omega)).trans HA.out.2.2.1
        have d3 := (hkeep g (o + k * 5 + 3) (by omega)).trans HA.out.2.2.2.1
        have d5 := (hkeep g (o + k * 5 + 4) (by omega)).trans HA.out.2.2.2.2
        have HKE := Lib.hid hkeep
        clear hkeep
        have hg2 : g < w.heap.size + 2 := by omega
        have hst : ∀ u b j, b < w.heap.size + 2 → (w3.setCell ⟨w.heap.size + 1 + 1, 4, none⟩ u).cell? ⟨b, j, none⟩ = w3.cell? ⟨b, j, none⟩ := fun u b j hb => World.cell?_of_block (a := ⟨b, j, none⟩) (Below.heap_setCell w3 ⟨w.heap.size + 1 + 1, 4, none⟩ u b (by simp; omega))))
      all_goals
        go_wp2_with fail
        go_roundw
        case measure => simp [intOf]; omega
        case rel =>
          obtain ⟨hown, hbel, hX, hZ, hY, hf⟩ := HX.out
          have hblk : ∀ b, b < wr.heap.size → b < w.heap.size + 2 → (w3.setCell ⟨w.heap.size + 1 + 1, 4, none⟩ (.slice A3 (k + 1) cap3)).heap[b]? = wr.heap[b]? := fun b hb h2 =>
            (Below.heap_setCell w3 ⟨w.heap.size + 1 + 1, 4, none⟩ _ b (by simp; omega)).trans ((hg3.block b (by simp; omega) (fun h => by have := (Qu.q_typed hown _ h.symm).1; omega)).trans (Below.block (B := wr.heap.size) (w := wr) (by with_reducible repeat (first | exact Below.refl _ _ | refine Below.alloc ?_ (by simp) _ | refine Below.drew ?_)) b hb))
          refine ⟨k + 1, _, by omega, by go_num, ?_, ?_, (hblk _ (by omega) (by omega)).trans hX, (hblk _ (by omega) (by omega)).trans hZ, Mem.set h3Y⟩
          · rw [flds_take_succ _ _ _ hf]
            exact Qu.q_move hq3 (fun j hj => Below.heap_setCell w3 ⟨w.heap.size + 1 + 1, 4, none⟩ _ j (by have := (Qu.q_typed hq3 _ hj).1; simp; omega))
          · refine Below.setCell (Below.grown ?_ hg3 (by simp; omega) (fun j hj => by have := (Qu.q_typed hown _ hj).1; omega)) (by simp; omega) _
            with_reducible repeat (first | exact hbel | refine Below.alloc ?_ (by first | omega | (simp; omega)) _ | refine Below.drew ?_)
    · have x0 := Mem.cell hZ (j := 0) rfl
      have x1 := Mem.cell hZ (j := 1) rfl
      have x2 := Mem.cell hZ (j := 2) rfl
      have x3 := Mem.cell hZ (j := 3) rfl
      have x4 := Mem.cell hZ (j := 4) rfl
      have v0 := Mem.free (j := 0) hZ
      have v1 := Mem.free (j := 1) hZ
      have v2 := Mem.free (j := 2) hZ
      have v3 := Mem.free (j := 3) hZ
      have v4 := Mem.free (j := 4) hZ
      have HX := Lib.hid (And.intro hown hbel)
      clear hown hbel hX hZ hY
      go_wp2_with fail
      obtain ⟨hown, hbel⟩ := HX.out
      have hke : k = e.fields.length := by omega
      subst hke
      rw [List.take_length] at hown
      refine bodyPost_ret (v := .agg #[.int .i64 e.session, .int .i64 e.seq, .int .i64 e.stamp, .string e.kind, .slice Av e.fields.length cv]) (by simp [results, Try.results10, go_sem, *]) rfl ⟨_, rfl, ?_, ?_⟩
      · have hrd := Rd_of_q (rows := e.fields.map Fld.cells) hown (by simp) (fld_rows e.fields)
        refine (Mem.Rd.mono (Mem.Rd.ch (S := fun k => k = w.heap.size + 1) hrd ?_ ?_) ?_)
        · with_reducible repeat (first | exact Mem.Ch.refl _ _ | refine Mem.Ch.set ?_ (.inr rfl))
        · intro k hk h
          have := (Qu.q_typed hown k hk).1
          omega
        · intro k hk
          have := (Qu.q_typed hown k hk).1
          omega
      · with_reducible repeat (first | exact hbel | refine Below.setCell ?_ (by simp) _)
end Go.Proofs.Ytbiicflcjipeeaa
