/- The document's Do at a put. -/
import Derived.Test.YtpdceondgbgpkaaDoorRDo2
import Derived.Test.YtpdceondgbgpkaaDoorRGet0
import Derived.Deep.RegionHeld3
namespace Go.Proofs.YtpdceondgbgpkaaDoor.Dsk
open Go.RowKit Go.Maps
set_option linter.unusedSimpArgs false
set_option linter.unusedVariables false
theorem woP_no (l : Fl) (k : ByteArray) : ∀ x ∈ woP l k, x.1 ≠ k := fun x hx => by
  have := (List.mem_filter.1 hx).2
  exact of_decide_eq_true this
set_option maxRecDepth 100000 in
set_option maxHeartbeats 8000000 in
theorem rdo_put (fl : Fl) (name s : ByteArray) (a : Nat) (v : Value) (ok : Nat → Prop) (w : World) (h : Mem.Rd w ok 2 v (fl.map fc)) (hlen : fl.length ≤ 900000) (old : ByteArray) (hold : (look name fl).getD ⟨#[]⟩ = old) (ha : a ≤ old.size) (hs : a + s.size ≤ 1099511627776) (hoz : old.size ≤ 9223372036854775807) :
    Calls Tryd.prog 13 #[v, .agg #[.int .i64 0, .string name, .int .i64 a, .string s]] w fun r w' => ∃ v', r = .returned v' ∧ Mem.Rd w' (fun g => w.heap.size ≤ g) 2 v' ((insP (name, splice old s a) (woP fl name)).map fc) ∧ Below w.heap.size w w' := by
  obtain ⟨w0, hw0⟩ : ∃ w0, w0 = w.alloc (.cells #[.int .i64 0, .string name, .int .i64 a, .string s] 36) := ⟨_, rfl⟩
  have b0 : Below w.heap.size w w0 := by rw [hw0]; exact (Below.refl _ _).alloc (Nat.le_refl _) _
  have x0 : w0.heap[w.heap.size]? = some (.cells #[.int .i64 0, .string name, .int .i64 a, .string s] 36 (0, 0)) := by rw [hw0]; exact Mem.new w _
  have hg := fun W (hb : Below w0.heap.size w0 W) => rget_any fl name v ok W ((h.below b0).below hb)
  rw [hold] at hg
  have hwo := fun W (hb : Below w0.heap.size w0 W) => rwithout_any fl name v ok W ((h.below b0).below hb) (Nat.le_trans hlen (by decide))
  have hwi := fun (t : ByteArray) (v' : Value) (ok' : Nat → Prop) W (hR : Mem.Rd W ok' 2 v' ((woP fl name).map fc)) => rwith_any (woP fl name) name t v' ok' W hR (Nat.le_trans (woP_len _ _) hlen) (woP_no fl name)
  have f0 : w0.cell? ⟨w.heap.size, 0, none⟩ = some (.int .i64 0) := Mem.cell x0 rfl
  have f1 : w0.cell? ⟨w.heap.size, 1, none⟩ = some (.string name) := Mem.cell x0 rfl
  have f2 : w0.cell? ⟨w.heap.size, 2, none⟩ = some (.int .i64 (a : Int)) := Mem.cell x0 rfl
  have f3 : w0.cell? ⟨w.heap.size, 3, none⟩ = some (.string s) := Mem.cell x0 rfl
  have hl0 := Mem.lt x0
  have ha' : (a : Int) ≤ (old.size : Int) := by omega
  have hez : (old.extract 0 a).size = a := by rw [ByteArray.size_extract]; omega
  have hez' : ((old.extract 0 a).size : Int) = (a : Int) := by omega
  have hB := Lib.hid b0
  clear h b0 x0 hold
  generalize (look name fl).isSome = is at hg
  subst hw0
  by_cases hsp : a + s.size < old.size
  · have ht : splice old s a = old.extract 0 a ++ s ++ old.extract (a + s.size) old.size := by unfold splice; rw [if_pos hsp]
    have hts : ((old.extract 0 a ++ s).size : Int) = (a : Int) + (s.size : Int) := by rw [ByteArray.size_append, hez]; omega
    have hsp' : (a : Int) + (s.size : Int) < (old.size : Int) := by omega
    have hcat : (a : Int) + (s.size : Int) ≤ 9223372036854775807 := by omega
    have hcat2 : (old.extract (a + s.size) old.size).size = old.size - (a + s.size) := by rw [ByteArray.size_extract]; omega
    rw [ht]
    go_enter Tryd.func13, Tryd.ntmps13
    go_wp2_with (go_at_call 28; refine (hg _ (Below.refl _ _)).mono ?_; rintro _ w1 ⟨rfl, hb1⟩; have q0 := (hb1.cell (p := ⟨w.heap.size, 0, none⟩) hl0).trans f0; have q1 := (hb1.cell (p := ⟨w.heap.size, 1, none⟩) hl0).trans f1; have q2 := (hb1.cell (p := ⟨w.heap.size, 2, none⟩) hl0).trans f2; have q3 := (hb1.cell (p := ⟨w.heap.size, 3, none⟩) hl0).trans f3)
    go_quiet (fail)
    go_wp2_with fail
    have D0 := Mem.bdrewN hb1
    go_region_held3 (fun W => W.cell? ⟨w.heap.size, 1, none⟩ = some (.string name) ∧ Below (w.alloc (.cells #[.int .i64 0, .string name, .int .i64 a, .string s] 36)).heap.size (w.alloc (.cells #[.int .i64 0, .string name, .int .i64 a, .string s] 36)) W)
      (first | exact ⟨e3, k3⟩ | exact ⟨e2, k2⟩ | exact ⟨q1, (Mem.bdrewN hb1 _).drew⟩ | exact ⟨q1, Mem.bdrewN hb1 _⟩)
      (first
        | (go_at_call 30; obtain ⟨_, hm⟩ := ‹_ ∧ _›; refine (hwo _ hm).mono ?_; rintro _ w2 ⟨v2, rfl, hR2, hb2⟩; have k2 := hm.trans (hb2.mono hm.size); have e2 := (k2.cell (p := ⟨w.heap.size, 1, none⟩) hl0).trans f1)
        | (go_at_call 29; obtain ⟨_, hm⟩ := ‹_ ∧ _›; refine (hwi _ _ _ _ hR2).mono ?_; rintro _ w3 ⟨v3, rfl, hR3, hb3⟩; have k3 := hm.trans (hb3.mono hm.size); have e3 := (k3.cell (p := ⟨w.heap.size, 1, none⟩) hl0).trans f1))
    go_wp2_with fail
    go_ret
    exact ⟨_, rfl, hR3.mono (fun k hk => Nat.le_trans hB.out.size (Nat.le_trans k2.size hk)), hB.out.trans (k3.mono hB.out.size)⟩
  · have hex : splice old s a = old.extract 0 a ++ s := by
      unfold splice
      rw [if_neg hsp]
      apply ByteArray.ext
      simp
    have hts : ((old.extract 0 a ++ s).size : Int) = (a : Int) + (s.size : Int) := by rw [ByteArray.size_append, hez]; omega
    have hsp' : ¬ (a : Int) + (s.size : Int) < (old.size : Int) := by omega
    have hcat : (a : Int) + (s.size : Int) ≤ 9223372036854775807 := by omega
    rw [hex]
    go_enter Tryd.func13, Tryd.ntmps13
    go_wp2_with (go_at_call 28; refine (hg _ (Below.refl _ _)).mono ?_; rintro _ w1 ⟨rfl, hb1⟩; have q0 := (hb1.cell (p := ⟨w.heap.size, 0, none⟩) hl0).trans f0; have q1 := (hb1.cell (p := ⟨w.heap.size, 1, none⟩) hl0).trans f1; have q2 := (hb1.cell (p := ⟨w.heap.size, 2, none⟩) hl0).trans f2; have q3 := (hb1.cell (p := ⟨w.heap.size, 3, none⟩) hl0).trans f3)
    go_quiet (fail)
    go_wp2_with fail
    have D0 := Mem.bdrewN hb1
    go_region_held3 (fun W => W.cell? ⟨w.heap.size, 1, none⟩ = some (.string name) ∧ Below (w.alloc (.cells #[.int .i64 0, .string name, .int .i64 a, .string s] 36)).heap.size (w.alloc (.cells #[.int .i64 0, .string name, .int .i64 a, .string s] 36)) W)
      (first | exact ⟨e3, k3⟩ | exact ⟨e2, k2⟩ | exact ⟨q1, (Mem.bdrewN hb1 _).drew⟩ | exact ⟨q1, Mem.bdrewN hb1 _⟩)
      (first
        | (go_at_call 30; obtain ⟨_, hm⟩ := ‹_ ∧ _›; refine (hwo _ hm).mono ?_; rintro _ w2 ⟨v2, rfl, hR2, hb2⟩; have k2 := hm.trans (hb2.mono hm.size); have e2 := (k2.cell (p := ⟨w.heap.size, 1, none⟩) hl0).trans f1)
        | (go_at_call 29; obtain ⟨_, hm⟩ := ‹_ ∧ _›; refine (hwi _ _ _ _ hR2).mono ?_; rintro _ w3 ⟨v3, rfl, hR3, hb3⟩; have k3 := hm.trans (hb3.mono hm.size); have e3 := (k3.cell (p := ⟨w.heap.size, 1, none⟩) hl0).trans f1))
    go_wp2_with fail
    go_ret
    exact ⟨_, rfl, hR3.mono (fun k hk => Nat.le_trans hB.out.size (Nat.le_trans k2.size hk)), hB.out.trans (k3.mono hB.out.size)⟩
end Go.Proofs.YtpdceondgbgpkaaDoor.Dsk
