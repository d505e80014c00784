/- Whether two events are the same, as the document has it: what its users need of it. -/
import Derived.Test.YtbiicflcjipeeaaCmd
namespace Go.Proofs.Ytbiicflcjipeeaa
open Go.RowKit
set_option linter.unusedSimpArgs false
set_option linter.unusedVariables false
open Sp (fold intB textS bs)
attribute [local go_sem] Mem.run_store_float Mem.After.cell
set_option maxRecDepth 100000 in
set_option maxHeartbeats 2000000 in
theorem SameValue_self (v : Val) (w : World) :
    Calls Try.prog 68 #[.agg #[.int .i64 v.kind, .int .i64 v.n, .float .f64 v.f, .string v.s], .agg #[.int .i64 v.kind, .int .i64 v.n, .float .f64 v.f, .string v.s]] w fun r w' => r = .returned (.bool true) ∧ Below w.heap.size w w' := by
  obtain ⟨kind, n, f, s⟩ := v
  dsimp only
  have hb : ∀ w, Calls Try.prog 79 #[.float .f64 f] w fun e w' => e = .returned (.int .u64 (fbits f : Nat)) ∧ w' = w := fun w => (rBits_any f w).mono fun _ _ ⟨h, hw⟩ => ⟨h, hw.symm⟩
  have HB := Lib.hid hb
  clear hb
  go_enter Try.func68, Try.ntmps68
  go_wp2_with fail
  go_quiet ((go_at_call 79; exact Calls.quiet_of_same (HB.out _)))
  go_wp2_with fail
  go_ret
  exact ⟨rfl, Mem.bdrewN (((Below.refl _ _).alloc (Nat.le_refl _) _).alloc (by simp) _) _⟩
set_option maxRecDepth 100000 in
set_option maxHeartbeats 2000000 in
theorem Same_zero (e : Evt) (A : Option Addr) (cap : Nat) (w : World) :
    Calls Try.prog 47 #[.agg #[.int .i64 e.session, .int .i64 e.seq, .int .i64 e.stamp, .string e.kind, .slice A e.fields.length cap], .agg #[.int .i64 0, .int .i64 0, .int .i64 0, .string ⟨#[]⟩, .slice none 0 0]] w
      fun r w' => ∃ b, r = .returned (.bool b) ∧ (emptyB e = true → b = true) ∧ Below w.heap.size w w' := by
  have hbel : ∀ a b, Below w.heap.size w ((w.alloc a).alloc b) := fun a b => ((Below.refl _ _).alloc (Nat.le_refl _) _).alloc (by simp) _
  have HBel := Lib.hid hbel
  clear hbel
  by_cases h0 : e.fields.length = 0
  · have he : emptyB e = ((e.session == 0) && (e.seq == 0) && (e.stamp == 0) && e.kind.toList.isEmpty) := by unfold emptyB; rw [h0]; simp
    rw [h0]
    have HE := Lib.hid he
    clear he
    go_enter Try.func47, Try.ntmps47
    go_wp2_with fail
    all_goals first
      | (go_ret
         exact ⟨_, rfl, fun h => by rw [HE.out] at h; simp [*] at h, HBel.out _ _⟩)
      | (refine wp_loop_rounds 1 ?_
         rw [rounds_succ]
         go_wp2_with fail
         go_ret
         exact ⟨_, rfl, fun _ => rfl, HBel.out _ _⟩)
  · have he : emptyB e = false := by
      have h1 : ((e.fields.length : Int) == 0) = false := beq_eq_false_iff_ne.2 (by omega)
      unfold emptyB
      rw [h1, Bool.and_false]
    have HE := Lib.hid he
    clear he
    go_enter Try.func47, Try.ntmps47
    go_wp2_with fail
    all_goals
      go_ret
      exact ⟨_, rfl, fun h => by rw [HE.out] at h; exact Bool.noConfusion h, HBel.out _ _⟩
set_option maxRecDepth 100000 in
set_option maxHeartbeats 2000000 in
theorem Same_self (e : Evt) (va vb : Value) (ok ok' : Nat → Prop) (w : World) (ha : EvR w ok e va) (hb : EvR w ok' e vb) :
    Calls Try.prog 47 #[.agg #[.int .i64 e.session, .int .i64 e.seq, .int .i64 e.stamp, .string e.kind, va], .agg #[.int .i64 e.session, .int .i64 e.seq, .int .i64 e.stamp, .string e.kind, vb]] w
      fun r w' => r = .returned (.bool true) ∧ Below w.heap.size w w' := by
  obtain ⟨A, cap, rfl⟩ := ha.slice
  obtain ⟨A', cap', rfl⟩ := hb.slice
  have HA := Lib.hid ha
  have HB := Lib.hid hb
  clear ha hb
  obtain ⟨session, seq, stamp, kind, fields⟩ := e
  dsimp only
  have hmax : fields.length ≤ 9223372036854775807 := by have := Mem.Rd.len HA.out; rwa [List.length_map] at this
  have hX := Mem.old (Mem.new w (.cells #[.int .i64 session, .int .i64 seq, .int .i64 stamp, .string kind, .slice A fields.length cap] 42)) (.cells #[.int .i64 session, .int .i64 seq, .int .i64 stamp, .string kind, .slice A' fields.length cap'] 42)
  have hY := Mem.new (w.alloc (.cells #[.int .i64 session, .int .i64 seq, .int .i64 stamp, .string kind, .slice A fields.length cap] 42)) (.cells #[.int .i64 session, .int .i64 seq, .int .i64 stamp, .string kind, .slice A' fields.length cap'] 42)
  rw [show (w.alloc (.cells #[.int .i64 session, .int .i64 seq, .int .i64 stamp, .string kind, .slice A fields.length cap] 42)).heap.size = w.heap.size + 1 by simp] at hY
  have hbel : Below w.heap.size w ((w.alloc (.cells #[.int .i64 session, .int .i64 seq, .int .i64 stamp, .string kind, .slice A fields.length cap] 42)).alloc (.cells #[.int .i64 session, .int .i64 seq, .int .i64 stamp, .string kind, .slice A' fields.length cap'] 42)) := ((Below.refl _ _).alloc (Nat.le_refl _) _).alloc (by simp) _
  have HX := Lib.hid hX
  have HY := Lib.hid hY
  have HBel := Lib.hid hbel
  clear hX hY hbel
  go_enter Try.func47, Try.ntmps47
  go_wp2_with fail
  go_loopw [5] (fun i wr => ∃ k : Nat, k ≤ fields.length ∧ i = .int .i64 k ∧ Below w.heap.size w wr ∧ wr.heap[w.heap.size]? = some (.cells #[.int .i64 session, .int .i64 seq, .int .i64 stamp, .string kind, .slice A fields.length cap] 42 (0, 0)) ∧
      wr.heap[w.heap.size + 1]? = some (.cells #[.int .i64 session, .int .i64 seq, .int .i64 stamp, .string kind, .slice A' fields.length cap'] 42 (0, 0))) (fun i _ => fields.length - (intOf i).toNat)
  case atStart => exact ⟨0, Nat.zero_le _, rfl, HBel.out, HX.out, HY.out⟩
  case round =>
    obtain ⟨k, hk, rfl, hbel, hX, hY⟩ := hrel
    clear HX HY HBel
    have b4 : wr.cell? ⟨w.heap.size, 4, none⟩ = some (.slice A fields.length cap) := Mem.cell hX rfl
    have b4' : wr.cell? ⟨w.heap.size + 1, 4, none⟩ = some (.slice A' fields.length cap') := Mem.cell hY rfl
    have hl1 := Mem.lt hX
    have hl2 := Mem.lt hY
    have HX := Lib.hid hX
    have HY := Lib.hid hY
    clear hX hY
    by_cases hlt : k < fields.length
    · obtain ⟨f, hf⟩ : ∃ f, fields[k]? = some f := ⟨_, List.getElem?_eq_getElem hlt⟩
      obtain ⟨g, o, rfl, hg, hgl, hrow⟩ := (Mem.Rd.below HA.out hbel).row (k := k) (r := f.cells) (by rw [List.getElem?_map, hf]; rfl)
      obtain ⟨g', o', rfl, hg', hgl', hrow'⟩ := (Mem.Rd.below HB.out hbel).row (k := k) (r := f.cells) (by rw [List.getElem?_map, hf]; rfl)
      have c0 : wr.cell? ⟨g, o + k * 5, none⟩ = some (.string f.name) := hrow 0 _ rfl
      have c1 := hrow 1 _ rfl
      have c2 := hrow 2 _ rfl
      have c3 := hrow 3 _ rfl
      have c4 := hrow 4 _ rfl
      have d0 : wr.cell? ⟨g', o' + k * 5, none⟩ = some (.string f.name) := hrow' 0 _ rfl
      have d1 := hrow' 1 _ rfl
      have d2 := hrow' 2 _ rfl
      have d3 := hrow' 3 _ rfl
      have d4 := hrow' 4 _ rfl
      clear hf hrow hrow'
      go_wp2_with fail
      refine Mem.wp_region_after (by kernel_rfl) (by kernel_rfl) ?_
      repeat (go_big_quiet_step ((go_at_call 68; exact Mem.After.call _ (SameValue_self f.v _))))
      refine wpQuiet_nil ?_
      intro w3 hb3
      go_wp2_with fail
      go_roundw
      case rel => exact ⟨k + 1, by omega, by go_num, hbel.trans (hb3.mono hbel.size), (hb3.block _ hl1).trans HX.out, (hb3.block _ hl2).trans HY.out⟩
      case measure => simp [intOf]; try omega
    · go_wp2_with fail
      go_ret
      exact ⟨rfl, hbel⟩
end Go.Proofs.Ytbiicflcjipeeaa
