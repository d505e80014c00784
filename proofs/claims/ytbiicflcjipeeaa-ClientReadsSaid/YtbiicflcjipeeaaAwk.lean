/- The page's example of the layer's statements: 'awake' says true. -/
import Derived.Test.YtbiicflcjipeeaaTold3
namespace Go.Proofs.Ytbiicflcjipeeaa
open Go.RowKit
set_option linter.unusedSimpArgs false
set_option linter.unusedVariables false
open Sp (fold intB textS bs)
attribute [local go_sem] Mem.run_store_float Mem.After.cell
def evA : Evt := ⟨0, 0, 0, ⟨#[97]⟩, []⟩
theorem wordA : Word ⟨#[97]⟩ := by
  refine ⟨fun i h => ?_, by decide, by decide⟩
  have h' : i < 1 := h
  obtain rfl : i = 0 := by omega
  exact .inl ⟨by show 97 ≤ 97; omega, by show 97 ≤ 122; omega⟩
theorem evA_ok (s q : Int) (h : 0 ≤ s) (h2 : s ≤ 549755813888) (h3 : 0 ≤ q) (h4 : q ≤ 549755813888) : (evA.num s q).ok :=
  ⟨⟨h, h2⟩, ⟨h3, h4⟩, ⟨by show (0 : Int) ≤ 0; omega, by show (0 : Int) ≤ 549755813888; omega⟩, wordA, by show 0 ≤ 8; omega, fun i f hf => by simp [evA, Evt.num] at hf⟩
theorem evA_chk (s q : Int) (h : 0 ≤ s) (h2 : s ≤ 549755813888) (h3 : 0 ≤ q) (h4 : q ≤ 549755813888) : (evA.num s q).chk = 0 := chk_ok (evA_ok s q h h2 h3 h4)
theorem evA_small (s q : Int) : (evA.num s q).small := ⟨by show 1 ≤ 140737488351232; omega, fun f hf => by simp [evA, Evt.num] at hf⟩
theorem evA_wf (s q : Int) (h : IsI64 s) (h2 : IsI64 q) : (evA.num s q).wf := ⟨h, h2, by show IsI64 0; unfold IsI64; decide, fun f hf => by simp [evA, Evt.num] at hf⟩
theorem evA_cmd : cmdB (evA.num 4 1) = true := cmdB_iff.2 ⟨evA_ok 4 1 (by decide) (by decide) (by decide) (by decide), by decide, by decide⟩
theorem evA_cmdE : cmdE (evA.num 4 1) = 0 := by unfold cmdE; rw [if_pos evA_cmd]
theorem evA_cmdS : cmdS (evA.num 4 1) = ⟨#[2, 4, 1, 0, 1, 97, 0]⟩ := by
  unfold cmdS
  rw [if_pos evA_cmd]
  decide +kernel
theorem evA_nil (w : World) (ok : Nat → Prop) : EvR w ok evA (.slice none 0 0) := Mem.Rd.nil _ _ _
theorem open1 : numS 1 = ⟨#[1]⟩ := by decide +kernel
set_option maxRecDepth 100000 in
set_option maxHeartbeats 4000000 in
theorem awake_any (w : World) :
    Calls Try.prog 8 #[] w fun r w' => r = .returned (.bool true) ∧ Below w.heap.size w w' := by
  go_enter Try.func8, Try.ntmps8
  go_wp2_with (go_at_call 7; refine (NewTeller_yes 2 _ (by decide) (by decide)).mono ?_; rintro _ w1 ⟨b, rfl, hb1, hbb, ht1⟩)
  refine (Add_yes _ b _ evA (.slice none 0 0) (fun _ => True) w1 ht1 (fun k hk => hk.2) (evA_nil _ _) (evA_small 1 1) (evA_chk 1 1 (by decide) (by decide) (by decide) (by decide)) (by decide) (by decide)).mono ?_
  rintro _ w2 ⟨rfl, hc2, v2, ht2⟩
  obtain ⟨S, hS⟩ : ∃ S, S = fun k => w.heap.size ≤ k ∧ k < w1.heap.size ∨ w1.heap.size ≤ k ∧ k < w2.heap.size := ⟨_, rfl⟩
  have hS0 : ∀ k, S k → w.heap.size ≤ k := fun k hk => by rw [hS] at hk; have := hb1.size; omega
  have hS2 : ∀ k, S k → k < w2.heap.size := fun k hk => by rw [hS] at hk; have := hc2.size; omega
  replace ht2 : TellerAt w2 S b ⟨2, 0, 0, 0, [(evA.num 1 1, v2)], []⟩ := by rw [hS]; exact ht2
  have hB2 : Below w.heap.size w w2 := hb1.trans (hc2.below (fun k h1 h2 => by have h3 : w.heap.size ≤ k ∧ k < w1.heap.size := h2; omega) (hb1.size))
  have HB2 := Lib.hid hB2
  have HT2 := Lib.hid ht2
  clear hc2 hB2 hb1 ht1 hS ht2
  go_wp2_with (go_at_call 28; refine (Ask_open _ b _ _ HT2.out (by simp) rfl).mono ?_; rintro _ w3 ⟨rfl, hb3⟩)
  rw [open1]
  refine (Told_open S b ⟨2, 0, 0, 0, [(evA.num 1 1, v2)], []⟩ 0 4 (-1) _ ((HT2.out.below hb3).below ((Below.refl _ _).alloc (Nat.le_refl _) _)) (by simp) rfl rfl (by decide) (by decide)).mono ?_
  rintro _ w4 ⟨rfl, hc4, ht4⟩
  have hA4 := hc4.at_ (Mem.new w3 _) (fun h => by have := hS2 _ h; have := hb3.size; omega)
  have hB4 : Below w.heap.size w w4 := (HB2.out.trans (hb3.mono HB2.out.size)).trans (((Below.refl _ _).alloc (by have := HB2.out.size; have := hb3.size; omega) _).trans (hc4.below (fun k h1 h2 => by have := hS0 k h2; omega) (by have := HB2.out.size; have := hb3.size; simp; omega)))
  have hz3 : w2.heap.size ≤ w3.heap.size := hb3.size
  have hz4 : w3.heap.size < w4.heap.size := Mem.lt hA4
  obtain ⟨S4, hS⟩ : ∃ S4, S4 = fun k => S k ∨ (w3.alloc (Obj.cells #[Value.int IntKind.i64 0, Value.string ⟨#[1]⟩, Value.string ⟨#[]⟩, Value.int IntKind.i64 0, Value.int IntKind.i64 0] 63)).heap.size ≤ k ∧ k < w4.heap.size := ⟨_, rfl⟩
  have hS40 : ∀ k, S4 k → w.heap.size ≤ k := fun k hk => by rw [hS] at hk; have := HB2.out.size; simp at hk; rcases hk with hk | hk; exact hS0 k hk; omega
  have hS42 : ∀ k, S4 k → k < w4.heap.size ∧ k ≠ w3.heap.size := fun k hk => by rw [hS] at hk; simp at hk; rcases hk with hk | hk; (have := hS2 k hk; omega); omega
  replace ht4 : TellerAt w4 S4 b ⟨2, 0, 4, 0, [(evA.num 1 1, v2)], []⟩ := by rw [hS]; exact ht4
  have HA4 := Lib.hid hA4
  have HB4 := Lib.hid hB4
  have HT4 := Lib.hid ht4
  clear hA4 hB4 ht4 hS hc4 hb3
  have ev41 : (evA.num 1 1).num 4 (0 + 1) = evA.num 4 1 := rfl
  have K1 := Lib.hid ev41
  clear ev41
  go_wp2_with fail
  refine (Ask_event S4 b ⟨2, 0, 4, 0, [(evA.num 1 1, v2)], []⟩ (evA.num 1 1, v2) [] w4 HT4.out rfl (by simp) (by simp) (by simp) (by rw [K1.out]; exact evA_small 4 1) (by rw [K1.out]; exact evA_wf 4 1 (by unfold IsI64; decide) (by unfold IsI64; decide))).mono ?_
  rintro _ w5 ⟨rfl, hb5⟩
  have hA5 := (hb5.block _ hz4).trans HA4.out
  have hz5 := hb5.size
  have HB5 := Lib.hid (HB4.out.trans (hb5.mono HB4.out.size))
  have HT5 := Lib.hid (HT4.out.below hb5)
  have hS52 : ∀ k, S4 k → k < w5.heap.size ∧ k ≠ w3.heap.size := fun k hk => by have := hS42 k hk; omega
  have HA5 := Lib.hid hA5
  clear hb5 hA5 HT4 HB4 HA4
  rw [K1.out, evA_cmdS, evA_cmdE]
  go_wp2_with fail
  obtain ⟨X, hX⟩ : ∃ X, X = Obj.cells #[Value.int IntKind.i64 0, Value.string ⟨#[2, 4, 1, 0, 1, 97, 0]⟩, Value.string ⟨#[]⟩, Value.int IntKind.i64 0, Value.int IntKind.i64 0] 63 := ⟨_, rfl⟩
  rw [← hX]
  refine (Late_any S4 b _ _ (HT5.out.below ((Below.refl _ _).alloc (Nat.le_refl _) X)) ⟨by simp, by simp, by simp, by simp⟩).mono ?_
  rintro _ w6 ⟨rfl, hc6, ht6⟩
  have hX6 := hc6.at_ (Mem.new w5 X) (fun h => by have := hS52 _ h; omega)
  have hA6 := hc6.at_ (Mem.old HA5.out X) (fun h => by have := hS52 _ h; omega)
  have hz6 : w5.heap.size < w6.heap.size := Mem.lt hX6
  have HB6 := Lib.hid (HB5.out.trans (((Below.refl _ _).alloc HB5.out.size X).trans (hc6.below (fun k h1 h2 => by have := hS40 k h2; omega) (by have := HB5.out.size; simp; omega))))
  have HX6 := Lib.hid hX6
  have HA6 := Lib.hid hA6
  have HT6 := Lib.hid ht6
  have HX := Lib.hid hX
  clear hX6 hA6 hc6 ht6 HB5 HT5 HA5 hX
  go_wp2_with fail
  refine (Ask_event S4 b _ (evA.num 1 1, v2) [] w6 HT6.out rfl (by simp) (by simp) (by simp) (by rw [K1.out]; exact evA_small 4 1) (by rw [K1.out]; exact evA_wf 4 1 (by unfold IsI64; decide) (by unfold IsI64; decide))).mono ?_
  rintro _ w7 ⟨rfl, hb7⟩
  have hX7 := (hb7.block _ hz6).trans HX6.out
  have hA7 := (hb7.block _ (by omega)).trans HA6.out
  have HB7 := Lib.hid (HB6.out.trans (hb7.mono HB6.out.size))
  have hz7 := hb7.size
  rw [HX.out] at hX7
  have a0 : ∀ o, (w7.alloc o).cell? ⟨w3.heap.size, 0, none⟩ = some (.int .i64 0) := fun o => Mem.cell (Mem.old hA7 o) (j := 0) rfl
  have a1 : ∀ o, (w7.alloc o).cell? ⟨w3.heap.size, 1, none⟩ = some (.string ⟨#[1]⟩) := fun o => Mem.cell (Mem.old hA7 o) (j := 1) rfl
  have b0 : ∀ o, (w7.alloc o).cell? ⟨w5.heap.size, 0, none⟩ = some (.int .i64 0) := fun o => Mem.cell (Mem.old hX7 o) (j := 0) rfl
  have b1 : ∀ o, (w7.alloc o).cell? ⟨w5.heap.size, 1, none⟩ = some (.string ⟨#[2, 4, 1, 0, 1, 97, 0]⟩) := fun o => Mem.cell (Mem.old hX7 o) (j := 1) rfl
  have hn : nextTo 0 2 = 1 := by decide
  clear hb7 HX6 HA6 HT6 HB6 hX7 hA7
  rw [K1.out, evA_cmdS, evA_cmdE]
  go_wp2_with fail
  go_ret
  exact ⟨Mem.ret_bool (by first | rfl | decide), HB7.out.alloc (by have := HB7.out.size; omega) _⟩
end Go.Proofs.Ytbiicflcjipeeaa
