/- ShelfNil: the walk. -/
import Derived.Test.YthaehoefbejadaaDoorShl8
import Derived.Test.YthaehoefbejadaaDoorRCrc
namespace Go.Proofs.YthaehoefbejadaaDoor
open Go.RowKit
set_option linter.unusedSimpArgs false
set_option linter.unusedVariables false
open Dsk (DiskAt Dk)
def dn : Dk := Dk.new.fail 0
theorem dn_down : dn.down = true := rfl
theorem got_nil (f : ByteArray) (w : World) : Got (.pointer none) f ⟨#[]⟩ 1 w := fun W _ => (Dsk.Read_nil f W).mono fun _ _ ⟨h1, h2⟩ => ⟨h1, by rw [h2]; exact Below.refl _ _⟩
theorem got_down {S : Nat → Prop} {p N : Nat} {w : World} (f : ByteArray) (hf : f.size ≤ maxLen) (h : DiskAt w S p N dn) : Got (.pointer (some ⟨p, 0, none⟩)) f ⟨#[]⟩ 8 w :=
  got_of h hf (by rw [if_pos (by unfold Dk.there; rw [if_pos dn_down]; decide)]) (by unfold Dk.there; rw [if_pos dn_down])
theorem nilV (w : World) : Calls Tryd.prog 27 #[.pointer none] w fun r w' => r = .returned (.tuple #[.agg #[.int .i64 0, .int .i64 0], .int .i64 1]) ∧ Below w.heap.size w w' :=
  loadV_err _ w 1 (by decide) (by decide) (load_bad _ _ 1 (by decide) w (got_nil _ w))
theorem nilS (w : World) : Calls Tryd.prog 28 #[.pointer none] w fun r w' => r = .returned (.tuple #[.agg #[.int .i64 0, .int .i64 0, .int .i64 0, .string ⟨#[]⟩], .bool false, .int .i64 1]) ∧ Below w.heap.size w w' :=
  loadS_err _ w 1 (by decide) (by decide) (load_bad _ _ 1 (by decide) w (got_nil _ w))
theorem downV {S : Nat → Prop} {p N : Nat} {w : World} (h : DiskAt w S p N dn) : Calls Tryd.prog 27 #[.pointer (some ⟨p, 0, none⟩)] w fun r w' => r = .returned (.tuple #[.agg #[.int .i64 0, .int .i64 0], .int .i64 8]) ∧ Below w.heap.size w w' :=
  loadV_err _ w 8 (by decide) (by decide) (load_bad _ _ 8 (by decide) w (got_down _ (by decide) h))
theorem downS {S : Nat → Prop} {p N : Nat} {w : World} (h : DiskAt w S p N dn) : Calls Tryd.prog 28 #[.pointer (some ⟨p, 0, none⟩)] w fun r w' => r = .returned (.tuple #[.agg #[.int .i64 0, .int .i64 0, .int .i64 0, .string ⟨#[]⟩], .bool false, .int .i64 8]) ∧ Below w.heap.size w w' :=
  loadS_err _ w 8 (by decide) (by decide) (load_bad _ _ 8 (by decide) w (got_down _ (by decide) h))
theorem downSave {S : Nat → Prop} {p N : Nat} {w : World} (h : DiskAt w S p N dn) : Calls Tryd.prog 30 #[.pointer (some ⟨p, 0, none⟩), .agg #[.int .i64 0, .int .i64 0]] w fun r w' => r = .returned (.int .i64 8) ∧ Below w.heap.size w w' := by
  refine (saveV_by p ⟨0, 0⟩ (Vt.text ⟨0, 0⟩).1 8 (fun W w' => Below W.heap.size W w') ⟨by decide, by decide⟩ (by unfold Vt.text; rw [if_pos (by decide)]) w (fun W hW => ?_)).mono ?_
  · exact save_down S p N dn _ _ W (h.below hW) dn_down (by decide) (by decide +kernel)
  · rintro _ w' ⟨rfl, W, hb, hb2⟩
    exact ⟨rfl, hb.trans (hb2.mono hb.size)⟩
set_option maxRecDepth 100000 in
set_option maxHeartbeats 8000000 in
theorem ShelfNil_any (a b c d m : Int) (s : ByteArray) (w : World) (hi : IsI64 b) : Calls Tryd.prog 7 #[.agg #[.int .i64 a, .int .i64 b], .agg #[.int .i64 c, .int .i64 d, .int .i64 m, .string s]] w fun r w' => r = .returned (.bool true) ∧ Below w.heap.size w w' := by
  have tokV : True := trivial
  have tokS : True := trivial
  have tokW : True := trivial
  have xv0 := Mem.old (Mem.new w (.cells #[.int .i64 a, .int .i64 b] 38)) (.cells #[.int .i64 c, .int .i64 d, .int .i64 m, .string s] 45)
  have xs0 := Mem.new (w.alloc (.cells #[.int .i64 a, .int .i64 b] 38)) (.cells #[.int .i64 c, .int .i64 d, .int .i64 m, .string s] 45)
  rw [show (w.alloc (.cells #[.int .i64 a, .int .i64 b] 38)).heap.size = w.heap.size + 1 by simp] at xs0
  have k0 : Below w.heap.size w ((w.alloc (.cells #[.int .i64 a, .int .i64 b] 38)).alloc (.cells #[.int .i64 c, .int .i64 d, .int .i64 m, .string s] 45)) := ((Below.refl _ w).alloc (Nat.le_refl _) _).alloc (by simp) _
  have hz0 : ((w.alloc (.cells #[.int .i64 a, .int .i64 b] 38)).alloc (.cells #[.int .i64 c, .int .i64 d, .int .i64 m, .string s] 45)).heap.size = w.heap.size + 2 := by simp
  have hpk := fun W => rpack_any ⟨#[]⟩ W (by decide)
  have hpz : (Crc.packB ⟨#[]⟩).size = 7 := by rw [Crc.packB_size]; rfl
  generalize Crc.packB ⟨#[]⟩ = pk at hpk hpz
  have hpz' : (pk.size : Int) = 7 := by omega
  clear hpz
  go_enter Tryd.func7, Tryd.ntmps7
  go_wp2_with (first
    | (go_at_call 9; refine (Dsk.New_any _).mono ?_; rintro _ w1 ⟨p, rfl, hb1, hD1⟩; have xv1 := (hb1.block w.heap.size (Mem.lt xv0)).trans xv0; have xs1 := (hb1.block (w.heap.size + 1) (Mem.lt xs0)).trans xs0; have k1 := k0.trans (hb1.mono k0.size); rw [hz0] at hD1; clear hb1 xv0 xs0 k0)
    | (go_at_call 15; refine (Dsk.Fail_any _ p 0 Dk.new 0 _ hD1 (by decide) Dk.inv_new (by decide)).mono ?_; rintro _ w2 ⟨rfl, hc2, hD2⟩; have xv2 := hc2.at_ xv1 (fun h => absurd h.1 (by omega)); have xs2 := hc2.at_ xs1 (fun h => absurd h.1 (by omega)); have k2 := k1.trans (hc2.below (B := w.heap.size) (fun k hk hS => absurd hS.1 (by omega)) k1.size); clear hc2 xv1 xs1 k1 hD1)
    | (go_at_call 27; have _t := tokV; refine (nilV _).mono ?_; rintro _ w3 ⟨rfl, hb3⟩; have xv3 := (hb3.block w.heap.size (Mem.lt xv2)).trans xv2; have xs3 := (hb3.block (w.heap.size + 1) (Mem.lt xs2)).trans xs2; have k3 := k2.trans (hb3.mono k2.size); have hD3 := hD2.below hb3; clear hb3 xv2 xs2 k2 hD2 tokV; have yv3 := Mem.old xv3 (.cells #[.int .i64 0, .int .i64 0] 38); have ys3 := Mem.old xs3 (.cells #[.int .i64 0, .int .i64 0] 38); have j3 := k3.alloc k3.size (.cells #[.int .i64 0, .int .i64 0] 38); have hE3 := hD3.below ((Below.refl _ _).alloc (Nat.le_refl _) (.cells #[.int .i64 0, .int .i64 0] 38)); clear xv3 xs3 k3 hD3)
    | (go_at_call 28; have _t := tokS; refine (nilS _).mono ?_; rintro _ w4 ⟨rfl, hb4⟩; have xv4 := (hb4.block w.heap.size (Mem.lt yv3)).trans yv3; have xs4 := (hb4.block (w.heap.size + 1) (Mem.lt ys3)).trans ys3; have k4 := j3.trans (hb4.mono j3.size); have hD4 := hE3.below hb4; clear hb4 yv3 ys3 j3 hE3 tokS; have yv4 := Mem.old xv4 (.cells #[.int .i64 0, .int .i64 0, .int .i64 0, .string ⟨#[]⟩] 45); have ys4 := Mem.old xs4 (.cells #[.int .i64 0, .int .i64 0, .int .i64 0, .string ⟨#[]⟩] 45); have j4 := k4.alloc k4.size (.cells #[.int .i64 0, .int .i64 0, .int .i64 0, .string ⟨#[]⟩] 45); have hE4 := hD4.below ((Below.refl _ _).alloc (Nat.le_refl _) (.cells #[.int .i64 0, .int .i64 0, .int .i64 0, .string ⟨#[]⟩] 45)); clear xv4 xs4 k4 hD4)
    | (go_at_call 27; refine (downV hE4).mono ?_; rintro _ w5 ⟨rfl, hb5⟩; have xv5 := (hb5.block w.heap.size (Mem.lt yv4)).trans yv4; have xs5 := (hb5.block (w.heap.size + 1) (Mem.lt ys4)).trans ys4; have k5 := j4.trans (hb5.mono j4.size); have hD5 := hE4.below hb5; clear hb5 yv4 ys4 j4 hE4; have yv5 := Mem.old xv5 (.cells #[.int .i64 0, .int .i64 0] 38); have ys5 := Mem.old xs5 (.cells #[.int .i64 0, .int .i64 0] 38); have j5 := k5.alloc k5.size (.cells #[.int .i64 0, .int .i64 0] 38); have hE5 := hD5.below ((Below.refl _ _).alloc (Nat.le_refl _) (.cells #[.int .i64 0, .int .i64 0] 38)); clear xv5 xs5 k5 hD5)
    | (go_at_call 28; refine (downS hE5).mono ?_; rintro _ w6 ⟨rfl, hb6⟩; have xv6 := (hb6.block w.heap.size (Mem.lt yv5)).trans yv5; have xs6 := (hb6.block (w.heap.size + 1) (Mem.lt ys5)).trans ys5; have k6 := j5.trans (hb6.mono j5.size); have hD6 := hE5.below hb6; clear hb6 yv5 ys5 j5 hE5; have yv6 := Mem.old xv6 (.cells #[.int .i64 0, .int .i64 0, .int .i64 0, .string ⟨#[]⟩] 45); have ys6 := Mem.old xs6 (.cells #[.int .i64 0, .int .i64 0, .int .i64 0, .string ⟨#[]⟩] 45); have j6 := k6.alloc k6.size (.cells #[.int .i64 0, .int .i64 0, .int .i64 0, .string ⟨#[]⟩] 45); have hE6 := hD6.below ((Below.refl _ _).alloc (Nat.le_refl _) (.cells #[.int .i64 0, .int .i64 0, .int .i64 0, .string ⟨#[]⟩] 45)); clear xv6 xs6 k6 hD6)
    | (go_at_call 29; refine (hpk _).mono ?_; rintro _ w7 ⟨rfl, hb7⟩; have xv7 := (hb7.block w.heap.size (Mem.lt yv6)).trans yv6; have xs7 := (hb7.block (w.heap.size + 1) (Mem.lt ys6)).trans ys6; have k7 := j6.trans (hb7.mono j6.size); have hD7 := hE6.below hb7; clear hb7 yv6 ys6 j6 hE6)
    | (go_at_call 18; refine (awake7_any _).mono ?_; rintro _ w8 ⟨rfl, hb8⟩; have xv8 := (hb8.block w.heap.size (Mem.lt xv7)).trans xv7; have xs8 := (hb8.block (w.heap.size + 1) (Mem.lt xs7)).trans xs7; have k8 := k7.trans (hb8.mono k7.size); have hD8 := hD7.below hb8; have cv0_8 : w8.cell? ⟨w.heap.size, 0, none⟩ = some (.int .i64 a) := Mem.cell xv8 rfl; have cv1_8 : w8.cell? ⟨w.heap.size, 1, none⟩ = some (.int .i64 b) := Mem.cell xv8 rfl; have cs0_8 : w8.cell? ⟨w.heap.size + 1, 0, none⟩ = some (.int .i64 c) := Mem.cell xs8 rfl; have cs1_8 : w8.cell? ⟨w.heap.size + 1, 1, none⟩ = some (.int .i64 d) := Mem.cell xs8 rfl; have cs2_8 : w8.cell? ⟨w.heap.size + 1, 2, none⟩ = some (.int .i64 m) := Mem.cell xs8 rfl; have cs3_8 : w8.cell? ⟨w.heap.size + 1, 3, none⟩ = some (.string s) := Mem.cell xs8 rfl; clear hb8 xv7 xs7 k7 hD7)
    | (go_at_call 30; have _t := tokW; refine (saveV_nil ⟨a, b⟩ hi _).mono ?_; rintro _ w9 ⟨rfl, hb9⟩; have xv9 := (hb9.block w.heap.size (Mem.lt xv8)).trans xv8; have xs9 := (hb9.block (w.heap.size + 1) (Mem.lt xs8)).trans xs8; have k9 := k8.trans (hb9.mono k8.size); have hD9 := hD8.below hb9; have cv0_9 : w9.cell? ⟨w.heap.size, 0, none⟩ = some (.int .i64 a) := Mem.cell xv9 rfl; have cv1_9 : w9.cell? ⟨w.heap.size, 1, none⟩ = some (.int .i64 b) := Mem.cell xv9 rfl; have cs0_9 : w9.cell? ⟨w.heap.size + 1, 0, none⟩ = some (.int .i64 c) := Mem.cell xs9 rfl; have cs1_9 : w9.cell? ⟨w.heap.size + 1, 1, none⟩ = some (.int .i64 d) := Mem.cell xs9 rfl; have cs2_9 : w9.cell? ⟨w.heap.size + 1, 2, none⟩ = some (.int .i64 m) := Mem.cell xs9 rfl; have cs3_9 : w9.cell? ⟨w.heap.size + 1, 3, none⟩ = some (.string s) := Mem.cell xs9 rfl; clear hb9 xv8 xs8 k8 hD8 tokW)
    | (go_at_call 31; refine (saveS_nil ⟨c, d, m, s⟩ _).mono ?_; rintro _ w10 ⟨rfl, hb10⟩; have xv10 := (hb10.block w.heap.size (Mem.lt xv9)).trans xv9; have xs10 := (hb10.block (w.heap.size + 1) (Mem.lt xs9)).trans xs9; have k10 := k9.trans (hb10.mono k9.size); have hD10 := hD9.below hb10; clear hb10 xv9 xs9 k9 hD9)
    | (go_at_call 30; refine (downSave hD10).mono ?_; rintro _ w11 ⟨rfl, hb11⟩; have xv11 := (hb11.block w.heap.size (Mem.lt xv10)).trans xv10; have xs11 := (hb11.block (w.heap.size + 1) (Mem.lt xs10)).trans xs10; have k11 := k10.trans (hb11.mono k10.size); have hD11 := hD10.below hb11; clear hb11 xv10 xs10 k10 hD10))
  go_ret
  exact ⟨rfl, k11⟩
end Go.Proofs.YthaehoefbejadaaDoor
