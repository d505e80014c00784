/- disk: a nil disk, and one that is down; DiskNil. -/
import Derived.Test.YthaehoefbejadaaDoorDsk9
import Derived.Test.YthaehoefbejadaaDoorDskS
namespace Go.Proofs.YthaehoefbejadaaDoor.Dsk
open Go.RowKit Go.Maps
set_option linter.unusedSimpArgs false
set_option linter.unusedVariables false
set_option maxRecDepth 100000 in
set_option maxHeartbeats 2000000 in
theorem there_nil (f : ByteArray) (w : World) : Calls Tryd.prog 48 #[.pointer none, .string f] w fun r w' => r = .returned (.int .i64 1) ∧ w' = w := by
  go_enter Tryd.func48, Tryd.ntmps48
  go_wp2_with (go_at_call 37; refine (ready_nil _).mono ?_; rintro _ w1 ⟨rfl, rfl⟩)
  go_ret
  exact ⟨rfl, rfl⟩
set_option maxRecDepth 100000 in
set_option maxHeartbeats 2000000 in
theorem Put_nil (f : ByteArray) (a : Int) (s : ByteArray) (w : World) : Calls Tryd.prog 11 #[.pointer none, .string f, .int .i64 a, .string s] w fun r w' => r = .returned (.int .i64 1) ∧ w' = w := by
  go_enter Tryd.func11, Tryd.ntmps11
  go_wp2_with (go_at_call 37; refine (ready_nil _).mono ?_; rintro _ w1 ⟨rfl, rfl⟩)
  go_ret
  exact ⟨rfl, rfl⟩
set_option maxRecDepth 100000 in
set_option maxHeartbeats 2000000 in
theorem Trim_nil (f : ByteArray) (a : Int) (w : World) : Calls Tryd.prog 42 #[.pointer none, .string f, .int .i64 a] w fun r w' => r = .returned (.int .i64 1) ∧ w' = w := by
  go_enter Tryd.func42, Tryd.ntmps42
  go_wp2_with (go_at_call 48; refine (there_nil _ _).mono ?_; rintro _ w1 ⟨rfl, rfl⟩)
  go_ret
  exact ⟨rfl, rfl⟩
set_option maxRecDepth 100000 in
set_option maxHeartbeats 2000000 in
theorem Move_nil (f t : ByteArray) (w : World) : Calls Tryd.prog 43 #[.pointer none, .string f, .string t] w fun r w' => r = .returned (.int .i64 1) ∧ w' = w := by
  go_enter Tryd.func43, Tryd.ntmps43
  go_wp2_with (first | (go_at_call 37; refine (ready_nil _).mono ?_; rintro _ w1 ⟨rfl, rfl⟩) | (go_at_call 48; refine (there_nil _ _).mono ?_; rintro _ w1 ⟨rfl, rfl⟩))
  go_ret
  exact ⟨rfl, rfl⟩
set_option maxRecDepth 100000 in
set_option maxHeartbeats 2000000 in
theorem Drop_nil (f : ByteArray) (w : World) : Calls Tryd.prog 44 #[.pointer none, .string f] w fun r w' => r = .returned (.int .i64 1) ∧ w' = w := by
  go_enter Tryd.func44, Tryd.ntmps44
  go_wp2_with (go_at_call 48; refine (there_nil _ _).mono ?_; rintro _ w1 ⟨rfl, rfl⟩)
  go_ret
  exact ⟨rfl, rfl⟩
set_option maxRecDepth 100000 in
set_option maxHeartbeats 2000000 in
theorem Sync_nil (w : World) : Calls Tryd.prog 12 #[.pointer none] w fun r w' => r = .returned (.int .i64 1) ∧ w' = w := by
  go_enter Tryd.func12, Tryd.ntmps12
  go_wp2_with (go_at_call 37; refine (ready_nil _).mono ?_; rintro _ w1 ⟨rfl, rfl⟩)
  go_ret
  exact ⟨rfl, rfl⟩
set_option maxRecDepth 100000 in
set_option maxHeartbeats 2000000 in
theorem Read_nil (f : ByteArray) (w : World) : Calls Tryd.prog 17 #[.pointer none, .string f] w fun r w' => r = .returned (.tuple #[.string ⟨#[]⟩, .int .i64 1]) ∧ w' = w := by
  go_enter Tryd.func17, Tryd.ntmps17
  go_wp2_with (go_at_call 48; refine (there_nil _ _).mono ?_; rintro _ w1 ⟨rfl, rfl⟩)
  exact bodyPost_ret (v := .tuple #[.string ⟨#[]⟩, .int .i64 1]) (by simp [results, Tryd.results17, go_sem, *]) rfl ⟨rfl, rfl⟩
set_option maxRecDepth 100000 in
set_option maxHeartbeats 2000000 in
theorem Names_nil (w : World) : Calls Tryd.prog 32 #[.pointer none] w fun r w' => r = .returned (.slice none 0 0) ∧ w' = w := by
  go_enter Tryd.func32, Tryd.ntmps32
  go_wp2_with (go_at_call 37; refine (ready_nil _).mono ?_; rintro _ w1 ⟨rfl, rfl⟩)
  go_ret
  exact ⟨rfl, rfl⟩
set_option maxRecDepth 100000 in
set_option maxHeartbeats 2000000 in
theorem Used_nil (w : World) : Calls Tryd.prog 33 #[.pointer none] w fun r w' => r = .returned (.int .i64 0) ∧ w' = w := by
  go_enter Tryd.func33, Tryd.ntmps33
  go_wp2_with (go_at_call 37; refine (ready_nil _).mono ?_; rintro _ w1 ⟨rfl, rfl⟩)
  go_ret
  exact ⟨rfl, rfl⟩
set_option maxRecDepth 100000 in
set_option maxHeartbeats 2000000 in
theorem Waits_nil (w : World) : Calls Tryd.prog 34 #[.pointer none] w fun r w' => r = .returned (.int .i64 0) ∧ w' = w := by
  go_enter Tryd.func34, Tryd.ntmps34
  go_wp2_with (go_at_call 37; refine (ready_nil _).mono ?_; rintro _ w1 ⟨rfl, rfl⟩)
  go_ret
  exact ⟨rfl, rfl⟩
set_option maxRecDepth 100000 in
set_option maxHeartbeats 2000000 in
theorem Calls_nil (w : World) : Calls Tryd.prog 35 #[.pointer none] w fun r w' => r = .returned (.int .i64 0) ∧ w' = w := by
  go_enter Tryd.func35, Tryd.ntmps35
  go_wp2_with fail
  go_ret
  exact ⟨rfl, rfl⟩
set_option maxRecDepth 100000 in
set_option maxHeartbeats 2000000 in
theorem Down_nil (w : World) : Calls Tryd.prog 36 #[.pointer none] w fun r w' => r = .returned (.bool true) ∧ w' = w := by
  go_enter Tryd.func36, Tryd.ntmps36
  go_wp2_with fail
  go_ret
  exact ⟨rfl, rfl⟩
set_option maxRecDepth 100000 in
set_option maxHeartbeats 2000000 in
theorem Room_nil (n : Int) (w : World) : Calls Tryd.prog 46 #[.pointer none, .int .i64 n] w fun r w' => r = .returned (.tuple #[]) ∧ w' = w := by
  go_enter Tryd.func46, Tryd.ntmps46
  go_wp2_with fail
  go_end0
  exact ⟨rfl, rfl⟩
set_option maxRecDepth 100000 in
set_option maxHeartbeats 2000000 in
theorem Trip_nil (n k : Int) (w : World) : Calls Tryd.prog 45 #[.pointer none, .int .i64 n, .int .i64 k] w fun r w' => r = .returned (.tuple #[]) ∧ w' = w := by
  go_enter Tryd.func45, Tryd.ntmps45
  go_wp2_with fail
  go_end0
  exact ⟨rfl, rfl⟩
set_option maxRecDepth 100000 in
set_option maxHeartbeats 2000000 in
theorem Wake_nil (w : World) : Calls Tryd.prog 16 #[.pointer none] w fun r w' => r = .returned (.tuple #[]) ∧ w' = w := by
  go_enter Tryd.func16, Tryd.ntmps16
  go_wp2_with fail
  go_end0
  exact ⟨rfl, rfl⟩
set_option maxRecDepth 100000 in
set_option maxHeartbeats 2000000 in
theorem Fail_nil (k : Int) (w : World) : Calls Tryd.prog 15 #[.pointer none, .int .i64 k] w fun r w' => r = .returned (.tuple #[]) ∧ w' = w := by
  go_enter Tryd.func15, Tryd.ntmps15
  go_wp2_with (go_at_call 37; refine (ready_nil _).mono ?_; rintro _ w1 ⟨rfl, rfl⟩)
  exact bodyPost_ret (v := .tuple #[]) (by simp [results, Tryd.results15, go_sem, *]) rfl ⟨rfl, rfl⟩
set_option maxRecDepth 100000 in
set_option maxHeartbeats 8000000 in
theorem Does_nil (x : Act) (w : World) :
    Calls Tryd.prog 14 #[.pointer none, x.val] w fun r w' => r = .returned (.int .i64 (if 0 ≤ x.kind ∧ x.kind ≤ 4 then 1 else 0)) ∧ Below w.heap.size w w' := by
  obtain ⟨kind, name, n, m, s⟩ := x
  have hb : Below w.heap.size w (w.alloc (.cells #[.int .i64 kind, .string name, .int .i64 n, .int .i64 m, .string s] 31)) := (Below.refl _ w).alloc (Nat.le_refl _) _
  unfold Act.val
  dsimp only
  by_cases k0 : kind = 0
  · subst k0
    go_enter Tryd.func14, Tryd.ntmps14
    go_wp2_with (go_at_call 11; refine (Put_nil name n s _).mono ?_; rintro _ w2 ⟨rfl, rfl⟩)
    go_ret
    exact ⟨rfl, hb⟩
  by_cases k1 : kind = 1
  · subst k1
    go_enter Tryd.func14, Tryd.ntmps14
    go_wp2_with (go_at_call 42; refine (Trim_nil name n _).mono ?_; rintro _ w2 ⟨rfl, rfl⟩)
    go_ret
    exact ⟨rfl, hb⟩
  by_cases k2 : kind = 2
  · subst k2
    go_enter Tryd.func14, Tryd.ntmps14
    go_wp2_with (go_at_call 43; refine (Move_nil name s _).mono ?_; rintro _ w2 ⟨rfl, rfl⟩)
    go_ret
    exact ⟨rfl, hb⟩
  by_cases k3 : kind = 3
  · subst k3
    go_enter Tryd.func14, Tryd.ntmps14
    go_wp2_with (go_at_call 44; refine (Drop_nil name _).mono ?_; rintro _ w2 ⟨rfl, rfl⟩)
    go_ret
    exact ⟨rfl, hb⟩
  by_cases k4 : kind = 4
  · subst k4
    go_enter Tryd.func14, Tryd.ntmps14
    go_wp2_with (go_at_call 12; refine (Sync_nil  _).mono ?_; rintro _ w2 ⟨rfl, rfl⟩)
    go_ret
    exact ⟨rfl, hb⟩
  by_cases k5 : kind = 5
  · subst k5
    go_enter Tryd.func14, Tryd.ntmps14
    go_wp2_with (go_at_call 15; refine (Fail_nil n _).mono ?_; rintro _ w2 ⟨rfl, rfl⟩)
    go_ret
    exact ⟨rfl, hb⟩
  by_cases k6 : kind = 6
  · subst k6
    go_enter Tryd.func14, Tryd.ntmps14
    go_wp2_with (go_at_call 45; refine (Trip_nil n m _).mono ?_; rintro _ w2 ⟨rfl, rfl⟩)
    go_ret
    exact ⟨rfl, hb⟩
  by_cases k7 : kind = 7
  · subst k7
    go_enter Tryd.func14, Tryd.ntmps14
    go_wp2_with (go_at_call 16; refine (Wake_nil  _).mono ?_; rintro _ w2 ⟨rfl, rfl⟩)
    go_ret
    exact ⟨rfl, hb⟩
  by_cases k8 : kind = 8
  · subst k8
    go_enter Tryd.func14, Tryd.ntmps14
    go_wp2_with (go_at_call 46; refine (Room_nil n _).mono ?_; rintro _ w2 ⟨rfl, rfl⟩)
    go_ret
    exact ⟨rfl, hb⟩
  · have hk : ¬ (0 ≤ kind ∧ kind ≤ 4) := by omega
    go_enter Tryd.func14, Tryd.ntmps14
    go_wp2_with fail
    go_ret
    exact ⟨rfl, hb⟩
set_option maxRecDepth 100000 in
set_option maxHeartbeats 2000000 in
theorem Names_down (S : Nat → Prop) (p N : Nat) (d : Dk) (w : World) (h : DiskAt w S p N d) (hd : d.down = true) : Calls Tryd.prog 32 #[.pointer (some ⟨p, 0, none⟩)] w fun r w' => r = .returned (.slice none 0 0) ∧ w' = w := by
  obtain ⟨bs, bn, v, h⟩ := h
  have hr := ready_any S p N d bs bn v w h
  rw [if_pos hd] at hr
  clear h
  go_enter Tryd.func32, Tryd.ntmps32
  go_wp2_with (go_at_call 37; refine hr.mono ?_; rintro _ w1 ⟨rfl, rfl⟩)
  go_ret
  exact ⟨rfl, rfl⟩
set_option maxRecDepth 100000 in
set_option maxHeartbeats 2000000 in
theorem Used_down (S : Nat → Prop) (p N : Nat) (d : Dk) (w : World) (h : DiskAt w S p N d) (hd : d.down = true) : Calls Tryd.prog 33 #[.pointer (some ⟨p, 0, none⟩)] w fun r w' => r = .returned (.int .i64 0) ∧ w' = w := by
  obtain ⟨bs, bn, v, h⟩ := h
  have hr := ready_any S p N d bs bn v w h
  rw [if_pos hd] at hr
  clear h
  go_enter Tryd.func33, Tryd.ntmps33
  go_wp2_with (go_at_call 37; refine hr.mono ?_; rintro _ w1 ⟨rfl, rfl⟩)
  go_ret
  exact ⟨rfl, rfl⟩
set_option maxRecDepth 100000 in
set_option maxHeartbeats 2000000 in
theorem Waits_down (S : Nat → Prop) (p N : Nat) (d : Dk) (w : World) (h : DiskAt w S p N d) (hd : d.down = true) : Calls Tryd.prog 34 #[.pointer (some ⟨p, 0, none⟩)] w fun r w' => r = .returned (.int .i64 0) ∧ w' = w := by
  obtain ⟨bs, bn, v, h⟩ := h
  have hr := ready_any S p N d bs bn v w h
  rw [if_pos hd] at hr
  clear h
  go_enter Tryd.func34, Tryd.ntmps34
  go_wp2_with (go_at_call 37; refine hr.mono ?_; rintro _ w1 ⟨rfl, rfl⟩)
  go_ret
  exact ⟨rfl, rfl⟩
set_option maxRecDepth 100000 in
set_option maxHeartbeats 2000000 in
theorem Down_any (S : Nat → Prop) (p N : Nat) (d : Dk) (w : World) (h : DiskAt w S p N d) : Calls Tryd.prog 36 #[.pointer (some ⟨p, 0, none⟩)] w fun r w' => r = .returned (.bool d.down) ∧ w' = w := by
  obtain ⟨bs, bn, v, h⟩ := h
  have c7 := h.c7
  clear h
  go_enter Tryd.func36, Tryd.ntmps36
  go_wp2_with fail
  go_ret
  exact ⟨rfl, rfl⟩
theorem acts_down {d d' : Dk} {x : Act} {e : Int} (h : Acts d x e d') (hd : d.down = true) (hk : 0 ≤ x.kind ∧ x.kind ≤ 4) : e = 8 ∧ d' = d := by
  have ht : ∀ f, d.there f = 8 := fun f => by unfold Dk.there; rw [if_pos hd]
  have h8 : ∀ {a b : Int} {c c' : Dk}, (a, c) = (b, c') → a = b ∧ c = c' := fun h => ⟨congrArg Prod.fst h, congrArg Prod.snd h⟩
  unfold Acts at h
  split at h
  · unfold Dk.Puts at h
    rw [if_pos hd] at h
    exact h
  split at h
  · unfold Dk.trim at h
    rw [ht, if_pos (by decide)] at h
    exact h8 h
  split at h
  · unfold Dk.move at h
    rw [if_neg (fun hh => by rw [hd] at hh; exact absurd hh.1 (by decide)), ht, if_pos (by decide)] at h
    exact h8 h
  split at h
  · unfold Dk.drop at h
    rw [ht, if_pos (by decide)] at h
    exact h8 h
  split at h
  · unfold Dk.sync at h
    rw [if_pos hd] at h
    exact h8 h
  · exfalso
    omega
end Go.Proofs.YthaehoefbejadaaDoor.Dsk
