/- The disk law's acts. -/
import Derived.Test.YtpdceondgbgpkaaDoorDsk8
import Derived.Test.YtpdceondgbgpkaaDoorDskT
namespace Go.Proofs.YtpdceondgbgpkaaDoor.Dsk
open Go.RowKit Go.Maps
set_option linter.unusedSimpArgs false
set_option linter.unusedVariables false
/-- An act. -/
structure Act where
  kind : Int
  name : ByteArray
  n : Int
  m : Int
  s : ByteArray
def Act.val (x : Act) : Value := .agg #[.int .i64 x.kind, .string x.name, .int .i64 x.n, .int .i64 x.m, .string x.s]
structure Act.fit (x : Act) : Prop where
  n0 : -9223372036854775808 ≤ x.n ∧ x.n ≤ 9223372036854775807
  m0 : -9223372036854775808 ≤ x.m ∧ x.m ≤ 9223372036854775807
  f0 : x.name.size ≤ maxLen
  s0 : x.s.size ≤ maxLen
/-- What an act answers, and the disk behind it. -/
def Acts (d : Dk) (x : Act) (e : Int) (d' : Dk) : Prop :=
  if x.kind = 0 then d.Puts x.name x.n x.s e d'
  else if x.kind = 1 then (e, d') = d.trim x.name x.n
  else if x.kind = 2 then (e, d') = d.move x.name x.s
  else if x.kind = 3 then (e, d') = d.drop x.name
  else if x.kind = 4 then (e, d') = d.sync
  else e = 0 ∧ d' = (if x.kind = 5 then d.fail x.n else if x.kind = 6 then { d with after := max x.n 1, keep := x.m } else if x.kind = 7 then { d with down := false } else if x.kind = 8 then { d with room := max x.n (-1) } else d)
set_option maxRecDepth 100000 in
set_option maxHeartbeats 8000000 in
theorem Does_any (S : Nat → Prop) (p N : Nat) (d : Dk) (x : Act) (w : World) (h : DiskAt w S p N d) (hi : Dk.Inv d) (hx : x.fit) (hN : N < 1000000000) :
    Calls Tryd.prog 8 #[.pointer (some ⟨p, 0, none⟩), x.val] w fun r w' => ∃ e d', r = .returned (.int .i64 e) ∧ Mem.Ch S w w' ∧ DiskAt w' (Gr S w w') p (N + 1) d' ∧ Acts d x e d' := by
  obtain ⟨kind, name, n, m, s⟩ := x
  obtain ⟨hn, hm, hf, hs⟩ := hx
  dsimp only at hn hm hf hs
  have hb : Below w.heap.size w (w.alloc (.cells #[.int .i64 kind, .string name, .int .i64 n, .int .i64 m, .string s] 28)) := (Below.refl _ w).alloc (Nat.le_refl _) _
  have H := Lib.hid (And.intro (h.below hb) hi)
  have key : ∀ {W w' : World}, Below w.heap.size w W → (Mem.Ch S W w' → Mem.Ch S w w') ∧ ∀ k, Gr S W w' k → Gr S w w' k := fun hB => ⟨fun hc => (Mem.Ch.of_below' hB).trans' hc, fun k hk => by rcases hk with hk | hk; exact .inl hk; exact .inr ⟨by have := hB.size; omega, hk.2⟩⟩
  clear h hi
  unfold Act.val
  dsimp only
  by_cases k0 : kind = 0
  · subst k0
    go_enter Tryd.func8, Tryd.ntmps8
    go_wp2_with (go_at_call 17; refine (Put_any S p N d name n s _ H.out.1 H.out.2 hf hs hn hN).mono ?_; rintro _ w2 ⟨e, d', rfl, h1, h2, h3⟩)
    go_ret
    exact ⟨e, d', rfl, (key hb).1 h1, h2.mono (key hb).2, by unfold Acts; dsimp only; rw [if_pos rfl]; exact h3⟩
  by_cases k1 : kind = 1
  · subst k1
    go_enter Tryd.func8, Tryd.ntmps8
    go_wp2_with (go_at_call 20; refine (Trim_any S p N d name n _ H.out.1 H.out.2 hf hN).mono ?_; rintro _ w2 ⟨rfl, h1, h2⟩)
    go_ret
    exact ⟨_, _, rfl, (key hb).1 h1, h2.mono (key hb).2, by unfold Acts; dsimp only; rw [if_neg (by decide), if_pos rfl]⟩
  by_cases k2 : kind = 2
  · subst k2
    go_enter Tryd.func8, Tryd.ntmps8
    go_wp2_with (go_at_call 21; refine (Move_any S p N d name s _ H.out.1 H.out.2 hf hs hN).mono ?_; rintro _ w2 ⟨rfl, h1, h2⟩)
    go_ret
    exact ⟨_, _, rfl, (key hb).1 h1, h2.mono (key hb).2, by unfold Acts; dsimp only; rw [if_neg (by decide), if_neg (by decide), if_pos rfl]⟩
  by_cases k3 : kind = 3
  · subst k3
    go_enter Tryd.func8, Tryd.ntmps8
    go_wp2_with (go_at_call 22; refine (Drop_any S p N d name _ H.out.1 H.out.2 hf hN).mono ?_; rintro _ w2 ⟨rfl, h1, h2⟩)
    go_ret
    exact ⟨_, _, rfl, (key hb).1 h1, h2.mono (key hb).2, by unfold Acts; dsimp only; rw [if_neg (by decide), if_neg (by decide), if_neg (by decide), if_pos rfl]⟩
  by_cases k4 : kind = 4
  · subst k4
    go_enter Tryd.func8, Tryd.ntmps8
    go_wp2_with (go_at_call 18; refine (Sync_any S p N d _ H.out.1 H.out.2 hN).mono ?_; rintro _ w2 ⟨rfl, h1, h2⟩)
    go_ret
    exact ⟨_, _, rfl, (key hb).1 h1, h2.mono (key hb).2, by unfold Acts; dsimp only; rw [if_neg (by decide), if_neg (by decide), if_neg (by decide), if_neg (by decide), if_pos rfl]⟩
  by_cases k5 : kind = 5
  · subst k5
    go_enter Tryd.func8, Tryd.ntmps8
    go_wp2_with (go_at_call 10; refine (Fail_any S p N d n _ H.out.1 hn.2 H.out.2 (by omega)).mono ?_; rintro _ w2 ⟨rfl, h1, h2⟩)
    go_ret
    exact ⟨0, _, rfl, (key hb).1 h1, (h2.mono (key hb).2).more (Nat.le_succ N), by unfold Acts; dsimp only; rw [if_neg (by decide), if_neg (by decide), if_neg (by decide), if_neg (by decide), if_neg (by decide)]; exact ⟨rfl, rfl⟩⟩
  by_cases k6 : kind = 6
  · subst k6
    go_enter Tryd.func8, Tryd.ntmps8
    go_wp2_with (go_at_call 23; refine (Trip_any S p N d n m _ H.out.1).mono ?_; rintro _ w2 ⟨rfl, h1, h2⟩)
    go_ret
    exact ⟨0, _, rfl, (key hb).1 h1, (h2.mono (fun k hk => .inl hk)).more (Nat.le_succ N), by unfold Acts; dsimp only; rw [if_neg (by decide), if_neg (by decide), if_neg (by decide), if_neg (by decide), if_neg (by decide)]; exact ⟨rfl, rfl⟩⟩
  by_cases k7 : kind = 7
  · subst k7
    go_enter Tryd.func8, Tryd.ntmps8
    go_wp2_with (go_at_call 11; refine (Wake_any S p N d _ H.out.1).mono ?_; rintro _ w2 ⟨rfl, h1, h2⟩)
    go_ret
    exact ⟨0, _, rfl, (key hb).1 h1, (h2.mono (fun k hk => .inl hk)).more (Nat.le_succ N), by unfold Acts; dsimp only; rw [if_neg (by decide), if_neg (by decide), if_neg (by decide), if_neg (by decide), if_neg (by decide)]; exact ⟨rfl, rfl⟩⟩
  by_cases k8 : kind = 8
  · subst k8
    go_enter Tryd.func8, Tryd.ntmps8
    go_wp2_with (go_at_call 14; refine (Room_any S p N d n _ H.out.1).mono ?_; rintro _ w2 ⟨rfl, h1, h2⟩)
    go_ret
    exact ⟨0, _, rfl, (key hb).1 h1, (h2.mono (fun k hk => .inl hk)).more (Nat.le_succ N), by unfold Acts; dsimp only; rw [if_neg (by decide), if_neg (by decide), if_neg (by decide), if_neg (by decide), if_neg (by decide)]; exact ⟨rfl, rfl⟩⟩
  · go_enter Tryd.func8, Tryd.ntmps8
    go_wp2_with fail
    go_ret
    refine ⟨0, d, rfl, Mem.Ch.of_below' hb, (H.out.1.mono (fun k hk => .inl hk)).more (Nat.le_succ N), ?_⟩
    unfold Acts
    dsimp only
    rw [if_neg k0, if_neg k1, if_neg k2, if_neg k3, if_neg k4, if_neg k5, if_neg k6, if_neg k7, if_neg k8]
    exact ⟨rfl, rfl⟩
end Go.Proofs.YtpdceondgbgpkaaDoor.Dsk
