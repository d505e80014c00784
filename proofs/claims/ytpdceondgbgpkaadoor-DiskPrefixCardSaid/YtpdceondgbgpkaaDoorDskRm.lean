/- Acts on a disk with a bound: nothing is changed without room, and the bound is kept. -/
import Derived.Test.YtpdceondgbgpkaaDoorDskBx
import Derived.Test.YtpdceondgbgpkaaDoorDskW
namespace Go.Proofs.YtpdceondgbgpkaaDoor.Dsk
open Go.RowKit Go.Maps
set_option linter.unusedSimpArgs false
set_option linter.unusedVariables false
structure Rm (n : Nat) (d : Dk) : Prop where
  inv : Dk.Inv d
  roomy : Roomy n d
  room : d.room = n
theorem fail_room (d : Dk) (k : Int) : (d.fail k).room = d.room := by unfold Dk.fail; split <;> rfl
theorem lay_room (d : Dk) (c : Chg) : (d.lay c).2.room = d.room := by
  unfold Dk.lay
  split
  · exact fail_room _ _
  · rfl
theorem lay_ne7 (d : Dk) (c : Chg) : (d.lay c).1 ≠ 7 := by
  unfold Dk.lay
  split
  · show (8 : Int) ≠ 7; decide
  · show (0 : Int) ≠ 7; decide
theorem there_ne7 (d : Dk) (f : ByteArray) : d.there f ≠ 7 := by
  unfold Dk.there
  split
  · decide
  · split
    · split <;> decide
    · decide
namespace Rm
variable {n : Nat} {d : Dk}
theorem lay (h : Rm n d) {c : Chg} (hok : c.ok d.now) (hc : Bel n (c.does d.now)) : Rm n (d.lay c).2 := ⟨h.inv.lay hok, h.roomy.lay h.inv hok hc, (lay_room d c).trans h.room⟩
theorem fail (h : Rm n d) (k : Int) : Rm n (d.fail k) := ⟨h.inv.fail k, h.roomy.fail h.inv k, (fail_room d k).trans h.room⟩
theorem now (h : Rm n d) : Bel n d.now := h.roomy.now h.inv
theorem sync (h : Rm n d) : Rm n d.sync.2 := by
  refine ⟨h.inv.sync, h.roomy.sync h.inv, ?_⟩
  rw [← h.room]
  unfold Dk.sync
  split
  · rfl
  · split
    · exact fail_room _ _
    · rfl
theorem trim (h : Rm n d) {f : ByteArray} {k : Int} (hf : f.size ≤ maxLen) {e : Int} {d' : Dk} (he : (e, d') = d.trim f k) : Rm n d' ∧ e ≠ 7 := by
  unfold Dk.trim at he
  split at he
  · cases he; exact ⟨h, there_ne7 _ _⟩
  · split at he
    · cases he; exact ⟨h, by decide⟩
    · rename_i h1 h2
      have hk : k.toNat ≤ (d.now.get f).size := by omega
      have e1 := congrArg Prod.fst he
      have e2 := congrArg Prod.snd he
      dsimp only at e1 e2
      subst e1 e2
      exact ⟨h.lay (c := .trim f k.toNat) ⟨hf, hk⟩ (h.now.trim hk), lay_ne7 _ _⟩
theorem move (h : Rm n d) {f t : ByteArray} (hf : f.size ≤ maxLen) (ht : t.size ≤ maxLen) {e : Int} {d' : Dk} (he : (e, d') = d.move f t) : Rm n d' ∧ e ≠ 7 := by
  unfold Dk.move at he
  split at he
  · cases he; exact ⟨h, by decide⟩
  · split at he
    · cases he; exact ⟨h, there_ne7 _ _⟩
    · have e1 := congrArg Prod.fst he
      have e2 := congrArg Prod.snd he
      dsimp only at e1 e2
      subst e1 e2
      exact ⟨h.lay (c := .move f t) ⟨hf, ht⟩ h.now.move, lay_ne7 _ _⟩
theorem drop (h : Rm n d) {f : ByteArray} (hf : f.size ≤ maxLen) {e : Int} {d' : Dk} (he : (e, d') = d.drop f) : Rm n d' ∧ e ≠ 7 := by
  unfold Dk.drop at he
  split at he
  · cases he; exact ⟨h, there_ne7 _ _⟩
  · have e1 := congrArg Prod.fst he
    have e2 := congrArg Prod.snd he
    dsimp only at e1 e2
    subst e1 e2
    exact ⟨h.lay (c := .drop f) hf h.now.drop, lay_ne7 _ _⟩
end Rm
theorem sync_ne7 (d : Dk) : d.sync.1 ≠ 7 := by
  unfold Dk.sync
  split
  · show (8 : Int) ≠ 7; decide
  · split
    · show (8 : Int) ≠ 7; decide
    · show (0 : Int) ≠ 7; decide
theorem Acts.rm {n : Nat} {d d' : Dk} {x : Act} {e : Int} (hA : Acts d x e d') (h : Rm n d) (hx : x.fit) (k0 : x.kind ≠ 0) (k8 : x.kind ≠ 8) : Rm n d' ∧ e ≠ 7 := by
  unfold Acts at hA
  rw [if_neg k0] at hA
  split at hA
  · exact h.trim hx.f0 hA
  split at hA
  · exact h.move hx.f0 hx.s0 hA
  split at hA
  · exact h.drop hx.f0 hA
  split at hA
  · have e1 := congrArg Prod.fst hA
    have e2 := congrArg Prod.snd hA
    dsimp only at e1 e2
    subst e1 e2
    exact ⟨h.sync, sync_ne7 d⟩
  · obtain ⟨rfl, hd⟩ := hA
    refine ⟨?_, by decide⟩
    rw [hd]
    split
    · exact h.fail _
    split
    · exact ⟨⟨hx.m0.2, h.inv.valid, h.inv.now⟩, ⟨h.roomy.all⟩, h.room⟩
    split
    · exact ⟨⟨h.inv.kept, h.inv.valid, h.inv.now⟩, ⟨h.roomy.all⟩, h.room⟩
    exact h
theorem Put_rm (n : Nat) (hn : n ≤ 5000) (S : Nat → Prop) (p N : Nat) (d : Dk) (f : ByteArray) (a : Int) (s : ByteArray) (w : World) (h : DiskAt w S p N d) (hR : Rm n d) (hf : f.size ≤ maxLen) (hss : s.size ≤ maxLen) (hai : -9223372036854775808 ≤ a ∧ a ≤ 9223372036854775807) (hN : N < 1000000000) :
    Calls Tryd.prog 17 #[.pointer (some ⟨p, 0, none⟩), .string f, .int .i64 a, .string s] w fun r w' => ∃ e d', r = .returned (.int .i64 e) ∧ Mem.Ch S w w' ∧ DiskAt w' (Gr S w w') p (N + 1) d' ∧ Rm n d' ∧ (e = 7 → d' = d) := by
  cases hd : d.down
  · by_cases hb : d.bad f a s
    · refine (Put_bad S p N d f a s w h hd hf hss hai hb).mono ?_
      rintro _ w' ⟨rfl, hB⟩
      obtain ⟨h1, h2⟩ := stays h hB
      exact ⟨1, d, rfl, h1, h2, hR, fun _ => rfl⟩
    · obtain ⟨m, rfl⟩ : ∃ m : Nat, a = m := ⟨a.toNat, by have := (put_ok hb).1; omega⟩
      obtain ⟨u, hu, hun⟩ := hR.now
      have hok := put_ok hb
      have hroom := hR.room
      refine (Put_room u S p N d f m s w h hR.inv hd hf hb hu (by omega) (by omega) (by omega) hN).mono ?_
      rintro _ w' (⟨rfl, h1, h2, h3⟩ | ⟨rfl, hB⟩)
      · have hm : m ≤ (d.now.get f).size := by have := hok.2.1; omega
        exact ⟨_, _, rfl, h1, h2, hR.lay ⟨hf, hm, by have := hok.2.2.1; omega⟩ (Bel.put hu hm (by omega)), fun e => absurd e (lay_ne7 _ _)⟩
      · obtain ⟨h1, h2⟩ := stays h hB
        exact ⟨7, d, rfl, h1, h2, hR, fun _ => rfl⟩
  · refine (Put_down S p N d f a s w h hd).mono ?_
    rintro _ w' ⟨rfl, rfl⟩
    obtain ⟨h1, h2⟩ := stays h (Below.refl _ w')
    exact ⟨8, d, rfl, h1, h2, hR, fun _ => rfl⟩
set_option maxRecDepth 100000 in
set_option maxHeartbeats 4000000 in
theorem Does_rm (n : Nat) (hn : n ≤ 5000) (S : Nat → Prop) (p N : Nat) (d : Dk) (x : Act) (w : World) (h : DiskAt w S p N d) (hR : Rm n d) (hx : x.fit) (k8 : x.kind ≠ 8) (hN : N < 1000000000) :
    Calls Tryd.prog 8 #[.pointer (some ⟨p, 0, none⟩), x.val] w fun r w' => ∃ e d', r = .returned (.int .i64 e) ∧ Mem.Ch S w w' ∧ DiskAt w' (Gr S w w') p (N + 1) d' ∧ Rm n d' ∧ (e = 7 → x.kind = 0 ∧ d' = d) := by
  by_cases k0 : x.kind = 0
  · obtain ⟨kind, name, na, m, s⟩ := x
    dsimp only at k0 k8
    subst k0
    obtain ⟨hna, hm, hf, hs⟩ := hx
    dsimp only at hna hm hf hs
    have hb : Below w.heap.size w (w.alloc (.cells #[.int .i64 0, .string name, .int .i64 na, .int .i64 m, .string s] 28)) := (Below.refl _ w).alloc (Nat.le_refl _) _
    have H := Lib.hid (And.intro (h.below hb) hR)
    have key : ∀ {W w' : World}, Below w.heap.size w W → (Mem.Ch S W w' → Mem.Ch S w w') ∧ ∀ k, Gr S W w' k → Gr S w w' k := fun hB => ⟨fun hc => (Mem.Ch.of_below' hB).trans' hc, fun k hk => by rcases hk with hk | hk; exact .inl hk; exact .inr ⟨by have := hB.size; omega, hk.2⟩⟩
    clear h hR
    unfold Act.val
    dsimp only
    go_enter Tryd.func8, Tryd.ntmps8
    go_wp2_with (go_at_call 17; refine (Put_rm n hn S p N d name na s _ H.out.1 H.out.2 hf hs hna hN).mono ?_; rintro _ w2 ⟨e, d', rfl, h1, h2, h3, h4⟩)
    go_ret
    exact ⟨e, d', rfl, (key hb).1 h1, h2.mono (key hb).2, h3, fun he => ⟨by trivial, h4 he⟩⟩
  · refine (Does_any S p N d x w h hR.inv hx hN).mono ?_
    rintro _ w' ⟨e, d', rfl, h1, h2, h3⟩
    obtain ⟨h4, h5⟩ := h3.rm hR hx k0 k8
    exact ⟨e, d', rfl, h1, h2, h4, fun he => absurd he h5⟩
end Go.Proofs.YtpdceondgbgpkaaDoor.Dsk
