/- disk: Put, joined; the law's acts. -/
import Derived.Test.YtpdceondgbgpkaaDoorDskB
namespace Go.Proofs.YtpdceondgbgpkaaDoor.Dsk
open Go.RowKit Go.Maps
set_option linter.unusedSimpArgs false
set_option linter.unusedVariables false
theorem Fail_any (S : Nat → Prop) (p N : Nat) (d : Dk) (k : Int) (w : World) (h : DiskAt w S p N d) (hk : k ≤ 9223372036854775807) (hi : Dk.Inv d) (hN : N < 1073741824) :
    Calls Tryd.prog 10 #[.pointer (some ⟨p, 0, none⟩), .int .i64 k] w fun r w' => r = .returned (.tuple #[]) ∧ Mem.Ch S w w' ∧ DiskAt w' (Gr S w w') p N (d.fail k) := by
  cases hd : d.down
  · exact Fail_up S p N d k w h hd hk hi.valid hN
  · refine (Fail_down S p N d k w h hd).mono ?_
    rintro _ w' ⟨rfl, rfl⟩
    have e : d.fail k = d := by unfold Dk.fail; rw [if_pos hd]
    rw [e]
    exact ⟨rfl, Mem.Ch.refl _ _, h.mono (fun k hk => .inl hk)⟩
theorem Put_any (S : Nat → Prop) (p N : Nat) (d : Dk) (f : ByteArray) (a : Int) (s : ByteArray) (w : World) (h : DiskAt w S p N d) (hi : Dk.Inv d) (hf : f.size ≤ maxLen) (hss : s.size ≤ maxLen) (hai : -9223372036854775808 ≤ a ∧ a ≤ 9223372036854775807) (hN : N < 1000000000) :
    Calls Tryd.prog 17 #[.pointer (some ⟨p, 0, none⟩), .string f, .int .i64 a, .string s] w fun r w' => ∃ e d', r = .returned (.int .i64 e) ∧ Mem.Ch S w w' ∧ DiskAt w' (Gr S w w') p (N + 1) d' ∧ d.Puts f a s e d' := by
  unfold Dk.Puts
  cases hd : d.down
  · by_cases hb : d.bad f a s
    · refine (Put_bad S p N d f a s w h hd hf hss hai hb).mono ?_
      rintro _ w' ⟨rfl, hB⟩
      obtain ⟨h1, h2⟩ := stays h hB
      exact ⟨1, d, rfl, h1, h2, by rw [if_neg (by decide)]; exact .inl ⟨hb, rfl, rfl⟩⟩
    · obtain ⟨m, rfl⟩ : ∃ m : Nat, a = m := ⟨a.toNat, by have := (put_ok hb).1; omega⟩
      by_cases hr : d.room < 0
      · refine (Put_good S p N d f m s w h hi hd hf hb hr hN).mono ?_
        rintro _ w' ⟨rfl, h1, h2⟩
        exact ⟨_, _, rfl, h1, h2, by rw [if_neg (by decide)]; exact .inr ⟨hb, .inr rfl⟩⟩
      · refine (Put_bound S p N d f m s w h hi hd hf hb (by omega) hN).mono ?_
        rintro _ w' (⟨rfl, h1, h2⟩ | ⟨rfl, hB⟩)
        · exact ⟨_, _, rfl, h1, h2, by rw [if_neg (by decide)]; exact .inr ⟨hb, .inr rfl⟩⟩
        · obtain ⟨h1, h2⟩ := stays h hB
          exact ⟨7, d, rfl, h1, h2, by rw [if_neg (by decide)]; exact .inr ⟨hb, .inl ⟨by omega, rfl, rfl⟩⟩⟩
  · refine (Put_down S p N d f a s w h hd).mono ?_
    rintro _ w' ⟨rfl, rfl⟩
    obtain ⟨h1, h2⟩ := stays h (Below.refl _ w')
    exact ⟨8, d, rfl, h1, h2, by rw [if_pos rfl]; exact ⟨rfl, rfl⟩⟩
end Go.Proofs.YtpdceondgbgpkaaDoor.Dsk
