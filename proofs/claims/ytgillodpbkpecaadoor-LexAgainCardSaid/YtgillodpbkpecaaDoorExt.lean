/- What the library's functions answer here, as plain functions: the words that the printed texts lean on. -/
import Derived.Test.YtgillodpbkpecaaDoorLexIdx
import Derived.Test.YtgillodpbkpecaaDoorLexHex
import Derived.Test.YtgillodpbkpecaaDoorWWords
namespace Go.Proofs.YtgillodpbkpecaaDoor.Ext
open Go.RowKit Go.Proofs.YtgillodpbkpecaaDoorW.PrintWords

def strings_IndexByte.f (s : ByteArray) (c : Int) : Option Int := some (Lib.indexByte s.data.toList c.toNat.toUInt8)
theorem strings_IndexByte.calls (s : ByteArray) (c : Int) (r : Int) (w : World) (h : strings_IndexByte.f s c = some r) :
    Calls Tryd.prog 19 #[.string s, .int .u8 c] w fun e w' => e = .returned (.int .i64 r) ∧ Drawn0 w w' := by
  obtain rfl := Option.some.inj h
  exact (Tryd.strings_IndexByte s c w).mono fun e w' ⟨he, hw⟩ => ⟨he, by rw [hw]; exact Drawn0.refl _⟩

def strings_IndexAny.f (s chars : ByteArray) : Option Int :=
  if 2 ≤ chars.size then if chars.size < 4294967281 then if s.size < 4294967281 then if chars.data.toList.all (fun b => decide (b.toNat < 128)) then some (Lib.indexAny s.data.toList chars.data.toList) else none else none else none else none
theorem strings_IndexAny.calls (s chars : ByteArray) (r : Int) (w : World) (h : strings_IndexAny.f s chars = some r) :
    Calls Tryd.prog 21 #[.string s, .string chars] w fun e w' => e = .returned (.int .i64 r) ∧ Below w.heap.size w w' := by
  unfold strings_IndexAny.f at h
  split at h
  · split at h
    · split at h
      · split at h
        · rename_i h1 h2 h3 h4
          obtain rfl := Option.some.inj h
          refine Idx.IndexAny_all s chars w h1 h2 h3 (fun j b hb => ?_)
          exact of_decide_eq_true (List.all_eq_true.1 h4 b (List.mem_of_getElem? hb))
        · cases h
      · cases h
    · cases h
  · cases h

def strconv_Atoi.f (s : ByteArray) : Option (Int × Option Int) :=
  if s.size ≤ 9223372036854775806 then (match Lib.atoiAll s.data.toList with | .ok v => some (v, none) | _ => none) else none
theorem strconv_Atoi.calls (s : ByteArray) (r1 : Int) (r2 : Option Int) (w : World) (h : strconv_Atoi.f s = some (r1, r2)) :
    Calls Tryd.prog 20 #[.string s] w fun e w' => e = .returned (.tuple #[.int .i64 r1, .nilIface]) ∧ Below w.heap.size w w' := by
  unfold strconv_Atoi.f at h
  split at h
  · rename_i h1
    split at h
    · rename_i v hv
      simp only [Option.some.injEq, Prod.mk.injEq] at h
      obtain ⟨rfl, _⟩ := h
      refine (Tryd.strconv_Atoi_ok s h1 v hv w).mono fun e w' ⟨he, hw⟩ => ⟨he, ?_⟩
      rcases hw with hw | ⟨t, hw⟩
      · rw [hw]; exact Below.refl _ _
      · rw [hw]; exact Idx.bytesWorld_below w _ t
    · cases h
  · cases h

def strconv_ParseUint.f (s : ByteArray) (base size : Int) : Option (Int × Option Int) :=
  if base = 16 then if size = 64 then if s.size = 16 then if s.data.toList.all (fun c => Idx.hexDig c != 16) then some (((Idx.hexVal 0 s.data.toList : Nat) : Int), none) else none else none else none else none
theorem strconv_ParseUint.calls (s : ByteArray) (base size : Int) (r1 : Int) (r2 : Option Int) (w : World) (h : strconv_ParseUint.f s base size = some (r1, r2)) :
    Calls Tryd.prog 22 #[.string s, .int .i64 base, .int .i64 size] w fun e w' => e = .returned (.tuple #[.int .u64 r1, .nilIface]) ∧ Below w.heap.size w w' := by
  unfold strconv_ParseUint.f at h
  split at h
  · split at h
    · split at h
      · split at h
        · rename_i h1 h2 h3 h4
          simp only [Option.some.injEq, Prod.mk.injEq] at h
          obtain ⟨rfl, _⟩ := h
          subst h1 h2
          exact Idx.parse16_public s h3 (fun c hc => by have := List.all_eq_true.1 h4 c hc; simpa using this) w
        · cases h
      · cases h
    · cases h
  · cases h

end Go.Proofs.YtgillodpbkpecaaDoor.Ext
