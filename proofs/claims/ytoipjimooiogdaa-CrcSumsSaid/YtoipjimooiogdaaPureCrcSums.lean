/- Of every text of bytes: its sum, and its pack or that it is too long: the program answers as the document does. No condition but the row's own. -/
import Derived.Test.YtoipjimooiogdaaSumsPack
import Derived.Test.YtoipjimooiogdaaPCrcSumsx2
namespace Go.Proofs.Ytoipjimooiogdaa.Pure
open Go.RowKit Go.Proofs.Ytoipjimooiogdaa.PCrcSums Go.Proofs.YtoipjimooiogdaaW.PrintWords Go.Proofs.YtoipjimooiogdaaW.PrintLast

theorem CrcSums : auspicelaw02_CrcSums.Pure := by
  intro s hs
  refine ⟨20000000, ?_⟩
  have ha : ∀ k, 60 ≤ k → auspicelaw02_awake.f k = some true := fun k hk => at_rounds (g := auspicelaw02_awake.f) auspicelaw02_awake.mono hk Crc.awake_yes
  unfold auspicelaw02_CrcSums.f
  by_cases hb : s.size > 20000
  · rw [if_pos (by omega)]
    obtain ⟨k, hk⟩ : ∃ k, k = 19999999 := ⟨_, rfl⟩
    rw [show 20000000 = k + 1 by omega]
    simp only [auspicelaw02_CrcSums.j0]
    rw [ha k (by omega)]
    by_cases hc : s.size ≤ 1048576
    · rw [if_pos (by simp; omega)]; rfl
    · rw [if_neg (by simp; omega), Crc.pack_big s k (by omega), Crc.refpack_big s k (by omega)]
      simp only [Option.bind_some, if_true]
      rw [if_pos (by omega)]
  · rw [if_neg (by omega)]
    obtain ⟨k, hk⟩ : ∃ k, k = 19999999 := ⟨_, rfl⟩
    rw [show 20000000 = k + 1 by omega]
    simp only [auspicelaw02_CrcSums.j0]
    rw [ha k (by omega), if_neg (by decide), Crc.pack_small s k (by omega) (by omega), Crc.refpack_small s k (by omega) (by omega)]
    simp only [Option.bind_some, if_true]
    rw [if_neg (by omega), Crc.sum_f s k (by omega) (by omega), Crc.refsum_f s k (by omega) (by omega)]
    simp

end Go.Proofs.Ytoipjimooiogdaa.Pure
