/- The call of the law of turned bits returns true. -/
import Derived.Test.YtoipjimooiogdaaBurstMath
import Derived.Lib.Hide
namespace Go.Proofs.Ytoipjimooiogdaa.Crc
open Go.RowKit Go.Proofs.YtoipjimooiogdaaW.PrintWords Go.Proofs.YtoipjimooiogdaaW.PrintLast Go.Proofs.YtoipjimooiogdaaW.PrintMore

/-- the first bytes of a block whose row a string's bytes were laid in. -/
def BytesAt (w : World) (g : Nat) (l : List UInt8) : Prop :=
  ∃ cs : Array Value, w.heap[g]? = some (.cells cs 5 (cs.size, cs.size + 1)) ∧ ∀ j (hj : j < l.length), cs[j]? = some (.int .u8 (l[j].toNat : Int))

theorem BytesAt.cell {w : World} {g : Nat} {l : List UInt8} (h : BytesAt w g l) (j : Nat) (hj : j < l.length) : w.cell? ⟨g, j, none⟩ = some (.int .u8 (l[j].toNat : Int)) := by
  obtain ⟨cs, hc, hl⟩ := h
  simp [World.cell?, hc, hl j hj]
theorem BytesAt.free {w : World} {g : Nat} {l : List UInt8} (h : BytesAt w g l) (j : Nat) (hj : j < l.length) : w.frozen? ⟨g, j, none⟩ = false := by
  obtain ⟨cs, hc, hl⟩ := h
  have hlt : j < cs.size := by
    have := hl j hj
    rcases Nat.lt_or_ge j cs.size with h | h
    · exact h
    · rw [Array.getElem?_eq_none h] at this; cases this
  simp [World.frozen?, hc]; omega
theorem BytesAt.drewN {w : World} {g : Nat} {l : List UInt8} (h : BytesAt w g l) (n : Nat) : BytesAt (w.drewN n) g l := by
  obtain ⟨cs, hc, hl⟩ := h
  exact ⟨cs, by simpa [World.drewN] using hc, hl⟩
theorem BytesAt.set {w : World} {g : Nat} {l : List UInt8} (h : BytesAt w g l) (j : Nat) (b : UInt8) : BytesAt (w.setCell ⟨g, j, none⟩ (.int .u8 (b.toNat : Int))) g (l.set j b) := by
  obtain ⟨cs, hc, hl⟩ := h
  refine ⟨cs.setIfInBounds j (.int .u8 (b.toNat : Int)), ?_, ?_⟩
  · simp [World.setCell, Array.getElem?_modify, hc]
  · intro i hi
    rw [List.length_set] at hi
    rw [Array.getElem?_setIfInBounds, List.getElem_set]
    by_cases hij : j = i
    · subst hij
      have hlt : j < cs.size := by
        have := hl j hi
        rcases Nat.lt_or_ge j cs.size with h | h
        · exact h
        · rw [Array.getElem?_eq_none h] at this; cases this
      simp [hlt]
    · simp [hij, hl i hi]
theorem BytesAt.laid (w : World) (s : ByteArray) : BytesAt (Lib.bytesWorld w 5 s) w.heap.size s.data.toList := by
  refine ⟨_, Lib.bytesWorld_at_new w 5 s, ?_⟩
  intro j hj
  have hj' : j < s.data.size := by simpa using hj
  have hj2 : j < s.size := hj'
  simp only [Lib.bytesCells, Array.getElem?_append, Array.size_map]
  rw [if_pos hj', Array.getElem?_map, Array.getElem?_eq_getElem hj']
  simp

theorem bytesWorld_below (w : World) (s : ByteArray) : Below w.heap.size w (Lib.bytesWorld w 5 s) := by
  refine ⟨?_, ?_, ?_, ?_, fun k hk => Lib.bytesWorld_at_old w 5 s k hk⟩
  · unfold Lib.bytesWorld World.freeze; split <;> rfl
  · unfold Lib.bytesWorld World.freeze; split <;> rfl
  · unfold Lib.bytesWorld World.freeze; split <;> rfl
  · rw [Lib.bytesWorld_size]; omega

set_option maxHeartbeats 2000000 in
set_option maxRecDepth 100000 in
theorem burst_long (body : ByteArray) (at_ : Int) (burst : Int) (w : World) (hb : 20000 < body.size) :
    Calls Try.prog 4 #[.string body, .int .i64 at_, .int .u32 burst] w fun e w' => e = .returned (.bool true) ∧ Below w.heap.size w w' := by
  have hc : decide (20000 < body.size) = true := decide_eq_true hb
  have hc' : decide (20000 < (body.size : Int)) = true := decide_eq_true (by omega)
  by_cases hl : body.size ≤ 1048576
  · go_enter Try.func4, Try.ntmps4
    go_wp2_with (first
      | (go_at_call 9; refine (PAll.crc_Pack.calls 1100000 body _ _ _ (pack_small body _ hl (by omega))).mono ?_; rintro e w1 ⟨rfl, hb1⟩)
      | (go_at_call 8; refine (PAll.auspicelaw02_awake.calls 100 true _ (awake_at _ (by omega))).mono ?_; rintro e w2 ⟨rfl, hb2⟩))
    go_ret
    exact ⟨rfl, below_step hb1 hb2⟩
  · go_enter Try.func4, Try.ntmps4
    go_wp2_with (first
      | (go_at_call 9; refine (PAll.crc_Pack.calls 1100000 body _ _ _ (pack_big body _ (by omega))).mono ?_; rintro e w1 ⟨rfl, hb1⟩)
      | (go_at_call 8; refine (PAll.auspicelaw02_awake.calls 100 true _ (awake_at _ (by omega))).mono ?_; rintro e w2 ⟨rfl, hb2⟩))
    go_ret
    exact ⟨rfl, below_step hb1 hb2⟩

theorem tmod_range (a : Int) (m : Int) (hm : 0 < m) : -m < Int.tmod a m ∧ Int.tmod a m < m := by
  rcases Int.le_total 0 a with h | h
  · rw [Int.tmod_eq_emod_of_nonneg h]
    have := Int.emod_nonneg a (by omega : m ≠ 0); have := Int.emod_lt_of_pos a hm; omega
  · have e : a = -(-a) := by omega
    rw [e, Int.neg_tmod, Int.tmod_eq_emod_of_nonneg (by omega)]
    have := Int.emod_nonneg (-a) (by omega : m ≠ 0); have := Int.emod_lt_of_pos (-a) hm; omega

theorem bits_xor8 {a b : Nat} (ha : a < 256) (hb : b < 256) : Go.bits .xor .u8 (a : Int) (b : Int) = ((a ^^^ b : Nat) : Int) := by
  have h : a ^^^ b < 2 ^ 8 := Nat.xor_lt_two_pow ha hb
  have ha' : a % 2 ^ IntKind.u8.bits = a := Nat.mod_eq_of_lt ha
  have hb' : b % 2 ^ IntKind.u8.bits = b := Nat.mod_eq_of_lt hb
  simp only [bits, BitVec.ofInt_natCast, BitVec.toNat_xor, BitVec.toNat_ofNat, ha', hb']
  rw [IntKind.wrap_u8]
  omega
theorem turned_step {l : List UInt8} {F M burst k : Nat} (h : F + k < M ∧ burst / 2 ^ k % 2 = 1) {b : UInt8} (hi : 3 + (F + k) / 8 < (turned l F M burst k).length) (hb : b = (turned l F M burst k)[3 + (F + k) / 8]) :
    turned l F M burst (k + 1) = (turned l F M burst k).set (3 + (F + k) / 8) (b ^^^ UInt8.ofNat (2 ^ ((F + k) % 8))) := by
  conv => lhs; unfold turned
  rw [if_pos h]
  unfold flip
  have e1 : (24 + (F + k)) / 8 = 3 + (F + k) / 8 := by omega
  have e2 : (24 + (F + k)) % 8 = (F + k) % 8 := by omega
  rw [e1, e2, hb]
  congr 2
  simp [List.getD, hi]
theorem turned_stay {l : List UInt8} {F M burst k : Nat} (h : ¬ (F + k < M ∧ burst / 2 ^ k % 2 = 1)) : turned l F M burst (k + 1) = turned l F M burst k := by
  conv => lhs; unfold turned
  rw [if_neg h]
theorem xor_value (b : UInt8) (r : Nat) (hr : r < 8) : Go.bits .xor .u8 (b.toNat : Int) (2 ^ r % 256) = (((b ^^^ UInt8.ofNat (2 ^ r)).toNat : Nat) : Int) := by
  have h2 : 2 ^ r < 256 := by rw [show 256 = 2 ^ 8 from rfl]; exact Nat.pow_lt_pow_right (by decide) hr
  have e : ((2 : Int) ^ r % 256) = ((2 ^ r : Nat) : Int) := by
    have : ((2 : Int) ^ r) = ((2 ^ r : Nat) : Int) := by norm_cast
    rw [this]
    generalize 2 ^ r = q at h2
    omega
  rw [e, bits_xor8 b.toNat_lt h2, UInt8.toNat_xor, UInt8.toNat_ofNat', Nat.mod_eq_of_lt (by simpa using h2)]
theorem BytesAt.string {w : World} {g : Nat} {l : List UInt8} (h : BytesAt w g l) (hl : l.length ≤ 9223372036854775807) (c : Nat) : (convert 31 9 (.slice (some ⟨g, 0, none⟩) l.length c)).run Try.prog w = .ok (.string (ofL l)) w := by
  have hr : ReadsInt w .u8 (some ⟨g, 0, none⟩) l.length (l.map fun b => (b.toNat : Int)) := by
    refine ⟨by simp, hl, fun _ => ⟨_, rfl, fun j hj => ?_⟩⟩
    have := h.cell j hj
    have ha : (⟨g, 0, none⟩ : Addr).add j = ⟨g, j, none⟩ := by
      by_cases h0 : j = 0
      · subst h0; rfl
      · simp [Addr.add, h0]
    rw [ha, this]
    simp [List.getD, hj]
  have := string_of_reads (src := 31) (dst := 9) (c := c) Try.underlying31 Try.underlying5 Try.underlying9 hr
  rw [this]
  congr 2
  unfold strOfNums ofL
  congr 2
  rw [List.map_map]
  conv => rhs; rw [← List.map_id l]
  apply List.map_congr_left
  intro b _
  simp

set_option maxHeartbeats 2000000 in
set_option maxRecDepth 100000 in
theorem burst_short (body : ByteArray) (at_ : Int) (burst : Nat) (hbu : burst < 4294967296) (w : World) (hb : body.size ≤ 20000) :
    Calls Try.prog 4 #[.string body, .int .i64 at_, .int .u32 (burst : Int)] w fun e w' => e = .returned (.bool true) ∧ Below w.heap.size w w' := by
  have hcb : decide (20000 < body.size) = false := decide_eq_false (by omega)
  have hcb' : decide (20000 < (body.size : Int)) = false := decide_eq_false (by omega)
  have hpk := pack_small body 1100000 (by omega) (by omega)
  obtain ⟨p, hp⟩ : ∃ p, p = packB body := ⟨_, rfl⟩
  rw [← hp] at hpk
  have hps : p.size = body.size + 7 := by rw [hp]; unfold packB; rw [ofL_size, packL_length]; rfl
  have HP := Lib.hid hp
  clear hp
  have HK := Lib.hid hpk
  clear hpk
  have hne : ((p.size : Int) != (body.size : Int) + 7) = false := by rw [bne_eq_false_iff_eq]; omega
  have hpl : (body.size : Int) + 7 ≤ (p.size : Int) := by omega
  have hpu : (p.size : Int) ≤ (body.size : Int) + 7 := by omega
  have HS := Lib.hid hps
  clear hps
  have hr1 := tmod_range at_ (8 * ((body.size : Int) + 4)) (by omega)
  have hcv : ∀ (w : World) (s : ByteArray), (convert 9 31 (.string s)).run Try.prog w = .ok (.slice (some ⟨w.heap.size, 0, none⟩) s.size (grownCap w s.size 0 5)) (Lib.bytesWorld w 5 s) :=
    fun w s => Lib.run_convert_string_bytes w 9 31 5 s Try.underlying9 Try.underlying31 Try.underlying5
  go_enter Try.func4, Try.ntmps4
  go_wp2_with (first
      | (go_at_call 9; refine (PAll.crc_Pack.calls 1100000 body _ _ _ HK.out).mono ?_; rintro e w1 ⟨rfl, hb1⟩))
  obtain ⟨F, hF⟩ : ∃ F : Nat, ((at_.tmod (8 * ((body.size : Int) + 4)) + 8 * ((body.size : Int) + 4)) % (8 * ((body.size : Int) + 4))) = (F : Int) :=
    ⟨_, (Int.toNat_of_nonneg (Int.emod_nonneg _ (by omega))).symm⟩
  have hFm : F < 8 * (body.size + 4) := by have := Int.emod_lt_of_pos (at_.tmod (8 * ((body.size : Int) + 4)) + 8 * ((body.size : Int) + 4)) (by omega : 0 < 8 * ((body.size : Int) + 4)); omega
  rw [hF]
  clear hF hr1
  have hbelow : Below w.heap.size w (Lib.bytesWorld w1 5 p) := below_step hb1 (bytesWorld_below w1 p)
  have hlaid := BytesAt.laid w1 p
  have hg1 : w.heap.size ≤ w1.heap.size := hb1.size
  obtain ⟨g, hg⟩ : ∃ g, g = w1.heap.size := ⟨_, rfl⟩
  obtain ⟨cp, hcp⟩ : ∃ cp, cp = grownCap w1 p.size 0 5 := ⟨_, rfl⟩
  obtain ⟨w2, hw2⟩ : ∃ w2, w2 = Lib.bytesWorld w1 5 p := ⟨_, rfl⟩
  rw [← hg] at hlaid hg1 ⊢
  rw [← hw2] at hbelow hlaid ⊢
  rw [← hcp]
  clear hg hcp hw2 hb1 hcv
  go_loopw [12] (fun v12 wr => ∃ k : Nat, k ≤ 32 ∧ v12 = .int .i64 k ∧ Below w.heap.size w wr ∧ BytesAt wr g (turned p.data.toList F (8 * (body.size + 4)) burst k))
    (fun v12 _ => 32 - (intOf v12).toNat)
  case atStart => exact ⟨0, by omega, rfl, hbelow, hlaid⟩
  case round =>
    clear hbelow hlaid
    obtain ⟨k, hk, rfl, hbw, hby⟩ := hrel
    by_cases hlt : k < 32
    · have hlt' : decide ((k : Int) < 32) = true := decide_eq_true (by omega)
      by_cases hfm : F + k < 8 * (body.size + 4)
      · have hfm' : decide ((F : Int) + k < 8 * ((body.size : Int) + 4)) = true := decide_eq_true (by omega)
        have hlen : (turned p.data.toList F (8 * (body.size + 4)) burst k).length = p.size := by rw [turned_length]; rfl
        have hidx : 3 + (F + k) / 8 < (turned p.data.toList F (8 * (body.size + 4)) burst k).length := by omega
        have hcell := hby.cell _ hidx
        have hfree := hby.free _ hidx
        clear hlen
        obtain ⟨b, hb'⟩ : ∃ b, b = (turned p.data.toList F (8 * (body.size + 4)) burst k)[3 + (F + k) / 8] := ⟨_, rfl⟩
        rw [← hb'] at hcell
        have HBb := Lib.hid hb'
        clear hb'
        have hbr : b.toNat < 256 := b.toNat_lt
        by_cases hbit : burst / 2 ^ k % 2 = 1
        · have hbit' : (Go.bits .and .u32 ((burst : Int) / 2 ^ k) 1 == 1) = true := by
            have : (burst : Int) / 2 ^ k = ((burst / 2 ^ k : Nat) : Int) := by norm_cast
            rw [this, bits_and32 (Nat.lt_of_le_of_lt (Nat.div_le_self _ _) hbu), hbit]; rfl
          have HBit := Lib.hid hbit
          clear hbit
          go_wp2
          refine ⟨⟨k + 1, by omega, by go_num, hbw.setCell hg1 _, ?_⟩, by simp [intOf]; omega⟩
          rw [turned_step ⟨hfm, HBit.out⟩ hidx HBb.out, xor_value b _ (by omega)]
          exact hby.set _ _
        · have hbit' : (Go.bits .and .u32 ((burst : Int) / 2 ^ k) 1 == 1) = false := by
            have : (burst : Int) / 2 ^ k = ((burst / 2 ^ k : Nat) : Int) := by norm_cast
            have h0 : burst / 2 ^ k % 2 = 0 := by omega
            rw [this, bits_and32 (Nat.lt_of_le_of_lt (Nat.div_le_self _ _) hbu), h0]; rfl
          have HBit := Lib.hid hbit
          clear hbit
          go_wp2
          refine ⟨⟨k + 1, by omega, by go_num, hbw, ?_⟩, by simp [intOf]; omega⟩
          rw [turned_stay (fun h => HBit.out h.2)]
          exact hby
      · have hfm' : decide ((F : Int) + k < 8 * ((body.size : Int) + 4)) = false := decide_eq_false (by omega)
        go_wp2
        refine ⟨⟨k + 1, by omega, by go_num, hbw, ?_⟩, by simp [intOf]; omega⟩
        rw [turned_stay (fun h => hfm h.1)]
        exact hby
    · have hlt' : decide ((k : Int) < 32) = false := decide_eq_false (by omega)
      have hk32 : k = 32 := by omega
      subst hk32
      have hlen : (turned p.data.toList F (8 * (body.size + 4)) burst 32).length = p.size := by rw [turned_length]; rfl
      obtain ⟨T, hT⟩ : ∃ T, T = turned p.data.toList F (8 * (body.size + 4)) burst 32 := ⟨_, rfl⟩
      rw [← hT] at hby hlen
      have hcv0 : ∀ n, (convert 31 9 (.slice (some ⟨g, 0, none⟩) p.size cp)).run Try.prog (wr.drewN n) = .ok (.string (ofL T)) (wr.drewN n) := by
        intro n
        have := (hby.drewN n).string (by omega) cp
        rw [hlen] at this
        exact this
      have hcv1 : (convert 31 9 (.slice (some ⟨g, 0, none⟩) p.size cp)).run Try.prog wr = .ok (.string (ofL T)) wr := by
        have := hby.string (by omega) cp
        rw [hlen] at this
        exact this
      have hpl' : p.data.toList = packL body.data.toList := by rw [HP.out]; exact ofL_data _
      have hbl : body.data.toList.length = body.size := rfl
      have hlaw := burst_law (b := body.data.toList) (by omega) F burst (ofL T) (by rw [ofL_data, hT, hpl', hbl])
      have hq : (ofL T).size = body.size + 7 := by rw [ofL_size, hlen]; omega
      have hun := unpack_f (ofL T) 1100000 (by omega) (by omega)
      have hofl := ofL_list body
      rw [← hpl', ofL_data] at hlaw
      have hBy := Lib.hid hby
      clear hby
      have HT := Lib.hid hT
      clear hT hpl' hbl hlen hk
      obtain ⟨q, hqT⟩ : ∃ q, q = ofL T := ⟨_, rfl⟩
      have hqd : q.toList = T := by rw [hqT, ByteArray.toList_eq, ofL_data]
      have hpd : p.toList = p.data.toList := ByteArray.toList_eq p
      rw [← hqT] at hcv0 hcv1 hlaw hun hq
      rcases hlaw with ⟨hsame, hres⟩ | ⟨hdiff, hres⟩
      · have heq : (q.toList == p.toList) = true := by rw [hqd, hpd, hsame]; simp
        rw [hres, hofl] at hun
        have HU := Lib.hid hun
        clear hun hres hofl hqd hpd hqT hsame hq
        go_wp2_with (first
          | (go_at_call 13; refine (PAll.crc_Unpack.calls 1100000 q _ _ _ _ HU.out).mono ?_; rintro e w3 ⟨rfl, ⟨nd, rfl⟩⟩)
          | (go_at_call 8; refine (PAll.auspicelaw02_awake.calls 100 true _ (awake_at _ (by omega))).mono ?_; rintro e w4 ⟨rfl, hb4⟩))
        go_ret
        exact ⟨rfl, below_step (by first | exact hbw | exact pw_below_drewN hbw _ | (apply pw_below_drewN; exact hbw)) hb4⟩
      · have heq : (q.toList == p.toList) = false := by
          rw [hqd, hpd]; exact beq_eq_false_iff_ne.mpr hdiff
        have hnul : nul.toList.isEmpty = true := by rw [ByteArray.toList_eq]; rfl
        rw [hres] at hun
        have HU := Lib.hid hun
        clear hun hres hofl hqd hpd hqT hdiff hq
        go_wp2_with (first
          | (go_at_call 13; refine (PAll.crc_Unpack.calls 1100000 q _ _ _ _ HU.out).mono ?_; rintro e w3 ⟨rfl, ⟨nd, rfl⟩⟩)
          | (go_at_call 8; refine (PAll.auspicelaw02_awake.calls 100 true _ (awake_at _ (by omega))).mono ?_; rintro e w4 ⟨rfl, hb4⟩))
        go_ret
        exact ⟨rfl, below_step (by first | exact hbw | exact pw_below_drewN hbw _ | (apply pw_below_drewN; exact hbw)) hb4⟩

theorem burst_walk (body : ByteArray) (at_ : Int) (burst : Int) (w : World) (h : (Lit.int .u32 burst).wf = true) :
    Calls Try.prog 4 #[.string body, .int .i64 at_, .int .u32 burst] w fun e w' => e = .returned (.bool true) ∧ Below w.heap.size w w' := by
  by_cases hb : body.size ≤ 20000
  · have hr : 0 ≤ burst ∧ burst < 4294967296 := by
      simp only [Lit.wf, Bool.and_eq_true, decide_eq_true_eq] at h
      have h0 : IntKind.u32.min = 0 := rfl
      have h1 : IntKind.u32.max = 4294967295 := by decide
      omega
    obtain ⟨n, rfl⟩ := Int.eq_ofNat_of_zero_le hr.1
    exact burst_short body at_ n (by omega) w hb
  · exact burst_long body at_ burst w (by omega)

end Go.Proofs.Ytoipjimooiogdaa.Crc
