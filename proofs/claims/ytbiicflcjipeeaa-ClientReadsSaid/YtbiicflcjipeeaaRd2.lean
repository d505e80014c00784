/- The document's reader hears an answer. -/
import Derived.Test.YtbiicflcjipeeaaRd1
namespace Go.Proofs.Ytbiicflcjipeeaa
open Go.RowKit
set_option linter.unusedSimpArgs false
set_option linter.unusedVariables false
attribute [local go_sem] Mem.run_store_float Mem.After.cell
def pk (p : Value × List Int) : List Value := [p.1]
/-- Rows of whole numbers, in a row, that are read. -/
def Pks (w : World) (ok : Nat → Prop) (v : Value) (l : List (Value × List Int)) : Prop := Mem.Rd w ok 1 v (l.map pk) ∧ ∀ p ∈ l, IntsR w ok p.1 p.2
namespace Pks
variable {w w1 : World} {ok ok' : Nat → Prop} {v : Value} {l : List (Value × List Int)}
theorem slice (h : Pks w ok v l) : ∃ A c, v = .slice A l.length c := by
  obtain ⟨A, c, e⟩ := h.1.slice
  exact ⟨A, c, by rw [e]; simp⟩
theorem step (h : Pks w ok v l) (hs : w.heap.size ≤ w1.heap.size) (hm : ∀ k, ok k → k < w.heap.size → w1.heap[k]? = w.heap[k]?) : Pks w1 ok v l := ⟨h.1.step hs hm, fun p hp => (h.2 p hp).step hs hm⟩
theorem mono (h : Pks w ok v l) (ho : ∀ k, ok k → ok' k) : Pks w ok' v l := ⟨h.1.mono ho, fun p hp => (h.2 p hp).mono ho⟩
theorem below (h : Pks w ok v l) (hb : Below w.heap.size w w1) : Pks w1 ok v l := h.step hb.size (fun k _ hk => hb.block k hk)
theorem lt (h : Pks w ok v l) : Pks w (fun k => ok k ∧ k < w.heap.size) v l := ⟨Mem.Rd.lt h.1, fun p hp => (h.2 p hp).lt⟩
theorem nil (w : World) (ok : Nat → Prop) : Pks w ok (.slice none 0 0) [] := ⟨Mem.Rd.nil _ _ _, fun p hp => by simp at hp⟩
end Pks
theorem pk_rows (l : List (Value × List Int)) : ∀ r ∈ l.map pk, r.length = 1 := by
  intro r hr
  obtain ⟨n, _, rfl⟩ := List.mem_map.1 hr
  rfl
def ns (l : List Int) : List Value := (l.map intc).flatten
def vs (l : List (Value × List Int)) : List Value := (l.map pk).flatten
theorem ns_snoc (l : List Int) (n : Int) : ns (l ++ [n]) = ns l ++ [.int .i64 n] := by simp [ns, intc]
theorem vs_snoc (l : List (Value × List Int)) (p : Value × List Int) : vs (l ++ [p]) = vs l ++ [p.1] := by simp [vs, pk]
theorem info_ints : (Try.prog.info? 55).map (fun i => (i.zero, i.size, i.bytes)) = some (some (.slice none 0 0), 1, 24) := by kernel_rfl
/-- Two rows of one's own, made since W. -/
structure AB (W wr : World) (a b : Value) (N : List Int) (G : List (Value × List Int)) : Prop where
  ha : wr.ownsRow W.heap.size 3 1 a N.length (ns N)
  hb : wr.ownsRow W.heap.size 55 1 b G.length (vs G)
  ne : ∀ j, a.ownBlock = some j → b.ownBlock ≠ some j
  bel : Below W.heap.size W wr
theorem AB.begin (W : World) : AB W W (.slice none 0 0) (.slice none 0 0) [] [] := ⟨World.ownsRow_nil _ _ _ _, World.ownsRow_nil _ _ _ _, fun j hj => by simp [Value.ownBlock] at hj, Below.refl _ _⟩
theorem AB.pushA {W wr w3 : World} {a b a' : Value} {N : List Int} {G : List (Value × List Int)} {n : Int} {o : Obj} (h : AB W wr a b N G) (hown : w3.ownsRow W.heap.size 3 1 a' (N.length + 1) (ns N ++ [.int .i64 n]))
    (hg : (wr.alloc o).grownBy w3 a.ownBlock) (ho : a'.ownBlock = a.ownBlock ∨ a'.ownBlock = some (wr.heap.size + 1)) : AB W w3 a' b (N ++ [n]) G := by
  have hs := h.bel.size
  refine ⟨by rw [ns_snoc, List.length_append]; exact hown, own_move h.hb (fun k hk => ?_), fun j hj => ?_, Below.grown (h.bel.alloc hs _) hg (by simp; omega) (fun j hj => (h.ha.lt j hj).1)⟩
  · have hk2 := (h.hb.lt k hk).2
    exact (hg.block k (by simp; omega) (fun e => h.ne k e.symm hk)).trans (Below.heap_alloc wr o k hk2)
  · rcases ho with ho | ho
    · exact h.ne j (ho ▸ hj)
    · intro hb
      have h1 := (h.hb.lt j hb).2
      rw [ho] at hj
      have : wr.heap.size + 1 = j := by simpa using hj
      omega
theorem AB.pushB {W wr w3 : World} {a b b' : Value} {N : List Int} {G : List (Value × List Int)} {p : Value × List Int} {o : Obj} (h : AB W wr a b N G) (hown : w3.ownsRow W.heap.size 55 1 b' (G.length + 1) (vs G ++ [p.1]))
    (hg : (wr.alloc o).grownBy w3 b.ownBlock) (ho : b'.ownBlock = b.ownBlock ∨ b'.ownBlock = some (wr.heap.size + 1)) : AB W w3 a b' N (G ++ [p]) := by
  have hs := h.bel.size
  refine ⟨own_move h.ha (fun k hk => ?_), by rw [vs_snoc, List.length_append]; exact hown, fun j hj hb => ?_, Below.grown (h.bel.alloc hs _) hg (by simp; omega) (fun j hj => (h.hb.lt j hj).1)⟩
  · have hk2 := (h.ha.lt k hk).2
    exact (hg.block k (by simp; omega) (fun e => h.ne k hk e.symm)).trans (Below.heap_alloc wr o k hk2)
  · rcases ho with ho | ho
    · exact h.ne j hj (ho ▸ hb)
    · have h1 := (h.ha.lt j hj).2
      rw [ho] at hb
      have : wr.heap.size + 1 = j := by simpa using hb
      omega
/-- The document's reader, as a value. -/
abbrev rrd (nodes to at_ gone : Int) (vn vg : Value) : Value := .agg #[.int .i64 nodes, .int .i64 to, .int .i64 at_, .int .i64 gone, vn, vg]
def upto (a : Int) (m : Nat) : List Int := (List.range m).map fun i : Nat => a + (i : Int)
theorem upto_succ (a : Int) (m : Nat) : upto a (m + 1) = upto a m ++ [a + (m : Int)] := by simp [upto, List.range_succ]
theorem upto_len (a : Int) (m : Nat) : (upto a m).length = m := by simp [upto]
set_option maxRecDepth 100000 in
set_option maxHeartbeats 4000000 in
theorem rdTold_ok (nodes to at_ gone n : Int) (ok : Nat → Prop) (vn vg vl : Value) (N : List Int) (G L : List (Value × List Int)) (w : World) (hN : IntsR w ok vn N) (hG : Pks w ok vg G) (hL : Pks w ok vl L)
    (hlen : G.length = N.length) (hn : N.length ≤ 100000) (hl : L.length ≤ 100000) (h0 : 0 ≤ at_) (h1 : n = at_ + (L.length : Int)) (h2 : n ≤ 9223372036854775807) :
    Calls Try.prog 19 #[rrd nodes to at_ gone vn vg, vl, .int .i64 n, .int .i64 0] w fun r w' => ∃ a b, r = .returned (rrd nodes to n gone a b) ∧ Below w.heap.size w w' ∧
      IntsR w' (fun k => ok k ∨ w.heap.size ≤ k) a (N ++ upto at_ L.length) ∧ Pks w' (fun k => ok k ∨ w.heap.size ≤ k) b (G ++ L) := by
  have hN' := hN.lt
  have hG' := hG.lt
  have hL' := hL.lt
  obtain ⟨An, cn, rfl⟩ := hN.slice
  obtain ⟨Ag, cg, rfl⟩ := hG.slice
  obtain ⟨Al, cl, rfl⟩ := hL.slice
  have HN := Lib.hid hN'
  have HG := Lib.hid hG'
  have HL := Lib.hid hL'
  clear hN hG hL hN' hG' hL'
  rw [hlen]
  have HLEN := Lib.hid hlen
  have H1 := Lib.hid h1
  clear hlen
  have hnn : ((N.length : Nat) : Int) ≤ 100000 := by omega
  have hll : ((L.length : Nat) : Int) ≤ 100000 := by omega
  have g1 : (at_ : Int) ≤ n := by omega
  have g2 : IntKind.i64.wrap (n - at_) = (L.length : Int) := by rw [h1, show at_ + (L.length : Int) - at_ = (L.length : Int) by omega]; exact IntWalk.i64_in _ (by omega)
  have g4 : n - at_ = (L.length : Int) := by omega
  have G4 := Lib.hid g4
  have g3 : (n - at_ == (L.length : Int)) = true := by simpa using g4
  clear h1 g4
  obtain ⟨i0, hi, hz0, hz1, hz2⟩ := info_parts info_int
  obtain ⟨i1, hi1, hy0, hy1, hy2⟩ := info_parts info_ints
  go_enter Try.func19, Try.ntmps19
  go_wp2_with fail
  have hz2 : ((w.alloc (.cells #[.int .i64 nodes, .int .i64 to, .int .i64 at_, .int .i64 gone, .slice An N.length cn, .slice Ag N.length cg] 58)).alloc (.cells #[.int .i64 0, .int .i64 0, .int .i64 0, .int .i64 0, .slice none 0 0, .slice none 0 0] 58)).heap.size = w.heap.size + 2 := by simp
  have hk2 := two_kept (Below.refl _ ((w.alloc (.cells #[.int .i64 nodes, .int .i64 to, .int .i64 at_, .int .i64 gone, .slice An N.length cn, .slice Ag N.length cg] 58)).alloc (.cells #[.int .i64 0, .int .i64 0, .int .i64 0, .int .i64 0, .slice none 0 0, .slice none 0 0] 58)))
  generalize ((w.alloc (.cells #[.int .i64 nodes, .int .i64 to, .int .i64 at_, .int .i64 gone, .slice An N.length cn, .slice Ag N.length cg] 58)).alloc (.cells #[.int .i64 0, .int .i64 0, .int .i64 0, .int .i64 0, .slice none 0 0, .slice none 0 0] 58)) = W at hz2 hk2 ⊢
  have HK := Lib.hid hk2
  have HZ := Lib.hid hz2
  clear hk2 hz2
  go_loopw [9, 10, 11] (fun a b i wr => ∃ (N1 : List Int) (G1 : List (Value × List Int)), N1.length ≤ N.length ∧ i = .int .i64 N1.length ∧ N1 = N.take N1.length ∧ G1 = G.take N1.length ∧ G1.length = N1.length ∧ AB W wr a b N1 G1) (fun _ _ i _ => N.length - (intOf i).toNat)
  case atStart => exact ⟨[], [], Nat.zero_le _, rfl, rfl, rfl, rfl, AB.begin W⟩
  case round =>
    obtain ⟨N1, G1, hk, rfl, hN1, hG1, hGN, hAB⟩ := hrel
    have hR := (hAB.bel.block _ (by rw [HZ.out]; omega)).trans HK.out.2.1
    have hbelw : Below w.heap.size w wr := HK.out.1.trans (hAB.bel.mono (by rw [HZ.out]; omega))
    have r4 := Mem.cell hR (j := 4) rfl
    have r5 := Mem.cell hR (j := 5) rfl
    have hszW := hAB.bel.size
    have hlR := Mem.lt hR
    obtain ⟨Aa, ca, rfl, hca⟩ := Qu.q_slice (Qu.q_of_own hAB.ha)
    obtain ⟨Ab, cb, rfl, hcb⟩ := Qu.q_slice (Qu.q_of_own hAB.hb)
    by_cases hlt : N1.length < N.length
    · obtain ⟨x, hx⟩ : ∃ x, N[N1.length]? = some x := ⟨_, List.getElem?_eq_getElem hlt⟩
      obtain ⟨p, hp⟩ : ∃ p, G[N1.length]? = some p := ⟨_, List.getElem?_eq_getElem (by rw [HLEN.out]; exact hlt)⟩
      obtain ⟨g, o, rfl, hgo, hgl, hrow⟩ := (HN.out.below hbelw).1.row (k := N1.length) (r := intc x) (by rw [List.getElem?_map, hx]; rfl)
      obtain ⟨g', o', rfl, hgo', hgl', hrow'⟩ := (HG.out.below hbelw).1.row (k := N1.length) (r := pk p) (by rw [List.getElem?_map, hp]; rfl)
      have hpr := HG.out.2 p (List.mem_of_getElem? hp)
      obtain ⟨pv, pl⟩ := p
      obtain ⟨Ap, cp, hpv⟩ := hpr.slice
      dsimp only at hpv
      subst hpv
      have c0 : wr.cell? ⟨g, o + N1.length, none⟩ = some (.int .i64 x) := by have := hrow 0 _ rfl; simpa using this
      have d0 : wr.cell? ⟨g', o' + N1.length, none⟩ = some (.slice Ap pl.length cp) := by have := hrow' 0 _ rfl; simpa [pk] using this
      have hlt' : (N1.length : Int) < (N.length : Int) := by omega
      have HX := Lib.hid (And.intro hAB (And.intro hN1 (And.intro hG1 (And.intro hGN (And.intro hx (And.intro hp (And.intro hR hbelw)))))))
      have g2 := hgo.2
      have g3 := hgo'.2
      clear hAB hN1 hG1 hGN hx hp hR hbelw hrow hrow' hpr hgo hgo'
      go_wp2_with (first
        | (at_builtin
           refine Mem.append_one rfl (.tmp 37) (.tmp 43) 55 rfl W.heap.size 3 i0 _ 1 8 Try.underlying55 hi hz0 hz1 hz2 rfl (by decide) wr _ N1.length (ns N1) (by rfl) HX.out.1.ha [.int .i64 x] rfl (by intro u hu; rw [List.mem_singleton.1 hu]; rfl) (by rfl) (by unfold maxLen; omega) (by omega) (by omega) ?_
           intro v3 w3 hown3 hg3 ho3
           have hAB3 := HX.out.1.pushA hown3 hg3 ho3
           have hR3 := (hAB3.bel.block _ (by rw [HZ.out]; omega)).trans HK.out.2.1
           have e5 := Mem.cell hR3 (j := 5) rfl
           have hbel3 : Below w.heap.size w w3 := HK.out.1.trans (hAB3.bel.mono (by rw [HZ.out]; omega))
           have d3 : w3.cell? ⟨g', o' + N1.length, none⟩ = some (.slice Ap pl.length cp) := (World.cell?_of_block (a := ⟨g', _, none⟩) ((hbel3.block g' g3).trans (HX.out.2.2.2.2.2.2.2.block g' g3).symm)).trans d0
           obtain ⟨A3, c3, rfl, hc3⟩ := Qu.q_slice (Qu.q_of_own hAB3.ha)
           have HAB3 := Lib.hid hAB3
           have hsz3 := hAB3.bel.size
           clear hAB3 hR3 hown3 hg3 ho3 hbel3)
        | (at_builtin
           refine Mem.append_one rfl (.tmp 45) (.tmp 51) 56 rfl W.heap.size 55 i1 _ 1 24 Try.underlying56 hi1 hy0 hy1 hy2 rfl (by decide) w3 _ G1.length (vs G1) (by rfl) HAB3.out.hb [.slice Ap pl.length cp] rfl (by intro u hu; rw [List.mem_singleton.1 hu]; rfl) (by rfl) (by have := HX.out.2.2.2.1; unfold maxLen; omega) (by have := HX.out.2.2.2.1; omega) (by omega) ?_
           intro v4 w4 hown4 hg4 ho4
           have hAB4 := AB.pushB (p := (.slice Ap pl.length cp, pl)) HAB3.out hown4 hg4 ho4
           have HAB4 := Lib.hid hAB4
           clear hAB4 hown4 hg4 ho4))
      go_roundw
      case rel =>
        obtain ⟨hAB, hN1, hG1, hGN, hx, hp, hR, hbelw⟩ := HX.out
        refine ⟨N1 ++ [x], G1 ++ [(.slice Ap pl.length cp, pl)], by simp; omega, by simp, ?_, ?_, by simp [hGN], by have h4 := HAB4.out; rw [List.length_append, List.length_singleton] at h4; exact h4⟩
        · rw [List.length_append, List.length_singleton, List.take_add_one, hx, ← hN1]; rfl
        · rw [List.length_append, List.length_singleton, List.take_add_one, hp, ← hG1]; rfl
      case measure => simp [intOf]; omega
    · have hke : N1.length = N.length := by omega
      rw [hke, List.take_length] at hN1
      rw [hke, ← HLEN.out, List.take_length] at hG1
      subst hN1
      subst hG1
      have HGN := Lib.hid hGN
      clear hGN
      go_wp2_with fail
      go_loopw [9, 10, 12] (fun a b i wr => ∃ (N2 : List Int) (G2 L1 : List (Value × List Int)), L1.length ≤ L.length ∧ i = .int .i64 L1.length ∧ L1 = L.take L1.length ∧ N2 = N1 ++ upto at_ L1.length ∧ G2 = G1 ++ L1 ∧ AB W wr a b N2 G2) (fun _ _ i _ => L.length - (intOf i).toNat)
      case atStart => exact ⟨N1, G1, [], Nat.zero_le _, rfl, rfl, by simp [upto], by simp, hAB⟩
      case round =>
        obtain ⟨N2, G2, L1, hk2, rfl, hL1, hN2, hG2, hAB2⟩ := hrel
        clear hAB hR r4 r5 hbelw
        have hR := (hAB2.bel.block _ (by rw [HZ.out]; omega)).trans HK.out.2.1
        have hbelw : Below w.heap.size w wr := HK.out.1.trans (hAB2.bel.mono (by rw [HZ.out]; omega))
        have r2 := Mem.cell hR (j := 2) rfl
        have hszq := hAB2.bel.size
        have hlR := Mem.lt hR
        have hNl : N2.length = N1.length + L1.length := by rw [hN2, List.length_append, upto_len]
        have hGl : G2.length = G1.length + L1.length := by rw [hG2, List.length_append]
        obtain ⟨Ac, cc, rfl, hcc⟩ := Qu.q_slice (Qu.q_of_own hAB2.ha)
        obtain ⟨Ad, cd, rfl, hcd⟩ := Qu.q_slice (Qu.q_of_own hAB2.hb)
        by_cases hlt2 : L1.length < L.length
        · obtain ⟨p, hp⟩ : ∃ p, L[L1.length]? = some p := ⟨_, List.getElem?_eq_getElem hlt2⟩
          have hrl := (HL.out.below hbelw).1.row (k := L1.length) (r := pk p) (by rw [List.getElem?_map, hp]; rfl)
          obtain ⟨g, o, rfl, hgo, hgl, hrow⟩ := hrl
          have hpr := HL.out.2 p (List.mem_of_getElem? hp)
          obtain ⟨pv, pl⟩ := p
          obtain ⟨Ap, cp, hpv⟩ := hpr.slice
          dsimp only at hpv
          subst hpv
          have d0 : wr.cell? ⟨g, o + L1.length, none⟩ = some (.slice Ap pl.length cp) := by have := hrow 0 _ rfl; simpa [pk] using this
          have hlt' : (L1.length : Int) < (L.length : Int) := by omega
          have hsum : at_ + (L1.length : Int) ≤ 9223372036854775807 := by have := H1.out; omega
          have hsum0 : 0 ≤ at_ + (L1.length : Int) := by omega
          have HX := Lib.hid (And.intro hAB2 (And.intro hL1 (And.intro hN2 (And.intro hG2 (And.intro hp (And.intro hbelw (And.intro hNl hGl)))))))
          have g2' := hgo.2
          clear hAB2 hL1 hN2 hG2 hp hR hbelw hrow hpr hgo hNl hGl
          go_wp2_with (first
            | (at_builtin
               refine Mem.append_one rfl (.tmp 59) (.tmp 64) 55 rfl W.heap.size 3 i0 _ 1 8 Try.underlying55 hi hz0 hz1 hz2 rfl (by decide) wr _ N2.length (ns N2) (by rfl) HX.out.1.ha [.int .i64 (at_ + (L1.length : Int))] rfl (by intro u hu; rw [List.mem_singleton.1 hu]; rfl) (by rfl) (by have := HX.out.2.2.2.2.2.2.1; unfold maxLen; omega) (by have := HX.out.2.2.2.2.2.2.1; omega) (by omega) ?_
               intro v3 w3 hown3 hg3 ho3
               have hAB3 := HX.out.1.pushA hown3 hg3 ho3
               have hbel3 : Below w.heap.size w w3 := HK.out.1.trans (hAB3.bel.mono (by rw [HZ.out]; omega))
               have d3 : w3.cell? ⟨g, o + L1.length, none⟩ = some (.slice Ap pl.length cp) := (World.cell?_of_block (a := ⟨g, _, none⟩) ((hbel3.block g g2').trans (HX.out.2.2.2.2.2.1.block g g2').symm)).trans d0
               obtain ⟨A3, c3, rfl, hc3⟩ := Qu.q_slice (Qu.q_of_own hAB3.ha)
               have HAB3 := Lib.hid hAB3
               have hsz3 := hAB3.bel.size
               clear hAB3 hown3 hg3 ho3 hbel3)
            | (at_builtin
               refine Mem.append_one rfl (.tmp 66) (.tmp 71) 56 rfl W.heap.size 55 i1 _ 1 24 Try.underlying56 hi1 hy0 hy1 hy2 rfl (by decide) w3 _ G2.length (vs G2) (by rfl) HAB3.out.hb [.slice Ap pl.length cp] rfl (by intro u hu; rw [List.mem_singleton.1 hu]; rfl) (by rfl) (by have := HX.out.2.2.2.2.2.2.2; have := HGN.out; unfold maxLen; omega) (by have := HX.out.2.2.2.2.2.2.2; have := HGN.out; omega) (by omega) ?_
               intro v4 w4 hown4 hg4 ho4
               have hAB4 := AB.pushB (p := (.slice Ap pl.length cp, pl)) HAB3.out hown4 hg4 ho4
               have HAB4 := Lib.hid hAB4
               clear hAB4 hown4 hg4 ho4))
          go_roundw
          case rel =>
            obtain ⟨hAB2, hL1, hN2, hG2, hp, hbelw, hNl, hGl⟩ := HX.out
            refine ⟨N2 ++ [at_ + (L1.length : Int)], G2 ++ [(.slice Ap pl.length cp, pl)], L1 ++ [(.slice Ap pl.length cp, pl)], by simp; omega, by simp, ?_, ?_, ?_, by have h4 := HAB4.out; rw [List.length_append, List.length_singleton] at h4; exact h4⟩
            · rw [List.length_append, List.length_singleton, List.take_add_one, hp, ← hL1]; rfl
            · rw [List.length_append, List.length_singleton, upto_succ, hN2, List.append_assoc]
            · rw [hG2, List.append_assoc]
          case measure => simp [intOf]; omega
        · have hke2 : L1.length = L.length := by omega
          rw [hke2, List.take_length] at hL1
          subst hL1
          have hZ := (hAB2.bel.block _ (by rw [HZ.out]; omega)).trans HK.out.2.2
          have r0 := Mem.cell hR (j := 0) rfl
          have r1 := Mem.cell hR (j := 1) rfl
          have r3 := Mem.cell hR (j := 3) rfl
          have r4 := Mem.cell hR (j := 4) rfl
          have r5 := Mem.cell hR (j := 5) rfl
          have f2 := Mem.free (j := 2) hR
          have f4 := Mem.free (j := 4) hR
          have f5 := Mem.free (j := 5) hR
          have z0 := Mem.cell hZ (j := 0) rfl
          have z1 := Mem.cell hZ (j := 1) rfl
          have z2 := Mem.cell hZ (j := 2) rfl
          have z3 := Mem.cell hZ (j := 3) rfl
          have z4 := Mem.cell hZ (j := 4) rfl
          have z5 := Mem.cell hZ (j := 5) rfl
          have e0 := Mem.free (j := 0) hZ
          have e1 := Mem.free (j := 1) hZ
          have e2 := Mem.free (j := 2) hZ
          have e3 := Mem.free (j := 3) hZ
          have e4 := Mem.free (j := 4) hZ
          have e5 := Mem.free (j := 5) hZ
          have HX := Lib.hid (And.intro hAB2 (And.intro hN2 (And.intro hG2 (And.intro hbelw (And.intro hNl hGl)))))
          clear hAB2 hN2 hG2 hbelw hR hZ hNl hGl
          go_wp2_with fail
          obtain ⟨hAB2, hN2, hG2, hbelw, hNl, hGl⟩ := HX.out
          refine bodyPost_ret (v := rrd nodes to n gone (.slice Ac N2.length cc) (.slice Ad G2.length cd)) (by simp [results, Try.results19, go_sem, *]) rfl ⟨_, _, rfl, ?_, ?_, ?_⟩
          · with_reducible repeat (first | exact hbelw | refine Below.setCell ?_ (by simp) _)
          · rw [← hN2]
            have hrd : Mem.Rd wr (fun k => W.heap.size ≤ k) 1 (.slice Ac N2.length cc) (N2.map intc) := (Rd_of_q (rows := N2.map intc) (Qu.q_of_own hAB2.ha) (by simp) (intc_rows N2)).mono (fun k hk => (hAB2.ha.lt k hk).1)
            refine ⟨(Mem.Rd.ch (S := fun k => k = w.heap.size ∨ k = w.heap.size + 1) hrd ?_ (fun k hk h => by rw [HZ.out] at hk; omega)).mono (fun k hk => .inr (by rw [HZ.out] at hk; omega)), by omega⟩
            with_reducible repeat (first | exact Mem.Ch.refl _ _ | refine Mem.Ch.set ?_ (.inr (.inl rfl)) | refine Mem.Ch.set ?_ (.inr (.inr rfl)))
          · rw [← hG2]
            have hrd : Mem.Rd wr (fun k => W.heap.size ≤ k) 1 (.slice Ad G2.length cd) (G2.map pk) := (Rd_of_q (rows := G2.map pk) (Qu.q_of_own hAB2.hb) (by simp) (pk_rows G2)).mono (fun k hk => (hAB2.hb.lt k hk).1)
            have hp : ∀ p ∈ G2, IntsR w (fun k => ok k ∧ k < w.heap.size) p.1 p.2 := fun p hp => by
              rw [hG2] at hp
              rcases List.mem_append.1 hp with hp | hp
              · exact HG.out.2 p hp
              · exact HL.out.2 p hp
            refine ⟨(Mem.Rd.ch (S := fun k => k = w.heap.size ∨ k = w.heap.size + 1) hrd ?_ (fun k hk h => by rw [HZ.out] at hk; omega)).mono (fun k hk => .inr (by rw [HZ.out] at hk; omega)), fun p hpp => ?_⟩
            · with_reducible repeat (first | exact Mem.Ch.refl _ _ | refine Mem.Ch.set ?_ (.inr (.inl rfl)) | refine Mem.Ch.set ?_ (.inr (.inr rfl)))
            · refine IntsR.mono (ok := fun k => ok k ∧ k < w.heap.size) (IntsR.below (hp p hpp) ?_) (fun k hk => .inl hk.1)
              with_reducible repeat (first | exact hbelw | refine Below.setCell ?_ (by simp) _)
set_option maxRecDepth 100000 in
set_option maxHeartbeats 2000000 in
theorem rdTold_gone (nodes to at_ gone n e : Int) (vn vg vl : Value) (An Ag Al : Option Addr) (a b c d x y : Nat) (w : World) (hn : vn = .slice An a b) (hg : vg = .slice Ag c d) (hl : vl = .slice Al x y) (he : e = 180) (h : at_ < n) (h0 : 0 ≤ gone) (h1 : gone ≤ at_) (h2 : n ≤ 9223372036854775807) :
    Calls Try.prog 19 #[rrd nodes to at_ gone vn vg, vl, .int .i64 n, .int .i64 e] w fun r w' => r = .returned (rrd nodes to n (gone + (n - at_)) vn vg) ∧ Below w.heap.size w w' := by
  subst hn; subst hg; subst hl; subst he
  have e1 : wrap64 (wrap64 (gone + n) - at_) = gone + (n - at_) := by unfold wrap64; omega
  have HE := Lib.hid e1
  clear e1
  go_enter Try.func19, Try.ntmps19
  go_wp2_with fail
  refine bodyPost_ret (v := rrd nodes to n (wrap64 (wrap64 (gone + n) - at_)) (.slice An a b) (.slice Ag c d)) (by simp [results, Try.results19, go_sem, *]) rfl ⟨by rw [HE.out], ?_⟩
  exact ((Below.refl _ _).alloc (Nat.le_refl _) _).alloc (by simp) _
set_option maxRecDepth 100000 in
set_option maxHeartbeats 2000000 in
theorem rdTold_late (nodes to at_ gone n e : Int) (An Ag Al : Option Addr) (a b c d x y : Nat) (w : World) (h : (e ≠ 0 ∧ e ≠ 180) ∨ (e = 0 ∧ n < at_) ∨ (e = 0 ∧ at_ ≤ n ∧ n - at_ ≠ (x : Int)) ∨ (e = 180 ∧ n ≤ at_)) (h0 : 0 ≤ at_) (h2 : n ≤ 9223372036854775807)
    (f1 : 1 ≤ nodes) (f2 : nodes ≤ 7) (f3 : 0 ≤ to) (f4 : to < nodes) :
    Calls Try.prog 19 #[rrd nodes to at_ gone (.slice An a b) (.slice Ag c d), .slice Al x y, .int .i64 n, .int .i64 e] w fun r w' => r = .returned (rrd nodes (nextTo to nodes) at_ gone (.slice An a b) (.slice Ag c d)) ∧ Below w.heap.size w w' := by
  have hk2 := two_kept (Below.refl _ ((w.alloc (.cells #[.int .i64 nodes, .int .i64 to, .int .i64 at_, .int .i64 gone, .slice An a b, .slice Ag c d] 58)).alloc (.cells #[.int .i64 0, .int .i64 0, .int .i64 0, .int .i64 0, .slice none 0 0, .slice none 0 0] 58)))
  have HK := Lib.hid hk2
  clear hk2
  rcases h with ⟨k0, k1⟩ | ⟨rfl, k⟩ | ⟨rfl, k, k2⟩ | ⟨rfl, k⟩
  case' inl =>
    have k0' : (e == 0) = false := by simpa using k0
    have k1' : (e == 180) = false := by simpa using k1
    clear k0 k1
  case' inr.inr.inl =>
    have k2' : (n - at_ == (x : Int)) = false := by simpa using k2
    clear k2
  all_goals
    go_enter Try.func19, Try.ntmps19
    go_wp2_with (go_at_call 44; refine (rnext_any to nodes _ f1 f2 f3 f4).mono ?_; rintro _ w' ⟨rfl, rfl⟩)
    refine bodyPost_ret (v := rrd nodes (nextTo to nodes) at_ gone (.slice An a b) (.slice Ag c d)) (by simp [results, Try.results19, go_sem, *]) rfl ⟨rfl, ?_⟩
    with_reducible repeat (first | exact Below.refl _ _ | refine Below.setCell ?_ (by simp) _ | refine Below.alloc ?_ (by simp) _)
end Go.Proofs.Ytbiicflcjipeeaa
