/- A reader hears that something is gone, or nothing; the state of a reader, plain; both readers' acts. -/
import Derived.Test.YtbiicflcjipeeaaRd5
namespace Go.Proofs.Ytbiicflcjipeeaa
open Go.RowKit
set_option linter.unusedSimpArgs false
set_option linter.unusedVariables false
attribute [local go_sem] Mem.run_store_float Mem.After.cell
set_option maxRecDepth 100000 in
set_option maxHeartbeats 2000000 in
theorem RdTold_gone (S : Nat → Prop) (b : Nat) (r : Rr) (n e : Int) (A : Option Addr) (x y : Nat) (w : World) (h : ReaderAt w S b r) (he : e = 180) (hlt : r.at_ < n) (h0 : 0 ≤ r.gone) (h1 : r.gone ≤ r.at_) (h2 : n ≤ 9223372036854775807) :
    Calls Try.prog 21 #[.pointer (some ⟨b, 0, none⟩), .slice A x y, .int .i64 n, .int .i64 e] w fun e w' => e = .returned (.tuple #[]) ∧ Mem.Ch S w w' ∧ ReaderAt w' S b { r with at_ := n, gone := r.gone + (n - r.at_) } := by
  subst he
  obtain ⟨q, vg, hb, hq, sb, sq, hne, hw, dw, hff⟩ := h
  have b3 := Mem.cell hb (j := 3) rfl
  have b4 := Mem.cell hb (j := 4) rfl
  have f3 := Mem.free (j := 3) hb
  have f4 := Mem.free (j := 4) hb
  have HH := Lib.hid (And.intro hb (And.intro hq (And.intro hw (And.intro dw hff))))
  have e1 : IntKind.i64.wrap (n - r.at_) = n - r.at_ := IntWalk.i64_in _ (by omega)
  have e2 : IntKind.i64.wrap (r.gone + (n - r.at_)) = r.gone + (n - r.at_) := IntWalk.i64_in _ (by omega)
  have g1 : 0 ≤ n - r.at_ := by omega
  have g2 : r.gone + (n - r.at_) ≤ 9223372036854775807 := by omega
  clear hb hq hw dw hff
  go_enter Try.func21, Try.ntmps21
  go_wp2_with fail
  go_region
  all_goals
    go_wp2_with fail
    go_end0
    obtain ⟨hb, hq, hw, dw, hff⟩ := HH.out
    have hch : Mem.Ch (fun k => k = q ∨ k = b) w ((w.setCell ⟨b, 4, none⟩ (.int .i64 (r.gone + (n - r.at_)))).setCell ⟨b, 3, none⟩ (.int .i64 n)).drew := (((Mem.Ch.refl (fun k => k = q ∨ k = b) _).set (.inr (.inr rfl))).set (.inr (.inr rfl))).drew
    exact ⟨rfl, hch.mono (fun k _ hk => by rcases hk with rfl | rfl; exact sq; exact sb), ReaderAt.hdr (r1 := { r with at_ := n, gone := r.gone + (n - r.at_) }) sb sq hne hw dw hff hch (Mem.set (Mem.set hb)) (Mem.set_ne (Mem.set_ne hq (fun h => hne h.symm)) (fun h => hne h.symm)) rfl⟩
set_option maxRecDepth 100000 in
set_option maxHeartbeats 2000000 in
theorem RdTold_late (S : Nat → Prop) (b : Nat) (r : Rr) (n e : Int) (A : Option Addr) (x y : Nat) (w : World) (h : ReaderAt w S b r) (hc : (e ≠ 0 ∧ e ≠ 180) ∨ (e = 0 ∧ n < r.at_) ∨ (e = 0 ∧ r.at_ ≤ n ∧ n - r.at_ ≠ (x : Int)) ∨ (e = 180 ∧ n ≤ r.at_)) (h0 : 0 ≤ r.at_) (h2 : n ≤ 9223372036854775807)
    (f1 : 1 ≤ r.nodes) (f2 : r.nodes ≤ 7) (f3 : 0 ≤ r.to) (f4 : r.to < r.nodes) :
    Calls Try.prog 21 #[.pointer (some ⟨b, 0, none⟩), .slice A x y, .int .i64 n, .int .i64 e] w fun e w' => e = .returned (.tuple #[]) ∧ Mem.Ch S w w' ∧ ReaderAt w' S b { r with to := nextTo r.to r.nodes } := by
  have HR := Lib.hid h
  obtain ⟨q, vg, hb, hq, sb, sq, hne, hw, dw, hff⟩ := h
  have b3 := Mem.cell hb (j := 3) rfl
  clear hb hq hw dw hff
  rcases hc with ⟨k0, k1⟩ | ⟨rfl, k⟩ | ⟨rfl, k, k2⟩ | ⟨rfl, k⟩
  case' inl =>
    have k0' : (e == 0) = false := by simpa using k0
    have k1' : (e == 180) = false := by simpa using k1
    clear k0 k1
  case' inr.inr.inl =>
    have k2' : (n - r.at_ == (x : Int)) = false := by simpa using k2
    clear k2
  all_goals
    go_enter Try.func21, Try.ntmps21
    go_wp2_with (go_at_call 22; refine (RdLate_any S b r _ HR.out f1 f2 f3 f4).mono ?_; rintro _ w1 ⟨rfl, hc1, hr1⟩)
    go_end0
    exact ⟨rfl, hc1, hr1⟩
/-- A reader's state, plain. -/
structure Rs where
  nodes : Int
  to : Int
  at_ : Int
  gone : Int
  got : List (Int × List Int)
def Rs.late (s : Rs) : Rs := { s with to := nextTo s.to s.nodes }
def Rs.told (s : Rs) (L : List (Value × List Int)) (n e : Int) : Rs :=
  if e = 0 ∧ s.at_ ≤ n ∧ n - s.at_ = (L.length : Int) then { s with got := s.got ++ newG s.at_ L, at_ := n }
  else if e = 180 ∧ s.at_ < n then { s with gone := s.gone + (n - s.at_), at_ := n } else s.late
structure RInv (s : Rs) (k : Nat) : Prop where
  n1 : 1 ≤ s.nodes
  n7 : s.nodes ≤ 7
  t0 : 0 ≤ s.to
  t1 : s.to < s.nodes
  g0 : 0 ≤ s.gone
  g1 : s.gone ≤ s.at_
  a1 : s.at_ ≤ 9223372036854775807
  len : s.got.length ≤ 20 * k
theorem RInv.more {s : Rs} {k : Nat} (h : RInv s k) : RInv s (k + 1) := ⟨h.n1, h.n7, h.t0, h.t1, h.g0, h.g1, h.a1, by have := h.len; omega⟩
theorem RInv.late {s : Rs} {k : Nat} (h : RInv s k) : RInv s.late (k + 1) := ⟨h.n1, h.n7, (nextTo_in s.to s.nodes h.n1).1, (nextTo_in s.to s.nodes h.n1).2, h.g0, h.g1, h.a1, by have := h.len; show s.got.length ≤ _; omega⟩
theorem RInv.told {s : Rs} {k : Nat} (h : RInv s k) (L : List (Value × List Int)) (n e : Int) (hl : L.length ≤ 20) (hn : n ≤ 9223372036854775807) : RInv (s.told L n e) (k + 1) := by
  have hg := h.g0
  have hg1 := h.g1
  have hlen := h.len
  unfold Rs.told
  split
  · rename_i h1
    exact ⟨h.n1, h.n7, h.t0, h.t1, hg, by show s.gone ≤ n; omega, hn, by show (s.got ++ newG s.at_ L).length ≤ _; rw [List.length_append, newG_len]; omega⟩
  · split
    · rename_i h2
      exact ⟨h.n1, h.n7, h.t0, h.t1, by show 0 ≤ s.gone + (n - s.at_); omega, by show s.gone + (n - s.at_) ≤ n; omega, hn, by show s.got.length ≤ _; omega⟩
    · exact h.late
/-- The program's reader. -/
def PR (w : World) (S : Nat → Prop) (b : Nat) (name : ByteArray) (most : Int) (s : Rs) : Prop := ∃ lg, ReaderAt w S b ⟨s.nodes, s.to, name, most, s.at_, s.gone, lg⟩ ∧ lg.map gv = s.got
/-- The document's. -/
def DR (w : World) (ok : Nat → Prop) (s : Rs) (v : Value) : Prop := ∃ vn vg N G, v = rrd s.nodes s.to s.at_ s.gone vn vg ∧ IntsR w ok vn N ∧ Pks w ok vg G ∧ G.length = N.length ∧ N.zip (G.map Prod.snd) = s.got
theorem PR.step {w w1 : World} {S S' : Nat → Prop} {b : Nat} {name : ByteArray} {most : Int} {s : Rs} (h : PR w S b name most s) (hs : w.heap.size ≤ w1.heap.size) (hm : ∀ k, S k → k < w.heap.size → w1.heap[k]? = w.heap[k]?) (hS : ∀ k, S k → S' k) : PR w1 S' b name most s := by
  obtain ⟨lg, h1, h2⟩ := h
  exact ⟨lg, h1.step hs hm hS, h2⟩
theorem PR.below {w w1 : World} {S : Nat → Prop} {b : Nat} {name : ByteArray} {most : Int} {s : Rs} (h : PR w S b name most s) (hb : Below w.heap.size w w1) : PR w1 S b name most s := h.step hb.size (fun k _ hk => hb.block k hk) (fun _ h => h)
theorem DR.step {w w1 : World} {ok : Nat → Prop} {s : Rs} {v : Value} (h : DR w ok s v) (hs : w.heap.size ≤ w1.heap.size) (hm : ∀ k, ok k → k < w.heap.size → w1.heap[k]? = w.heap[k]?) : DR w1 ok s v := by
  obtain ⟨vn, vg, N, G, e, h1, h2, h3, h4⟩ := h
  exact ⟨vn, vg, N, G, e, h1.step hs hm, h2.step hs hm, h3, h4⟩
theorem DR.below {w w1 : World} {ok : Nat → Prop} {s : Rs} {v : Value} (h : DR w ok s v) (hb : Below w.heap.size w w1) : DR w1 ok s v := h.step hb.size (fun k _ hk => hb.block k hk)
theorem DR.mono {w : World} {ok ok' : Nat → Prop} {s : Rs} {v : Value} (h : DR w ok s v) (ho : ∀ k, ok k → ok' k) : DR w ok' s v := by
  obtain ⟨vn, vg, N, G, e, h1, h2, h3, h4⟩ := h
  exact ⟨vn, vg, N, G, e, h1.mono ho, h2.mono ho, h3, h4⟩
theorem DR.lt {w : World} {ok : Nat → Prop} {s : Rs} {v : Value} (h : DR w ok s v) : DR w (fun k => ok k ∧ k < w.heap.size) s v := by
  obtain ⟨vn, vg, N, G, e, h1, h2, h3, h4⟩ := h
  exact ⟨vn, vg, N, G, e, h1.lt, h2.lt, h3, h4⟩
theorem zip_len {N : List Int} {G : List (Value × List Int)} (h : G.length = N.length) : (N.zip (G.map Prod.snd)).length = N.length := by simp [h]
theorem not_told {s : Rs} {L : List (Value × List Int)} {n e : Int} (h1 : ¬ (e = 0 ∧ s.at_ ≤ n ∧ n - s.at_ = (L.length : Int))) (h2 : ¬ (e = 180 ∧ s.at_ < n)) :
    (e ≠ 0 ∧ e ≠ 180) ∨ (e = 0 ∧ n < s.at_) ∨ (e = 0 ∧ s.at_ ≤ n ∧ n - s.at_ ≠ (L.length : Int)) ∨ (e = 180 ∧ n ≤ s.at_) := by omega
theorem told_pr {w : World} {S okL : Nat → Prop} {b : Nat} {name : ByteArray} {most : Int} {s : Rs} {k : Nat} {vl : Value} {L : List (Value × List Int)} (n e : Int) (h : PR w S b name most s) (hI : RInv s k) (hk : k ≤ 1000) (hS : ∀ k, S k → k < w.heap.size) (hL : Pks w okL vl L) (hd : ∀ k, okL k → ¬ S k)
    (hl : L.length ≤ 20) (hn : n ≤ 9223372036854775807) :
    Calls Try.prog 21 #[.pointer (some ⟨b, 0, none⟩), vl, .int .i64 n, .int .i64 e] w fun r w' => r = .returned (.tuple #[]) ∧ Mem.Ch S w w' ∧ PR w' (fun k => S k ∨ (w.heap.size ≤ k ∧ k < w'.heap.size)) b name most (s.told L n e) := by
  obtain ⟨lg, h1, h2⟩ := h
  have hlen : lg.length ≤ 20 * k := by have := hI.len; rw [← h2, List.length_map] at this; exact this
  have hg0 := hI.g0
  have hg1 := hI.g1
  unfold Rs.told
  split
  · rename_i hc
    obtain ⟨rfl, h3, h4⟩ := hc
    refine (RdTold_ok S okL b _ n vl L w h1 hS hL hd (by show lg.length ≤ _; omega) (by omega) (by show 0 ≤ s.at_; omega) (by show n = s.at_ + _; omega) hn).mono ?_
    rintro _ w' ⟨rfl, hch, G1, hG, hr⟩
    exact ⟨rfl, hch, lg ++ G1, hr, by rw [List.map_append, h2, hG]⟩
  · rename_i hc
    obtain ⟨Al, cl, rfl⟩ := hL.slice
    split
    · rename_i hc2
      refine (RdTold_gone S b _ n e Al _ cl w h1 hc2.1 hc2.2 hg0 hg1 hn).mono ?_
      rintro _ w' ⟨rfl, hch, hr⟩
      exact ⟨rfl, hch, lg, hr.mono (fun k hk => .inl hk), h2⟩
    · rename_i hc2
      refine (RdTold_late S b _ n e Al L.length cl w h1 (not_told hc hc2) (by show 0 ≤ s.at_; omega) hn hI.n1 hI.n7 hI.t0 hI.t1).mono ?_
      rintro _ w' ⟨rfl, hch, hr⟩
      exact ⟨rfl, hch, lg, hr.mono (fun k hk => .inl hk), h2⟩
theorem late_pr {w : World} {S : Nat → Prop} {b : Nat} {name : ByteArray} {most : Int} {s : Rs} {k : Nat} (h : PR w S b name most s) (hI : RInv s k) :
    Calls Try.prog 22 #[.pointer (some ⟨b, 0, none⟩)] w fun r w' => r = .returned (.tuple #[]) ∧ Mem.Ch S w w' ∧ PR w' S b name most s.late := by
  obtain ⟨lg, h1, h2⟩ := h
  refine (RdLate_any S b _ w h1 hI.n1 hI.n7 hI.t0 hI.t1).mono ?_
  rintro _ w' ⟨rfl, hch, hr⟩
  exact ⟨rfl, hch, lg, hr, h2⟩
theorem told_dr {w : World} {ok : Nat → Prop} {s : Rs} {k : Nat} {v vl : Value} {L : List (Value × List Int)} (n e : Int) (h : DR w ok s v) (hI : RInv s k) (hk : k ≤ 1000) (hL : Pks w ok vl L) (hl : L.length ≤ 20) (hn : n ≤ 9223372036854775807) :
    Calls Try.prog 19 #[v, vl, .int .i64 n, .int .i64 e] w fun r w' => ∃ v', r = .returned v' ∧ Below w.heap.size w w' ∧ DR w' (fun k => ok k ∨ w.heap.size ≤ k) (s.told L n e) v' := by
  obtain ⟨vn, vg, N, G, rfl, h1, h2, h3, h4⟩ := h
  have hlen : N.length ≤ 20 * k := by have := hI.len; rw [← h4, zip_len h3] at this; exact this
  have hg0 := hI.g0
  have hg1 := hI.g1
  unfold Rs.told
  split
  · rename_i hc
    obtain ⟨rfl, h5, h6⟩ := hc
    refine (rdTold_ok s.nodes s.to s.at_ s.gone n ok vn vg vl N G L w h1 h2 hL h3 (by omega) (by omega) (by omega) (by omega) hn).mono ?_
    rintro _ w' ⟨a, b, rfl, hb, ha, hb'⟩
    refine ⟨_, rfl, hb, a, b, _, _, rfl, ha, hb', by rw [List.length_append, List.length_append, upto_len, h3], ?_⟩
    rw [List.map_append, List.zip_append (by rw [List.length_map, h3]), h4]
    rfl
  · rename_i hc
    obtain ⟨An, cn, rfl⟩ := h1.slice
    obtain ⟨Ag, cg, rfl⟩ := h2.slice
    obtain ⟨Al, cl, rfl⟩ := hL.slice
    split
    · rename_i hc2
      refine (rdTold_gone s.nodes s.to s.at_ s.gone n e _ _ _ An Ag Al _ _ _ _ _ _ w rfl rfl rfl hc2.1 hc2.2 hg0 hg1 hn).mono ?_
      rintro _ w' ⟨rfl, hb⟩
      exact ⟨_, rfl, hb, _, _, N, G, rfl, (h1.below hb).mono (fun k hk => .inl hk), (h2.below hb).mono (fun k hk => .inl hk), h3, h4⟩
    · rename_i hc2
      refine (rdTold_late s.nodes s.to s.at_ s.gone n e An Ag Al _ _ _ _ _ _ w (not_told hc hc2) (by omega) hn hI.n1 hI.n7 hI.t0 hI.t1).mono ?_
      rintro _ w' ⟨rfl, hb⟩
      exact ⟨_, rfl, hb, _, _, N, G, rfl, (h1.below hb).mono (fun k hk => .inl hk), (h2.below hb).mono (fun k hk => .inl hk), h3, h4⟩
theorem late_dr {w : World} {ok : Nat → Prop} {s : Rs} {k : Nat} {v : Value} (h : DR w ok s v) (hI : RInv s k) :
    Calls Try.prog 19 #[v, .slice none 0 0, .int .i64 (-1), .int .i64 1] w fun r w' => ∃ v', r = .returned v' ∧ Below w.heap.size w w' ∧ DR w' (fun k => ok k ∨ w.heap.size ≤ k) s.late v' := by
  obtain ⟨vn, vg, N, G, rfl, h1, h2, h3, h4⟩ := h
  have hg0 := hI.g0
  have hg1 := hI.g1
  obtain ⟨An, cn, rfl⟩ := h1.slice
  obtain ⟨Ag, cg, rfl⟩ := h2.slice
  refine (rdTold_late s.nodes s.to s.at_ s.gone (-1) 1 An Ag none _ _ _ _ _ _ w (.inl ⟨by decide, by decide⟩) (by omega) (by omega) hI.n1 hI.n7 hI.t0 hI.t1).mono ?_
  rintro _ w' ⟨rfl, hb⟩
  exact ⟨_, rfl, hb, _, _, N, G, rfl, (h1.below hb).mono (fun k hk => .inl hk), (h2.below hb).mono (fun k hk => .inl hk), h3, h4⟩
set_option maxRecDepth 100000 in
set_option maxHeartbeats 2000000 in
theorem Rows_any (ok : Nat → Prop) (v : Value) (L : List (Value × List Int)) (w : World) (h : Pks w ok v L) (hl : L.length ≤ 100000) :
    Calls Try.prog 20 #[v] w fun r w' => ∃ v', r = .returned v' ∧ Pks w' (fun k => ok k ∨ w.heap.size ≤ k) v' L ∧ Below w.heap.size w w' := by
  obtain ⟨A, cap, rfl⟩ := h.slice
  have HR := Lib.hid h.lt
  have HH := Lib.hid h
  clear h
  have hll : ((L.length : Nat) : Int) ≤ 100000 := by omega
  obtain ⟨i1, hi1, hy0, hy1, hy2⟩ := info_parts info_ints
  go_enter Try.func20, Try.ntmps20
  go_wp2_with fail
  go_loopw [3, 4] (fun v i wr => ∃ G1 : List (Value × List Int), G1.length ≤ L.length ∧ i = .int .i64 G1.length ∧ G1 = L.take G1.length ∧ wr.ownsRow w.heap.size 55 1 v G1.length (vs G1) ∧ Below w.heap.size w wr) (fun _ i _ => L.length - (intOf i).toNat)
  case atStart => exact ⟨[], Nat.zero_le _, rfl, rfl, World.ownsRow_nil _ _ _ _, Below.refl _ _⟩
  case round =>
    obtain ⟨G1, hk, rfl, hG, hown, hbel⟩ := hrel
    obtain ⟨Av, cv, rfl, hcv⟩ := Qu.q_slice (Qu.q_of_own hown)
    by_cases hlt : G1.length < L.length
    · obtain ⟨p, hp⟩ : ∃ p, L[G1.length]? = some p := ⟨_, List.getElem?_eq_getElem hlt⟩
      obtain ⟨g, o, rfl, hgo, hgl, hrow⟩ := (HR.out.below hbel).1.row (k := G1.length) (r := pk p) (by rw [List.getElem?_map, hp]; rfl)
      have hpr := HR.out.2 p (List.mem_of_getElem? hp)
      obtain ⟨pv, pl⟩ := p
      obtain ⟨Ap, cp, hpv⟩ := hpr.slice
      dsimp only at hpv
      subst hpv
      have d0 : wr.cell? ⟨g, o + G1.length, none⟩ = some (.slice Ap pl.length cp) := by have := hrow 0 _ rfl; simpa [pk] using this
      have hsz := hbel.size
      have hlt' : (G1.length : Int) < (L.length : Int) := by omega
      have HX := Lib.hid (And.intro hG (And.intro hown (And.intro hbel hp)))
      clear hG hown hbel hp hrow hpr
      go_wp2_with (at_builtin
                   refine Mem.append_one rfl (.tmp 11) (.tmp 17) 56 rfl w.heap.size 55 i1 _ 1 24 Try.underlying56 hi1 hy0 hy1 hy2 rfl (by decide) wr _ G1.length (vs G1) (by rfl) HX.out.2.1 [.slice Ap pl.length cp] rfl (by intro u hu; rw [List.mem_singleton.1 hu]; rfl) (by rfl) (by unfold maxLen; omega) (by omega) (by omega) ?_
                   intro v3 w3 hown3 hg3 ho3)
      go_roundw
      case rel =>
        obtain ⟨hG, hown, hbel, hp⟩ := HX.out
        refine ⟨G1 ++ [(.slice Ap pl.length cp, pl)], by simp; omega, by simp, ?_, by rw [vs_snoc, List.length_append]; exact hown3, Below.grown (hbel.alloc (by omega) _) hg3 (by simp; omega) (fun j hj => (hown.lt j hj).1)⟩
        rw [List.length_append, List.length_singleton, List.take_add_one, hp, ← hG]; rfl
      case measure => simp [intOf]; omega
    · have hke : G1.length = L.length := by omega
      rw [hke, List.take_length] at hG
      subst hG
      have HX := Lib.hid (And.intro hown hbel)
      clear hown hbel
      go_wp2_with fail
      go_ret
      obtain ⟨hown, hbel⟩ := HX.out
      refine ⟨_, rfl, ⟨?_, fun p hp => ((HH.out.2 p hp).below hbel).mono (fun k hk => .inl hk)⟩, hbel⟩
      exact (Rd_of_q (rows := G1.map pk) (Qu.q_of_own hown) (by simp) (pk_rows G1)).mono (fun k hk => .inr (hown.lt k hk).1)
end Go.Proofs.Ytbiicflcjipeeaa
