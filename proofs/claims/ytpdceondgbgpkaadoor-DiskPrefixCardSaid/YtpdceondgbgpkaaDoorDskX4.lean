/- DiskPrefix: what holds of the memory, at each part of the walk. -/
import Derived.Test.YtpdceondgbgpkaaDoorDskX3
import Derived.Test.YtpdceondgbgpkaaDoorDsk10b
import Derived.Test.YtpdceondgbgpkaaDoorDskR1
namespace Go.Proofs.YtpdceondgbgpkaaDoor.Dsk
open Go.RowKit Go.Maps
set_option linter.unusedSimpArgs false
set_option linter.unusedVariables false
/-- Blocks that the first disk may have, while the row of what was done lies in v. -/
abbrev Sd (B E M : Nat) (v : Value) : Nat → Prop := fun k => Off B E M k ∧ v.ownBlock ≠ some k
/-- The first part: the disk did dl, and the row holds dn. -/
structure P1 (w5 W : World) (B E M p N : Nat) (d : Dk) (v : Value) (dn dl : List Act) : Prop where
  ch : Mem.Ch (Off B E M) w5 W
  D : DiskAt W (Sd B E M v) p N d
  own : W.ownsRow M 28 5 v dn.length (actC dn)
  st : Still5 d
  can : CanAll dl
  now : d.now = play (fun _ => none) (dl.map Act.chg)
  sure : d.sure = fun _ => none
  row : d.row = dl.map Act.chg
  all : ∀ x ∈ dl, x.fit ∧ x.s.size ≤ 3000 ∧ 0 ≤ x.kind ∧ x.kind ≤ 3
theorem sdS {B E M : Nat} {v : Value} {W w' : World} (h : M ≤ W.heap.size) (hM : E ≤ M) (hB : B ≤ E) (hv : ∀ k, v.ownBlock = some k → k < W.heap.size) : ∀ k, Gr (Sd B E M v) W w' k → Sd B E M v k := fun k hk => by
  rcases hk with hk | hk
  · exact hk
  · exact ⟨⟨by omega, .inr (by omega)⟩, fun e => by have := hv k e; have := hk.1; omega⟩
theorem own_lt {w : World} {base e size n : Nat} {v : Value} {xs : List Value} (h : w.ownsRow base e size v n xs) : ∀ k, v.ownBlock = some k → k < w.heap.size := fun k hk => by
  obtain ⟨c, hc⟩ := row_cells h k hk
  exact Mem.lt hc
theorem P1.does {w5 W : World} {B E M p N : Nat} {d : Dk} {v : Value} {dn : List Act} (h : P1 w5 W B E M p N d v dn dn) (x : Act) (hx : x.fit) (h3 : x.s.size ≤ 3000) (hk : 0 ≤ x.kind ∧ x.kind ≤ 3) (hN : N < 1000000000) (hsz : M ≤ w5.heap.size) (hM : E ≤ M) (hB : B ≤ E) :
    Calls Tryd.prog 8 #[.pointer (some ⟨p, 0, none⟩), x.val] W fun r w' => ∃ e : Int, r = .returned (.int .i64 e) ∧ ((e = 0 ∧ P1 w5 w' B E M p (N + 1) (d.push x.chg) v dn (dn ++ [x])) ∨ (e ≠ 0 ∧ P1 w5 w' B E M p (N + 1) d v dn dn)) := by
  refine (Does_any _ p N d x W h.D h.st.inv hx hN).mono ?_
  rintro _ w' ⟨e, d', rfl, hc, hD, hA⟩
  refine ⟨e, rfl, ?_⟩
  have hv := own_lt h.own
  have hD' := hD.mono (sdS (Nat.le_trans hsz h.ch.size) hM hB hv)
  have hown : w'.ownsRow M 28 5 v dn.length (actC dn) := own_stay h.own (fun k hk => hc.block k (hv k hk) (fun hS => hS.2 hk))
  have hch := h.ch.trans' (hc.mono (fun k _ hS => hS.1))
  rcases hA.can h.st hk with ⟨h1, h2, rfl⟩ | ⟨h1, h2, rfl⟩
  · have hcan : Can (play (fun _ => none) (dn.map Act.chg)) x := by rw [← h.now]; exact h1
    refine .inl ⟨h2, hch, hD', hown, h.st.push (h1.ok hx), h.can.snoc hcan, ?_, h.sure, ?_, ?_⟩
    · show x.chg.does d.now = _
      rw [h.now, List.map_append]
      exact (play_snoc _ _ _).symm
    · show d.row ++ [x.chg] = _
      rw [h.row, List.map_append]
      rfl
    · intro y hy
      rcases List.mem_append.1 hy with hy | hy
      · exact h.all y hy
      · obtain rfl : y = x := by simpa using hy
        exact ⟨hx, h3, hk⟩
  · exact .inr ⟨h2, hch, hD', hown, h.st, h.can, h.now, h.sure, h.row, h.all⟩
theorem P1.more {w5 W : World} {B E M p N N' : Nat} {d : Dk} {v : Value} {dn dl : List Act} (h : P1 w5 W B E M p N d v dn dl) (hN : N ≤ N') : P1 w5 W B E M p N' d v dn dl := { h with D := h.D.more hN }
theorem P1.appended {w5 W w3 : World} {B E M p N : Nat} {d : Dk} {v v3 : Value} {dn dl : List Act} {o : Obj} (h : P1 w5 W B E M p N d v dn dl) (hg : (W.alloc o).grownBy w3 v.ownBlock) (ho : v3.ownBlock = v.ownBlock ∨ v3.ownBlock = some (W.heap.size + 1)) (hown : w3.ownsRow M 28 5 v3 dl.length (actC dl)) (hsz : M ≤ w5.heap.size) (hB : B ≤ E) (hM : E ≤ M) : P1 w5 w3 B E M p N d v3 dl dl := by
  have hs : W.heap.size ≤ (W.alloc o).heap.size := by simp
  have hMW := Nat.le_trans hsz h.ch.size
  refine ⟨?_, ?_, hown, h.st, h.can, h.now, h.sure, h.row, h.all⟩
  · have h1 : Mem.Ch (Off B E M) w5 (W.alloc o) := h.ch.alloc o
    refine h1.grown hg (fun k hk => ?_)
    by_cases hlt : k < w5.heap.size
    · have hb := Mem.own_base h.own k hk
      exact .inr ⟨by omega, .inr hb⟩
    · exact .inl (by omega)
  · refine (at_kept h.D).step (Nat.le_trans hs hg.size) (fun k hk hl => ?_) (fun k hk => ⟨hk.1.1, fun e => ?_⟩)
    · have h2 := hg.block k (by omega) (fun e => hk.1.2 e.symm)
      exact h2.trans (Below.heap_alloc W o k hl)
    · rcases ho with ho | ho
      · exact hk.1.2 (ho ▸ e)
      · rw [ho] at e
        injection e with e
        have := hk.2
        omega
/-- Blocks that the second disk may have. -/
abbrev Se (E0 E1 M : Nat) : Nat → Prop := fun k => (E0 ≤ k ∧ k < E1) ∨ M ≤ k
/-- The second part. -/
structure P2 (w9 W : World) (E0 E1 p N : Nat) (e : Dk) (F : FM) : Prop where
  ch : Mem.Ch (Se E0 E1 w9.heap.size) w9 W
  D : DiskAt W (Se E0 E1 w9.heap.size) p N e
  st : Still5 e
  now : e.now = F
  nv : NV F
theorem P2.on {w9 W W' : World} {E0 E1 p N : Nat} {e : Dk} {F : FM} (h : P2 w9 W E0 E1 p N e F) (hb : Below W.heap.size W W') : P2 w9 W' E0 E1 p N e F := { h with ch := h.ch.trans' (Mem.Ch.of_below' hb), D := h.D.below hb }
theorem P2.more {w9 W : World} {E0 E1 p N N' : Nat} {e : Dk} {F : FM} (h : P2 w9 W E0 E1 p N e F) (hN : N ≤ N') : P2 w9 W E0 E1 p N' e F := { h with D := h.D.more hN }
theorem P2.files {w9 W : World} {E0 E1 p N : Nat} {e : Dk} {F : FM} (h : P2 w9 W E0 E1 p N e F) (hN : N ≤ 1000000000) :
    Calls Tryd.prog 9 #[.pointer (some ⟨p, 0, none⟩)] W fun r w' => ∃ v l, r = .returned v ∧ NamesOf F l ∧ l.length ≤ N ∧ Mem.Rd w' (fun k => W.heap.size ≤ k) 2 v ((pairsF F l).map fc) ∧ Below W.heap.size W w' := by
  refine (Files_upL _ p N e W h.D h.st.up hN).mono ?_
  rintro _ w' ⟨v, l, rfl, h1, hn, h2, h3⟩
  rw [pairs_eq h1 h.st.up (by rw [h.now]; exact h.nv)] at h2
  rw [h.now] at h1 h2
  exact ⟨v, l, rfl, h1, hn, h2, h3⟩
theorem P2.does {w9 W : World} {E0 E1 p N : Nat} {e : Dk} {F : FM} (h : P2 w9 W E0 E1 p N e F) (x : Act) (hx : x.fit) (hk : 0 ≤ x.kind ∧ x.kind ≤ 3) (hcan : Can F x) (hN : N < 1000000000) :
    Calls Tryd.prog 8 #[.pointer (some ⟨p, 0, none⟩), x.val] W fun r w' => ∃ r0 : Int, r = .returned (.int .i64 r0) ∧ P2 w9 w' E0 E1 p (N + 1) (e.push x.chg) (x.chg.does F) := by
  refine (Does_any _ p N e x W h.D h.st.inv hx hN).mono ?_
  rintro _ w' ⟨r0, d', rfl, hc, hD, hA⟩
  refine ⟨r0, rfl, ?_⟩
  have hce : Can e.now x := by rw [h.now]; exact hcan
  rcases hA.can h.st hk with ⟨h1, h2, rfl⟩ | ⟨h1, h2, rfl⟩
  · refine ⟨h.ch.trans' hc, hD.mono (fun k hk => ?_), h.st.push (hce.ok hx), ?_, h.nv.does hcan.nc⟩
    · rcases hk with hk | hk
      · exact hk
      · exact .inr (Nat.le_trans h.ch.size hk.1)
    · show x.chg.does e.now = _
      rw [h.now]
  · exact absurd hce h1
theorem lookF {F : FM} {l : List ByteArray} (hl : NamesOf F l) (k : ByteArray) : (look k (pairsF F l)).getD ⟨#[]⟩ = F.get k := by
  cases hk : F k with
  | none =>
    rw [look_miss _ (fun x hx e => by
      obtain ⟨s, hs, rfl⟩ := List.mem_map.1 hx
      have := (hl.mem s).1 hs
      rw [show s = k from e, hk] at this
      cases this)]
    unfold FM.get
    rw [hk]
  | some v =>
    have hm := (hl.mem k).2 (by rw [hk]; rfl)
    have : ∀ l : List ByteArray, k ∈ l → look k (pairsF F l) = some (F.get k) := by
      intro l
      induction l with
      | nil => intro h; cases h
      | cons s l ih =>
        intro h
        show (if s = k then some (F.get s) else look k (pairsF F l)) = _
        by_cases e : s = k
        · subst e; rw [if_pos rfl]
        · rw [if_neg e]
          rcases List.mem_cons.1 h with h | h
          · exact absurd h.symm e
          · exact ih h
    rw [this l hm]
    rfl
theorem P2.size {w9 W : World} {E0 E1 p N : Nat} {e : Dk} {F : FM} (h : P2 w9 W E0 E1 p N e F) {k : ByteArray} (hk : k.size ≤ maxLen) : (F.get k).size ≤ 9223372036854775807 := by
  obtain ⟨bs, bn, v, hD⟩ := h.D
  have := (hD.now.lookup hk).2
  rw [h.now] at this
  exact this
/-- The document's Do, at some bytes of a put. -/
theorem P2.torn {w9 W : World} {E0 E1 p N : Nat} {e : Dk} {l : List Act} {i : Nat} (h : P2 w9 W E0 E1 p N e (St l i)) {x : Act} (hx : x.fit) (k0 : x.kind = 0) (hcan : Can (St l i) x) {m : Nat} (hm : m < x.s.size) {v : Value} {ls : List ByteArray} (hls : NamesOf (St l i) ls) (hlen : ls.length ≤ 900000) {ok : Nat → Prop} (hR : Mem.Rd W ok 2 v ((pairsF (St l i) ls).map fc)) :
    Calls Tryd.prog 13 #[v, .agg #[.int .i64 0, .string x.name, .int .i64 x.n, .string (x.s.extract 0 m)]] W fun r w' => ∃ v' fl, r = .returned v' ∧ Mem.Rd w' (fun g => W.heap.size ≤ g) 2 v' (fl.map fc) ∧ Below W.heap.size W w' ∧ (∀ lg G, NamesOf G lg → G = Torn l i x m → fl = pairsF G lg) := by
  unfold Can at hcan
  rw [if_pos k0] at hcan
  obtain ⟨c1, c2, c3, c4⟩ := hcan
  obtain ⟨a, ha⟩ : ∃ a : Nat, x.n = a := ⟨x.n.toNat, by omega⟩
  have hz := h.size hx.f0
  have hes : (x.s.extract 0 m).size = m := by rw [ByteArray.size_extract]; omega
  rw [ha] at c3 c4 ⊢
  refine (rdo_put (pairsF (St l i) ls) x.name (x.s.extract 0 m) a v ok W hR (by unfold pairsF; rw [List.length_map]; exact hlen) _ (lookF hls x.name) (by omega) (by omega) hz).mono ?_
  rintro _ w' ⟨v', rfl, h1, h2⟩
  refine ⟨v', _, rfl, h1, h2, fun lg G hG e => ?_⟩
  have ht : Torn l i x m = (St l i).set x.name (splice ((St l i).get x.name) (x.s.extract 0 m) a) := by
    unfold Torn
    rw [ha]
    rfl
  subst e
  rw [ht] at hG ⊢
  exact ins_pairs hls hG
end Go.Proofs.YtpdceondgbgpkaaDoor.Dsk
