/- A teller's state, plain: the program's teller and the document's as two ways of holding it. -/
import Derived.Test.YtbiicflcjipeeaaLTold
import Derived.Test.YtbiicflcjipeeaaRTold4
namespace Go.Proofs.Ytbiicflcjipeeaa
open Go.RowKit
set_option linter.unusedSimpArgs false
set_option linter.unusedVariables false
structure St where
  nodes : Int
  to : Int
  id : Int
  seq : Int
  wait : List Evt
  refd : List Evt
def nrm (l : List (Evt × Value)) : List Evt := l.map (fun p => p.1.num 0 0)
theorem nrm_len (l : List (Evt × Value)) : (nrm l).length = l.length := by simp [nrm]
/-- The program's teller. -/
def Prg (w : World) (S : Nat → Prop) (b : Nat) (s : St) : Prop := ∃ lw lr, TellerAt w S b ⟨s.nodes, s.to, s.id, s.seq, lw, lr⟩ ∧ nrm lw = s.wait ∧ nrm lr = s.refd
/-- The document's. -/
def Doc (w : World) (ok : Nat → Prop) (s : St) (v : Value) : Prop := ∃ vw vr lw lr, v = rtl s.nodes s.to s.id s.seq vw vr ∧ REvs w ok vw lw ∧ REvs w ok vr lr ∧ lw.map Prod.fst = s.wait ∧ lr.map Prod.fst = s.refd
structure Inv (s : St) (n : Nat) : Prop where
  n1 : 1 ≤ s.nodes
  n7 : s.nodes ≤ 7
  t0 : 0 ≤ s.to
  t1 : s.to < s.nodes
  good : ∀ e, e ∈ s.wait ∨ e ∈ s.refd → (e.num 1 1).ok ∧ (e.num 1 1).wf
  i0 : 0 ≤ s.id
  i1 : s.id ≤ 549755813888
  s0 : 0 ≤ s.seq
  s1 : s.seq ≤ n
  refs : s.refd.length ≤ n
noncomputable def St.add (s : St) (e : Evt) : Int × St := if (e.num 1 1).chk = 1 then (1, s) else if 256 ≤ s.wait.length then (7, s) else (0, { s with wait := s.wait ++ [e.num 0 0] })
def St.late (s : St) : St := { s with to := nextTo s.to s.nodes }
def St.told (s : St) (err n lead : Int) : St :=
  match s.wait with
  | [] => s
  | e :: r =>
    if err = 0 then (if s.id = 0 then (if 1 ≤ n ∧ n ≤ 549755813888 then { s with id := n, seq := 0 } else s) else if n = s.seq + 1 then { s with seq := s.seq + 1, wait := r } else s)
    else if err = 4 ∧ s.id ≠ 0 then { s with id := 0, seq := 0 }
    else if err = 130 ∧ s.id ≠ 0 then { s with refd := s.refd ++ [e], wait := r }
    else { s with to := leadTo s.to s.nodes lead }
theorem Doc.mono {w : World} {ok ok' : Nat → Prop} {s : St} {v : Value} (h : Doc w ok s v) (ho : ∀ k, ok k → ok' k) : Doc w ok' s v := by
  obtain ⟨vw, vr, lw, lr, rfl, h1, h2, h3, h4⟩ := h
  exact ⟨vw, vr, lw, lr, rfl, h1.mono ho, h2.mono ho, h3, h4⟩
theorem Doc.step {w w1 : World} {ok : Nat → Prop} {s : St} {v : Value} (h : Doc w ok s v) (hs : w.heap.size ≤ w1.heap.size) (hm : ∀ k, ok k → k < w.heap.size → w1.heap[k]? = w.heap[k]?) : Doc w1 ok s v := by
  obtain ⟨vw, vr, lw, lr, rfl, h1, h2, h3, h4⟩ := h
  exact ⟨vw, vr, lw, lr, rfl, h1.step hs hm, h2.step hs hm, h3, h4⟩
theorem Doc.below {w w1 : World} {ok : Nat → Prop} {s : St} {v : Value} (h : Doc w ok s v) (hb : Below w.heap.size w w1) : Doc w1 ok s v := h.step hb.size (fun k _ hk => hb.block k hk)
theorem Doc.lt {w : World} {ok : Nat → Prop} {s : St} {v : Value} (h : Doc w ok s v) : Doc w (fun k => ok k ∧ k < w.heap.size) s v := by
  obtain ⟨vw, vr, lw, lr, rfl, h1, h2, h3, h4⟩ := h
  exact ⟨vw, vr, lw, lr, rfl, h1.lt, h2.lt, h3, h4⟩
theorem Prg.step {w w1 : World} {S S' : Nat → Prop} {b : Nat} {s : St} (h : Prg w S b s) (hs : w.heap.size ≤ w1.heap.size) (hm : ∀ k, S k → k < w.heap.size → w1.heap[k]? = w.heap[k]?) (hS : ∀ k, S k → S' k) : Prg w1 S' b s := by
  obtain ⟨lw, lr, h1, h2, h3⟩ := h
  exact ⟨lw, lr, h1.step hs hm hS, h2, h3⟩
theorem Prg.below {w w1 : World} {S : Nat → Prop} {b : Nat} {s : St} (h : Prg w S b s) (hb : Below w.heap.size w w1) : Prg w1 S b s := h.step hb.size (fun k _ hk => hb.block k hk) (fun _ h => h)
theorem Prg.mono {w : World} {S S' : Nat → Prop} {b : Nat} {s : St} (h : Prg w S b s) (hS : ∀ k, S k → S' k) : Prg w S' b s := h.step (Nat.le_refl _) (fun _ _ _ => rfl) hS
theorem chk_two (e : Evt) : e.chk = 1 ∨ e.chk = 0 := by
  unfold Evt.chk
  split
  · exact .inr rfl
  · exact .inl rfl
theorem chk_yes {e : Evt} (h : e.chk = 0) : e.ok := by
  unfold Evt.chk at h
  split at h
  · rename_i h1; simpa using h1
  · cases h
theorem num_num (e : Evt) (a b c d : Int) : (e.num a b).num c d = e.num c d := rfl
theorem nextTo_in (to nodes : Int) (h : 1 ≤ nodes) : 0 ≤ nextTo to nodes ∧ nextTo to nodes < nodes := ⟨Int.emod_nonneg _ (by omega), Int.emod_lt_of_pos _ (by omega)⟩
theorem leadTo_in (to nodes i : Int) (h : 1 ≤ nodes) : 0 ≤ leadTo to nodes i ∧ leadTo to nodes i < nodes := by
  unfold leadTo
  split
  · assumption
  · exact nextTo_in to nodes h
theorem Inv.add {s : St} {n : Nat} (h : Inv s n) (e : Evt) (hw : e.wf) : Inv (s.add e).2 (n + 1) := by
  unfold St.add
  split
  · exact ⟨h.n1, h.n7, h.t0, h.t1, h.good, h.i0, h.i1, h.s0, by have := h.s1; show s.seq ≤ _; omega, by have := h.refs; show s.refd.length ≤ _; omega⟩
  · rename_i h1
    split
    · exact ⟨h.n1, h.n7, h.t0, h.t1, h.good, h.i0, h.i1, h.s0, by have := h.s1; show s.seq ≤ _; omega, by have := h.refs; show s.refd.length ≤ _; omega⟩
    · refine ⟨h.n1, h.n7, h.t0, h.t1, fun x hx => ?_, h.i0, h.i1, h.s0, by have := h.s1; show s.seq ≤ _; omega, by have := h.refs; show s.refd.length ≤ _; omega⟩
      have hx' : (x ∈ s.wait ∨ x ∈ s.refd) ∨ x = e.num 0 0 := by
        rcases hx with hx | hx
        · rcases List.mem_append.1 hx with hx | hx
          · exact .inl (.inl hx)
          · exact .inr (by simpa using hx)
        · exact .inl (.inr hx)
      rcases hx' with hx | rfl
      · exact h.good x hx
      · rw [num_num]
        exact ⟨chk_yes ((chk_two _).resolve_left h1), by show IsI64 1; unfold IsI64; decide, by show IsI64 1; unfold IsI64; decide, hw.2.2⟩
theorem Inv.late {s : St} {n : Nat} (h : Inv s n) : Inv s.late (n + 1) :=
  ⟨h.n1, h.n7, (nextTo_in s.to s.nodes h.n1).1, (nextTo_in s.to s.nodes h.n1).2, h.good, h.i0, h.i1, h.s0, by have := h.s1; show s.seq ≤ _; omega, by have := h.refs; show s.refd.length ≤ _; omega⟩
theorem Inv.more {s : St} {n : Nat} (h : Inv s n) : Inv s (n + 1) := ⟨h.n1, h.n7, h.t0, h.t1, h.good, h.i0, h.i1, h.s0, by have := h.s1; omega, by have := h.refs; omega⟩
theorem Inv.told {s : St} {n : Nat} (h : Inv s n) (err num lead : Int) : Inv (s.told err num lead) (n + 1) := by
  unfold St.told
  split
  · exact h.more
  · rename_i e r hw
    have hs := h.s1
    have hr := h.refs
    have h0 := h.s0
    have hg : ∀ x, x ∈ r ∨ x ∈ s.refd → (x.num 1 1).ok ∧ (x.num 1 1).wf := fun x hx => h.good x (by rw [hw]; rcases hx with h | h; exact .inl (List.mem_cons_of_mem _ h); exact .inr h)
    split
    · split
      · split
        · rename_i h3
          exact ⟨h.n1, h.n7, h.t0, h.t1, h.good, by show 0 ≤ num; omega, h3.2, by show (0 : Int) ≤ 0; omega, by show (0 : Int) ≤ _; omega, by show s.refd.length ≤ _; omega⟩
        · exact h.more
      · split
        · exact ⟨h.n1, h.n7, h.t0, h.t1, hg, h.i0, h.i1, by show 0 ≤ s.seq + 1; omega, by show s.seq + 1 ≤ _; omega, by show s.refd.length ≤ _; omega⟩
        · exact h.more
    · split
      · exact ⟨h.n1, h.n7, h.t0, h.t1, h.good, by show (0 : Int) ≤ 0; omega, by show (0 : Int) ≤ _; omega, by show (0 : Int) ≤ 0; omega, by show (0 : Int) ≤ _; omega, by show s.refd.length ≤ _; omega⟩
      · split
        · refine ⟨h.n1, h.n7, h.t0, h.t1, fun x hx => ?_, h.i0, h.i1, h0, by show s.seq ≤ _; omega, by show (s.refd ++ [e]).length ≤ _; simp; omega⟩
          rcases hx with hx | hx
          · exact hg x (.inl hx)
          · rcases List.mem_append.1 hx with hx | hx
            · exact hg x (.inr hx)
            · have : x = e := by simpa using hx
              subst this
              exact h.good x (.inl (by rw [hw]; exact List.mem_cons_self))
        · have hl := leadTo_in s.to s.nodes lead h.n1
          exact ⟨h.n1, h.n7, hl.1, hl.2, h.good, h.i0, h.i1, h0, by show s.seq ≤ _; omega, by show s.refd.length ≤ _; omega⟩
/-- The program's Add. -/
theorem add_prg {w : World} {S ok : Nat → Prop} {b : Nat} {s : St} {e : Evt} {vf : Value} (h : Prg w S b s) (hS : ∀ k, S k → k < w.heap.size) (he : EvR w ok e vf) (hs : e.small) (hl : e.fields.length ≤ 100) :
    Calls Try.prog 11 #[.pointer (some ⟨b, 0, none⟩), .agg #[.int .i64 e.session, .int .i64 e.seq, .int .i64 e.stamp, .string e.kind, vf]] w fun r w' => r = .returned (.int .i64 (s.add e).1) ∧ Mem.Ch S w w' ∧
      Prg w' (fun k => S k ∨ (w.heap.size ≤ k ∧ k < w'.heap.size)) b (s.add e).2 := by
  obtain ⟨lw, lr, h1, h2, h3⟩ := h
  have hlen : lw.length = s.wait.length := by rw [← h2, nrm_len]
  unfold St.add
  rcases chk_two (e.num 1 1) with hc | hc
  · rw [if_pos hc]
    refine (Add_arg b e vf ok w he hs hc).mono ?_
    rintro _ w' ⟨rfl, hb⟩
    exact ⟨rfl, Mem.Ch.of_below' hb, lw, lr, (h1.below hb).mono (fun k hk => .inl hk), h2, h3⟩
  · rw [if_neg (by omega)]
    by_cases hf : 256 ≤ s.wait.length
    · rw [if_pos hf]
      refine (Add_full S b _ e vf ok w h1 he hs hc (by show 256 ≤ lw.length; omega)).mono ?_
      rintro _ w' ⟨rfl, hb⟩
      exact ⟨rfl, Mem.Ch.of_below' hb, lw, lr, (h1.below hb).mono (fun k hk => .inl hk), h2, h3⟩
    · rw [if_neg hf]
      refine (Add_yes S b _ e vf ok w h1 hS he hs hc (by show lw.length < 256; omega) hl).mono ?_
      rintro _ w' ⟨rfl, hc', v', ht⟩
      exact ⟨rfl, hc', lw ++ [(e.num 1 1, v')], lr, ht, by rw [← h2]; simp [nrm]; rfl, h3⟩
theorem own_evs {w : World} {B e n : Nat} {v : Value} {l : List (Evt × Value)} (h : w.ownsRow B e 5 v n (evs l)) (hn : n = l.length) : Mem.Rd w (fun k => B ≤ k) 5 v (evRows l) := by
  rw [evs_flat] at h
  exact (Rd_of_q (rows := evRows l) (Qu.q_of_own h) (by rw [hn]; simp [evRows]) (evRows_len l)).mono (fun k hk => Mem.own_base h k hk)
/-- The document's. -/
theorem add_doc {w : World} {ok : Nat → Prop} {s : St} {e : Evt} {v vf : Value} (h : Doc w ok s v) (he : EvR w ok e vf) (hs : e.small) :
    Calls Try.prog 9 #[v, .agg #[.int .i64 e.session, .int .i64 e.seq, .int .i64 e.stamp, .string e.kind, vf]] w fun r w' => ∃ v', r = .returned (.tuple #[v', .int .i64 (s.add e).1]) ∧ Below w.heap.size w w' ∧
      Doc w' (fun k => ok k ∨ w.heap.size ≤ k) (s.add e).2 v' := by
  obtain ⟨vw, vr, lw, lr, rfl, h1, h2, h3, h4⟩ := h
  have hlen : lw.length = s.wait.length := by rw [← h3]; simp
  obtain ⟨Aw, cw, rfl⟩ := rd_len h1
  obtain ⟨Ar, cr, rfl⟩ := rd_len h2
  have keep : ∀ w', Below w.heap.size w w' → Doc w' (fun k => ok k ∨ w.heap.size ≤ k) s (rtl s.nodes s.to s.id s.seq (.slice Aw lw.length cw) (.slice Ar lr.length cr)) := fun w' hb =>
    ⟨_, _, lw, lr, rfl, (h1.below hb).mono (fun k hk => .inl hk), (h2.below hb).mono (fun k hk => .inl hk), h3, h4⟩
  unfold St.add
  rcases chk_two (e.num 1 1) with hc | hc
  · rw [if_pos hc]
    refine (rAdd_no 1 s.nodes s.to s.id s.seq Aw Ar lw.length lr.length cw cr e vf ok w he hs (.inl ⟨hc, rfl⟩)).mono ?_
    rintro _ w' ⟨rfl, hb⟩
    exact ⟨_, rfl, hb, keep w' hb⟩
  · rw [if_neg (by omega)]
    by_cases hf : 256 ≤ s.wait.length
    · rw [if_pos hf]
      refine (rAdd_no 7 s.nodes s.to s.id s.seq Aw Ar lw.length lr.length cw cr e vf ok w he hs (.inr ⟨hc, by omega, rfl⟩)).mono ?_
      rintro _ w' ⟨rfl, hb⟩
      exact ⟨_, rfl, hb, keep w' hb⟩
    · rw [if_neg hf]
      refine (rAdd_yes s.nodes s.to s.id s.seq Aw Ar lr.length cw cr lw e vf ok ok w h1 he hs hc (by omega)).mono ?_
      rintro _ w' ⟨v', rfl, ho, hb⟩
      refine ⟨_, rfl, hb, v', _, lw ++ [(e.num 0 0, vf)], lr, rfl, ⟨(own_evs ho (by simp)).mono (fun k hk => .inr hk), fun p hp => ?_⟩, (h2.below hb).mono (fun k hk => .inl hk), by rw [List.map_append, h3]; rfl, h4⟩
      rcases List.mem_append.1 hp with hp | hp
      · exact ((h1.2 p hp).below hb).mono (fun k hk => .inl hk)
      · have : p = (e.num 0 0, vf) := by simpa using hp
        subst this
        exact (EvR.below he hb).mono (fun k hk => .inl hk)
theorem wrap_one (n q : Int) (hn : IsI64 n) (h0 : 0 ≤ q) (h1 : q ≤ 1000) : wrap64 (n - 1) = q ↔ n = q + 1 := by
  unfold IsI64 at hn
  unfold wrap64
  omega
theorem ToldR.prg {S : Nat → Prop} {b : Nat} {t : Tl} {s : St} {w w' : World} {r : Ending} (h : ToldR S b t w r w') (e1 : t.nodes = s.nodes) (e2 : t.to = s.to) (e3 : t.id = s.id) (e4 : t.seq = s.seq) (h2 : nrm t.wait = s.wait) (h3 : nrm t.refused = s.refd) :
    r = .returned (.tuple #[]) ∧ Mem.Ch S w w' ∧ Prg w' (fun k => S k ∨ (w.heap.size ≤ k ∧ k < w'.heap.size)) b s := by
  obtain ⟨rfl, hc, ht⟩ := h
  obtain ⟨a1, a2, a3, a4, a5, a6⟩ := t
  obtain ⟨b1, b2, b3, b4, b5, b6⟩ := s
  dsimp only at e1 e2 e3 e4 h2 h3
  subst e1; subst e2; subst e3; subst e4
  exact ⟨rfl, hc, a5, a6, ht, h2, h3⟩
theorem told_prg {w : World} {S : Nat → Prop} {b : Nat} {s : St} {n : Nat} (err num lead : Int) (h : Prg w S b s) (hI : Inv s n) (hn : n ≤ 1000) (hS : ∀ k, S k → k < w.heap.size) (hnum : IsI64 num) :
    Calls Try.prog 13 #[.pointer (some ⟨b, 0, none⟩), .agg #[.int .i64 err, .int .i64 num], .int .i64 lead] w fun r w' => r = .returned (.tuple #[]) ∧ Mem.Ch S w w' ∧ Prg w' (fun k => S k ∨ (w.heap.size ≤ k ∧ k < w'.heap.size)) b (s.told err num lead) := by
  obtain ⟨lw, lr, h1, h2, h3⟩ := h
  have hfit : Tl.fit ⟨s.nodes, s.to, s.id, s.seq, lw, lr⟩ := ⟨hI.n1, hI.n7, hI.t0, hI.t1⟩
  have hs1 := hI.s1
  unfold St.told
  split
  · rename_i hw
    have he : lw = [] := by rw [hw] at h2; simpa [nrm] using h2
    exact (Told_none S b _ err num lead w h1 he).mono fun _ _ h => h.prg rfl rfl rfl rfl h2 h3
  · rename_i e r hw
    obtain ⟨p, l, rfl⟩ : ∃ p l, lw = p :: l := by
      cases lw with
      | nil => rw [hw] at h2; simp [nrm] at h2
      | cons p l => exact ⟨p, l, rfl⟩
    rw [hw] at h2
    have hpe : p.1.num 0 0 = e := by simp [nrm] at h2; exact h2.1
    have hlr : nrm l = r := by simp [nrm] at h2; exact h2.2
    have hne : (p :: l : List (Evt × Value)) ≠ [] := by simp
    have h2' : nrm (p :: l) = s.wait := by rw [hw]; exact h2
    split
    · rename_i h0
      split
      · rename_i hi
        split
        · rename_i hr
          exact (Told_open S b _ err num lead w h1 hne h0 hi hr.1 hr.2).mono fun _ _ h => h.prg rfl rfl rfl rfl h2' h3
        · rename_i hr
          by_cases hr1 : num < 1
          · exact (Told_open_no1 S b _ err num lead w h1 hne h0 hi hr1).mono fun _ _ h => h.prg rfl rfl rfl rfl h2' h3
          · exact (Told_open_no2 S b _ err num lead w h1 hne h0 hi (by omega) (by omega)).mono fun _ _ h => h.prg rfl rfl rfl rfl h2' h3
      · rename_i hi
        split
        · rename_i hq
          exact (Told_told S b _ err num lead w h1 hne h0 hi hI.s0 (by show s.seq < _; omega) ((wrap_one num s.seq hnum hI.s0 (by omega)).2 hq)).mono fun _ _ h => h.prg rfl rfl rfl rfl hlr h3
        · rename_i hq
          exact (Told_not S b _ err num lead w h1 hne h0 hi (fun hh => hq ((wrap_one num s.seq hnum hI.s0 (by omega)).1 hh))).mono fun _ _ h => h.prg rfl rfl rfl rfl h2' h3
    · rename_i h0
      split
      · rename_i h4
        exact (Told_lost S b _ err num lead w h1 hne h4.1 h4.2).mono fun _ _ h => h.prg rfl rfl rfl rfl h2' h3
      · rename_i h4
        split
        · rename_i h5
          obtain ⟨rfl, hi⟩ := h5
          refine (Told_stamp S b _ num lead p.1 p.2 l w h1 hS rfl hi (by have := hI.refs; rw [← h3, nrm_len] at this; show lr.length ≤ 1000; omega)).mono fun _ _ h => h.prg rfl rfl rfl rfl hlr ?_
          show nrm (lr ++ [(p.1, p.2)]) = _
          rw [← h3, ← hpe]
          simp [nrm]
        · rename_i h5
          by_cases hi : s.id = 0
          · exact (Told_lead0 S b _ err num lead w h1 hne hfit h0 hi).mono fun _ _ h => h.prg rfl rfl rfl rfl h2' h3
          · exact (Told_lead S b _ err num lead w h1 hne hfit h0 (fun hh => h4 ⟨hh, hi⟩) (fun hh => h5 ⟨hh, hi⟩)).mono fun _ _ h => h.prg rfl rfl rfl rfl h2' h3
theorem late_prg {w : World} {S : Nat → Prop} {b : Nat} {s : St} {n : Nat} (h : Prg w S b s) (hI : Inv s n) :
    Calls Try.prog 15 #[.pointer (some ⟨b, 0, none⟩)] w fun r w' => r = .returned (.tuple #[]) ∧ Mem.Ch S w w' ∧ Prg w' S b s.late := by
  obtain ⟨lw, lr, h1, h2, h3⟩ := h
  refine (Late_any S b _ w h1 ⟨hI.n1, hI.n7, hI.t0, hI.t1⟩).mono ?_
  rintro _ w' ⟨rfl, hc, ht⟩
  exact ⟨rfl, hc, lw, lr, ht, h2, h3⟩
theorem late_doc {w : World} {ok : Nat → Prop} {s : St} {v : Value} {n : Nat} (h : Doc w ok s v) (hI : Inv s n) :
    Calls Try.prog 14 #[v] w fun r w' => ∃ v', r = .returned v' ∧ Below w.heap.size w w' ∧ Doc w' (fun k => ok k ∨ w.heap.size ≤ k) s.late v' := by
  obtain ⟨vw, vr, lw, lr, rfl, h1, h2, h3, h4⟩ := h
  obtain ⟨Aw, cw, rfl⟩ := rd_len h1
  obtain ⟨Ar, cr, rfl⟩ := rd_len h2
  refine (rLate_any s.nodes s.to s.id s.seq Aw Ar lw.length lr.length cw cr w hI.n1 hI.n7 hI.t0 hI.t1).mono ?_
  rintro _ w' ⟨rfl, hb⟩
  exact ⟨_, rfl, hb, _, _, lw, lr, rfl, (h1.below hb).mono (fun k hk => .inl hk), (h2.below hb).mono (fun k hk => .inl hk), h3, h4⟩
theorem told_doc {w : World} {ok : Nat → Prop} {s : St} {v : Value} {n : Nat} (err num lead : Int) (h : Doc w ok s v) (hI : Inv s n) (hn : n ≤ 1000) :
    Calls Try.prog 12 #[v, .int .i64 err, .int .i64 num, .int .i64 lead] w fun r w' => ∃ v', r = .returned v' ∧ Below w.heap.size w w' ∧ Doc w' (fun k => ok k ∨ w.heap.size ≤ k) (s.told err num lead) v' := by
  obtain ⟨vw, vr, lw, lr, rfl, h1, h2, h3, h4⟩ := h
  have hs1 := hI.s1
  have hs0 := hI.s0
  have hrl : lr.length ≤ 1000 := by have := hI.refs; rw [← h4, List.length_map] at this; omega
  obtain ⟨Aw, cw, rfl⟩ := rd_len h1
  obtain ⟨Ar, cr, rfl⟩ := rd_len h2
  have keep : ∀ (s' : St) w', Below w.heap.size w w' → s'.wait = s.wait → s'.refd = s.refd → Doc w' (fun k => ok k ∨ w.heap.size ≤ k) s' (rtl s'.nodes s'.to s'.id s'.seq (.slice Aw lw.length cw) (.slice Ar lr.length cr)) := fun s' w' hb e1 e2 =>
    ⟨_, _, lw, lr, rfl, (h1.below hb).mono (fun k hk => .inl hk), (h2.below hb).mono (fun k hk => .inl hk), by rw [e1]; exact h3, by rw [e2]; exact h4⟩
  unfold St.told
  split
  · rename_i hw
    have he : lw = [] := by rw [hw] at h3; simpa using h3
    subst he
    refine (rTold_none s.nodes s.to s.id s.seq err num lead Aw Ar 0 lr.length cw cr w rfl).mono ?_
    rintro _ w' ⟨rfl, hb⟩
    exact ⟨_, rfl, hb, keep s w' hb rfl rfl⟩
  · rename_i e r hw
    obtain ⟨p, l, rfl⟩ : ∃ p l, lw = p :: l := by
      cases lw with
      | nil => rw [hw] at h3; simp at h3
      | cons p l => exact ⟨p, l, rfl⟩
    rw [hw] at h3
    have hpe : p.1 = e := by simpa using (List.cons.inj h3).1
    have hlr : l.map Prod.fst = r := by simpa using (List.cons.inj h3).2
    have hpos : 0 < (p :: l : List (Evt × Value)).length := by simp
    have keep' : ∀ (s' : St) w', Below w.heap.size w w' → s'.wait = s.wait → s'.refd = s.refd → Doc w' (fun k => ok k ∨ w.heap.size ≤ k) s' (rtl s'.nodes s'.to s'.id s'.seq (.slice Aw (p :: l).length cw) (.slice Ar lr.length cr)) := fun s' w' hb e1 e2 =>
      ⟨_, _, p :: l, lr, rfl, (h1.below hb).mono (fun k hk => .inl hk), (h2.below hb).mono (fun k hk => .inl hk), by rw [e1, hw]; exact h3, by rw [e2]; exact h4⟩
    split
    · rename_i h0
      split
      · rename_i hi
        split
        · rename_i hr
          refine (rTold_open s.nodes s.to s.id s.seq err num lead Aw Ar _ lr.length cw cr w hpos h0 hi hr.1 hr.2).mono ?_
          rintro _ w' ⟨rfl, hb⟩
          exact ⟨_, rfl, hb, keep' { s with id := num, seq := 0 } w' hb rfl rfl⟩
        · rename_i hr
          by_cases hr1 : num < 1
          · refine (rTold_open_no1 s.nodes s.to s.id s.seq err num lead Aw Ar _ lr.length cw cr w hpos h0 hi hr1).mono ?_
            rintro _ w' ⟨rfl, hb⟩
            exact ⟨_, rfl, hb, by rw [← hi]; exact keep' s w' hb rfl rfl⟩
          · refine (rTold_open_no2 s.nodes s.to s.id s.seq err num lead Aw Ar _ lr.length cw cr w hpos h0 hi (by omega) (by omega)).mono ?_
            rintro _ w' ⟨rfl, hb⟩
            exact ⟨_, rfl, hb, by rw [← hi]; exact keep' s w' hb rfl rfl⟩
      · rename_i hi
        split
        · rename_i hq
          subst h0
          refine (rTold_told s.nodes s.to s.id s.seq num lead Aw Ar _ lr.length cw cr p l ok w h1 hi hs0 (by omega) hq).mono ?_
          rintro _ w' ⟨v', rfl, hv, hb⟩
          exact ⟨_, rfl, hb, _, _, l, lr, by rw [hq], hv.mono (fun k hk => .inl hk), (h2.below hb).mono (fun k hk => .inl hk), hlr, h4⟩
        · rename_i hq
          refine (rTold_not s.nodes s.to s.id s.seq err num lead Aw Ar _ lr.length cw cr w hpos h0 hi hs0 (by omega) hq).mono ?_
          rintro _ w' ⟨rfl, hb⟩
          exact ⟨_, rfl, hb, keep' s w' hb rfl rfl⟩
    · rename_i h0
      split
      · rename_i h4'
        refine (rTold_lost s.nodes s.to s.id s.seq err num lead Aw Ar _ lr.length cw cr w hpos h4'.1 h4'.2).mono ?_
        rintro _ w' ⟨rfl, hb⟩
        exact ⟨_, rfl, hb, keep' { s with id := 0, seq := 0 } w' hb rfl rfl⟩
      · rename_i h4'
        split
        · rename_i h5
          obtain ⟨rfl, hi⟩ := h5
          refine (rTold_stamp s.nodes s.to s.id s.seq num lead Aw Ar _ lr.length cw cr p.1 p.2 l lr ok w h1 h2 hrl hi).mono ?_
          rintro _ w' ⟨v', v2, rfl, hv, ho, hb⟩
          refine ⟨_, rfl, hb, _, _, l, lr ++ [(p.1, p.2)], rfl, hv.mono (fun k hk => .inl hk), ⟨(own_evs ho (by simp)).mono (fun k hk => .inr hk), fun x hx => ?_⟩, hlr, by rw [List.map_append, h4, ← hpe]; rfl⟩
          rcases List.mem_append.1 hx with hx | hx
          · exact ((h2.2 x hx).below hb).mono (fun k hk => .inl hk)
          · have : x = p := by simpa using hx
            subst this
            exact ((h1.2 x List.mem_cons_self).below hb).mono (fun k hk => .inl hk)
        · rename_i h5
          have eL : 0 ≤ lead ∧ lead < s.nodes → leadTo s.to s.nodes lead = lead := fun h => if_pos h
          have eN : ¬ (0 ≤ lead ∧ lead < s.nodes) → leadTo s.to s.nodes lead = nextTo s.to s.nodes := fun h => if_neg h
          by_cases hin : 0 ≤ lead ∧ lead < s.nodes
          · rw [eL hin]
            by_cases hi : s.id = 0
            · refine (rTold_in0 s.nodes s.to s.id s.seq err num lead Aw Ar _ lr.length cw cr w hpos h0 hi hin.1 hin.2).mono ?_
              rintro _ w' ⟨rfl, hb⟩
              exact ⟨_, rfl, hb, by rw [← hi]; exact keep' { s with to := lead } w' hb rfl rfl⟩
            · refine (rTold_in1 s.nodes s.to s.id s.seq err num lead Aw Ar _ lr.length cw cr w hpos h0 (fun hh => h4' ⟨hh, hi⟩) (fun hh => h5 ⟨hh, hi⟩) hin.1 hin.2).mono ?_
              rintro _ w' ⟨rfl, hb⟩
              exact ⟨_, rfl, hb, keep' { s with to := lead } w' hb rfl rfl⟩
          · rw [eN hin]
            by_cases hi : s.id = 0
            · refine (rTold_out0 s.nodes s.to s.id s.seq err num lead Aw Ar _ lr.length cw cr w hpos h0 hi (by omega) hI.n1 hI.n7 hI.t0 hI.t1).mono ?_
              rintro _ w' ⟨rfl, hb⟩
              exact ⟨_, rfl, hb, by rw [← hi]; exact keep' { s with to := nextTo s.to s.nodes } w' hb rfl rfl⟩
            · refine (rTold_out1 s.nodes s.to s.id s.seq err num lead Aw Ar _ lr.length cw cr w hpos h0 (fun hh => h4' ⟨hh, hi⟩) (fun hh => h5 ⟨hh, hi⟩) (by omega) hI.n1 hI.n7 hI.t0 hI.t1).mono ?_
              rintro _ w' ⟨rfl, hb⟩
              exact ⟨_, rfl, hb, keep' { s with to := nextTo s.to s.nodes } w' hb rfl rfl⟩
/-- Both say the same. -/
theorem told_st {w : World} {S ok : Nat → Prop} {b : Nat} {s : St} {v : Value} {n : Nat} (h1 : Prg w S b s) (h2 : Doc w ok s v) (hI : Inv s n) (hn : n ≤ 1000) :
    Calls Try.prog 16 #[.pointer (some ⟨b, 0, none⟩), v] w fun r w' => r = .returned (.bool true) ∧ Below w.heap.size w w' := by
  obtain ⟨lw, lr, h1, a2, a3⟩ := h1
  obtain ⟨vw, vr, mw, mr, rfl, b1, b2, b3, b4⟩ := h2
  refine told_any (t := ⟨s.nodes, s.to, s.id, s.seq, lw, lr⟩) ⟨h1, b1, b2, by rw [b3, ← a2]; rfl, by rw [b4, ← a3]; rfl, ⟨hI.n1, hI.n7, hI.t0, hI.t1⟩, fun p hp => ?_, ⟨hI.i0, hI.i1⟩, ⟨hI.s0, hI.s1⟩, by have := hI.refs; rw [← a3, nrm_len] at this; exact this⟩ hn
  have := hI.good (p.1.num 0 0) (by rw [← a2, ← a3]; rcases hp with hp | hp; exact .inl (List.mem_map.2 ⟨p, hp, rfl⟩); exact .inr (List.mem_map.2 ⟨p, hp, rfl⟩))
  exact this
end Go.Proofs.Ytbiicflcjipeeaa
