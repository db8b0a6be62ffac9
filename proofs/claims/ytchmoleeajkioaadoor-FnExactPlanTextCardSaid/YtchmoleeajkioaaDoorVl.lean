/-
  THE LOGIC V, PART l: from what is said of an operation to its run.
-/
import Derived.Test.YtchmoleeajkioaaDoorVk
import Derived.Laws.Cover3
import Derived.Lib.SliceRun
namespace Go.Proofs.YtchmoleeajkioaaDoor.V
open Go Go.RowKit
set_option linter.unusedSimpArgs false
set_option linter.unusedVariables false

section
variable {P : Program} {w : World} {S : Nat → Prop} {ι : Io} {loud : Nat → Bool} {N : Nat} {w0 : World} {S0 : Nat → Prop} {ι0 : Io} {H0 : Hp}

theorem put_get {a : Act} {d : Option Nat} {v : Value} {i : Nat} : (d = some i ∧ i < a.tmps.size ∧ (a.put d v).tmps.getD i undef = v) ∨ (d = some i ∧ ¬ i < a.tmps.size) ∨ (d ≠ some i ∧ (a.put d v).tmps.getD i undef = a.tmps.getD i undef) := by
  cases d with
  | none => right; right; exact ⟨by simp, rfl⟩
  | some k =>
    by_cases hk : k = i
    · subst hk
      by_cases hlt : k < a.tmps.size
      · left; refine ⟨rfl, hlt, ?_⟩; simp [Act.put, hlt]
      · right; left; exact ⟨rfl, hlt⟩
    · right; right
      refine ⟨by simpa using hk, ?_⟩
      simp [Act.put, Array.getElem?_setIfInBounds_ne hk]

theorem Rep.go {st st' : St} {a : Act} {d : Option Nat} {v : Value} {w' : World} {S' : Nat → Prop} {ι' : Io} (Rp : Rep N w0 S0 ι0 H0 w S ι st a) (hd : ∀ k, d = some k → k < N)
    (T : Step w S ι st w' S' ι' st') (tell : Tell w S ι st d v w' S' ι' st') : Rep N w0 S0 ι0 H0 w' S' ι' st' (a.put d v) where
  hr := T.hr
  sl i := by
    rcases put_get (a := a) (d := d) (v := v) (i := i) with ⟨h1, _, h3⟩ | ⟨h1, h2⟩ | ⟨h1, h2⟩
    · rw [h3]; exact tell.2 i h1
    · exact absurd (by have := hd i h1; have := Rp.size; omega) h2
    · rw [h2]; exact tell.1 _ i (fun e => h1 e.symm) (Rp.sl i)
  size := by rw [← Rp.size]; cases d <;> simp [Act.put]
  defers := by rw [← Rp.defers]; cases d <;> simp [Act.put]
  fr := Rp.fr.trans Rp.hr T.fr (fun l hl _ => Rp.par l hl)
  par l hl := T.live l (Rp.par l hl)

/-- A step that lays a value into a slot and is else none. -/
theorem step_put (R : HR w S ι H0) {st : St} (hH : st.H = H0) (d : Option Nat) (x : AV) : Step w S ι st w S ι (st.put d x) := by
  subst hH
  exact ⟨by rw [St.put_H]; exact R, by rw [St.put_H]; exact Fr.refl _ _ _ _, fun l hl => by rw [St.put_bx]; exact hl⟩

theorem tell_put {st : St} {d : Option Nat} {x : AV} {v : Value} (hv : VL w S ι st.H v x) : Tell w S ι st d v w S ι (st.put d x) := by
  refine ⟨fun u i hi hu => ?_, fun k hk => ?_⟩
  · rw [St.put_H]
    have : (st.put d x).s i = st.s i := by
      cases d with
      | none => rfl
      | some k => exact upd_ne _ _ (fun e => hi (by rw [e]))
    rw [this]; exact hu
  · subst hk
    rw [St.put_H]
    simp only [St.put, upd_same]; exact hv

theorem putA_no (st : St) (k : Nat) (v : AV) : st.putA k v .no = st.put (some k) v := rfl

theorem putA_s (st : St) (k : Nat) (v : AV) (al : Al) (i : Nat) : (st.putA k v al).s i = upd st.s k v i := by cases al <;> rfl

theorem putA_live (st : St) (k : Nat) (v : AV) (al : Al) (l : Nat) (h : st.bx l ≠ none) : (st.putA k v al).bx l ≠ none := by
  cases al with
  | no => exact h
  | box cs =>
    by_cases e : l = k
    · subst e; simp [St.putA, upd_same]
    · simpa [St.putA, upd_ne _ _ e] using h
  | row sz n => exact h

/-- Which operations are told by 'qf'. -/
def SOp.quiet : SOp → Bool
  | .st .. | .app .. | .call .. | .calv .. | .bsl .. | .isn .. | .sfz .. | .bad => false
  | _ => true

theorem ef_quiet {st : St} {d : Option Nat} {K : St → Prop} {op : SOp} (h : ef P loud st d K op) (hq : op.quiet = true) : landP (qf st (d.getD 0) op) st d K := by
  cases op <;> first | exact h | (simp [SOp.quiet] at hq; done) | exact h.elim

theorem writes_quiet {op : SOp} (hq : op.quiet = true) {st : St} {d : Nat} (hp : (qf st d op).p) : op.writes loud = false := by
  cases op <;> first | rfl | (simp [SOp.quiet] at hq; done) | exact hp.elim

theorem Rep.free {st : St} {a : Act} (t : Nat) (Rp : Rep N w0 S0 ι0 H0 w S ι st a) : ∃ S' ι', Rep N w0 S0 ι0 H0 w S' ι' (st.free t) a := by
  obtain ⟨S', ι', h1, h2, _, h4⟩ := (turn_free (st := st) t).go w S ι Rp.hr
  have hlive : ∀ l, H0.bx l ≠ none → (st.free t).bx l ≠ none := fun l hl => by
    have := Rp.par l hl
    simp only [St.free]
    cases h : st.bx l with
    | none => exact absurd h this
    | some c => simp
  exact ⟨S', ι', h1, fun i => h4 _ i (Rp.sl i), Rp.size, Rp.defers, Rp.fr.trans Rp.hr h2 (fun l hl _ => Rp.par l hl), hlive⟩

theorem Rep.frees {a : Act} : ∀ (ts : List Nat) {st : St} {S : Nat → Prop} {ι : Io}, Rep N w0 S0 ι0 H0 w S ι st a → ∃ S' ι', Rep N w0 S0 ι0 H0 w S' ι' (st.frees ts) a
  | [], _, S, ι, Rp => ⟨S, ι, Rp⟩
  | t :: r, _, _, _, Rp => by
    obtain ⟨S1, ι1, R1⟩ := Rp.free t
    exact Rep.frees r R1

theorem quiet_ok {o : Oper} {op : SOp} {a : Act} {st : St} {K : St → Prop} (hs : slimOp P o = some op) (hd : ∀ k, o.dst = some k → k < N) (Rp : Rep N w0 S0 ι0 H0 w S ι st a) (hl : landP (qf st (o.dst.getD 0) op) st o.dst K)
    {K' : Act → World → Prop} {Q : Exit → Act → World → Prop}
    (hK : ∀ st' a' w' S' ι', K st' → Rep N w0 S0 ι0 H0 w' S' ι' st' a' → (∀ b, b < w.heap.size → w'.heap[b]? = w.heap[b]?) → w.heap.size ≤ w'.heap.size → K' a' w') : o.wp P a w K' Q := by
  unfold Oper.wp
  unfold landP at hl
  by_cases hal : (qf st (o.dst.getD 0) op).al = .no
  · have hp : (qf st (o.dst.getD 0) op).p ∧ K (st.put o.dst (qf st (o.dst.getD 0) op).v) := by
      split at hl
      · rename_i k hk
        rw [hk] at hal hl ⊢
        simp only [Option.getD_some] at hl hal ⊢
        rw [hal, putA_no] at hl
        exact hl
      · rename_i hk
        rw [hk] at hl ⊢
        exact ⟨hl.1.1, hl.2⟩
    obtain ⟨v, hrun, hv⟩ := quiet0 (d := o.dst.getD 0) hs Rp.hr Rp.sl hp.1 hal
    rw [hrun, Oper.upon_value]
    exact hK _ _ w S ι hp.2 (Rp.go hd (step_put Rp.hr rfl _ _) (tell_put hv)) (fun _ _ => rfl) (Nat.le_refl _)
  · split at hl
    · rename_i k hk
      rw [hk] at hal
      simp only [Option.getD_some] at hal
      rw [hk] at hl
      simp only [Option.getD_some] at hl
      obtain ⟨v, w', ι', hrun, E, R', F, hv, hold⟩ := quiet1 hs Rp.hr Rp.sl hl.1 hal
      rw [hrun, Oper.upon_value]
      have hgo := Rp.go (d := o.dst) (v := v) hd ⟨R', F, fun l => putA_live st k _ _ l⟩ (by
        refine ⟨fun u i hi hu => ?_, fun j hj => ?_⟩
        · rw [putA_s, upd_ne _ _ (fun e => hi (by rw [e, hk]))]
          exact hu.ext E Rp.hr
        · rw [hk] at hj; cases hj
          rw [putA_s, upd_same]; exact hv)
      exact hK _ _ w' S ι' hl.2 hgo hold F.size
    · exact absurd hl.1.2 hal

theorem run_freeze {b : Nat} {cs : Array Value} {T : TypeId} {lo hi : Nat} (h : w.heap[b]? = some (.cells cs T (lo, hi))) (o : Nat) : (markStringish ⟨b, o, none⟩).run P w = .ok () (w.freeze ⟨b, cs.size, none⟩ 1) := by
  have hsh : w.shape? b = some (T, cs.size) := by simp [World.shape?, h]
  simp [markStringish, hsh]

theorem freeze_heap (b n k : Nat) : (w.freeze ⟨b, n, none⟩ 1).heap[k]? = if k = b then (w.heap[b]?).map (fun | .cells c e (lo, hi) => .cells c e (if lo == hi then (n, n + 1) else (min lo n, max hi (n + 1))) | o => o) else w.heap[k]? := by
  unfold World.freeze
  rw [if_neg (by decide)]
  simp only [Array.getElem?_modify]
  by_cases h : b = k
  · subst h
    rw [if_pos rfl, if_pos rfl]
    cases w.heap[b]? with
    | none => rfl
    | some x => cases x <;> rfl
  · rw [if_neg h, if_neg (Ne.symm h)]

theorem freeze_cell {b : Nat} {cs : Array Value} {T : TypeId} {lo hi : Nat} (h : w.heap[b]? = some (.cells cs T (lo, hi))) (n : Nat) (a : Addr) : (w.freeze ⟨b, n, none⟩ 1).cell? a = w.cell? a := by
  simp only [World.cell?, freeze_heap]
  by_cases e : a.block = b
  · rw [if_pos e, e, h]; rfl
  · rw [if_neg e]

theorem freeze_go {H : Hp} (R : HR w S ι H) {t sz n b base : Nat} (ht : H.tg t = some (sz, n)) (hι : ι.tg t = some (b, base)) {cs : Array Value} {T : TypeId} {lo hi : Nat} (hb : w.heap[b]? = some (.cells cs T (lo, hi))) :
    Ext w S ι H (w.freeze ⟨b, cs.size, none⟩ 1) S ι H ∧ HR (w.freeze ⟨b, cs.size, none⟩ 1) S ι H ∧ Fr w S ι H (w.freeze ⟨b, cs.size, none⟩ 1) S ι H := by
  have hn : H.tg t ≠ none := by rw [ht]; simp
  have hother : ∀ k, k ≠ b → (w.freeze ⟨b, cs.size, none⟩ 1).heap[k]? = w.heap[k]? := fun k hk => by rw [freeze_heap, if_neg hk]
  have hob : Owned ι H b := .inr ⟨t, base, hn, hι⟩
  have hself : ∀ c T' fz, w.heap[b]? = some (.cells c T' fz) → ∃ fz', (w.freeze ⟨b, cs.size, none⟩ 1).heap[b]? = some (.cells c T' fz') := fun c T' fz h => by
    obtain ⟨l, h'⟩ := fz
    exact ⟨_, by rw [freeze_heap, if_pos rfl, h]; rfl⟩
  have hsz : (w.freeze ⟨b, cs.size, none⟩ 1).heap.size = w.heap.size := by simp [World.freeze]
  have hst : ∀ k, S k → k ≠ b := fun k hk e => (R.stable k hk).2 (e ▸ hob)
  have E : Ext w S ι H (w.freeze ⟨b, cs.size, none⟩ 1) S ι H :=
    { st := fun _ h => h
      keep := fun k hk => hother k (hst k hk)
      bx := fun l h => ⟨h, rfl⟩
      tg := fun u s m h => ⟨rfl, m, Nat.le_refl _, h⟩
      row := fun u s m b' base' h hι' c T' fz hc => by
        by_cases e : b' = b
        · subst e
          obtain ⟨fz', h'⟩ := hself _ _ _ hc
          exact ⟨c, T', fz', h', Nat.le_refl _, fun _ _ => rfl⟩
        · exact ⟨c, T', fz, by rw [hother _ e]; exact hc, Nat.le_refl _, fun _ _ => rfl⟩ }
  refine ⟨E, ?_, ?_⟩
  · exact
    { stable := fun k hk => ⟨by rw [hsz]; exact (R.stable k hk).1, (R.stable k hk).2⟩
      boxes := fun l c h => by
        obtain ⟨c0, T0, q1, q2, q3⟩ := R.boxes l c h
        exact ⟨c0, T0, by rw [hother _ (R.injBT l t b base (by rw [h]; simp) hn hι)]; exact q1, q2, fun j hj => (q3 j hj).ext E R⟩
      rows := fun u s m h => by
        obtain ⟨h1, h2⟩ := R.rows u s m h
        refine ⟨fun b' base' hι' => ?_, h2⟩
        obtain ⟨c, T0, lo', hi', q1, q2, q3⟩ := (h1 b' base' hι').blk
        by_cases e : b' = b
        · subst e
          rw [hb] at q1
          simp only [Option.some.injEq, Obj.cells.injEq, Prod.mk.injEq] at q1
          obtain ⟨rfl, rfl, rfl, rfl⟩ := q1
          by_cases e : lo = hi
          · subst e
            exact ⟨cs, T, cs.size, cs.size + 1, by rw [freeze_heap, if_pos rfl, hb]; simp only [Option.map_some, beq_self_eq_true, if_true], q2, .inr (Nat.le_refl _)⟩
          · exact ⟨cs, T, min lo cs.size, max hi (cs.size + 1), by rw [freeze_heap, if_pos rfl, hb]; simp only [Option.map_some, beq_iff_eq, e, if_false], q2, .inr (by omega)⟩
        · exact ⟨c, T0, lo', hi', by rw [hother _ e]; exact q1, q2, q3⟩
      injB := R.injB, injT := R.injT, injBT := R.injBT }
  · exact { os := by simp [World.freeze], tape := by simp [World.freeze], output := by simp [World.freeze], size := by rw [hsz]; exact Nat.le_refl _,
            keep := fun k _ ho => hother k (fun e => ho (e ▸ hob)), st := fun _ h => h, new := fun k h => by
              rcases h with h | h
              · exact .inl h
              · exact .inr (.inl h),
            par := fun _ _ _ => rfl }

theorem ef_ok {ops : Array Oper} {o : Oper} {op : SOp} {a : Act} {st : St} {K : St → Prop} (hs : slimOp P o = some op) (hd : ∀ k, o.dst = some k → k < N) (Rp : Rep N w0 S0 ι0 H0 w S ι st a) (h : ef P loud st o.dst K op)
    {K' : Act → World → Prop} {Q : Exit → Act → World → Prop}
    (hK : ∀ st' a' w' S' ι', K st' → Rep N w0 S0 ι0 H0 w' S' ι' st' a' → (op.writes loud = false → ∀ b, b < w.heap.size → w'.heap[b]? = w.heap[b]?) → w.heap.size ≤ w'.heap.size → K' a' w') : o.wp P a w K' Q := by
  by_cases hq : op.quiet = true
  · exact quiet_ok hs hd Rp (ef_quiet h hq) fun st' a' w' S' ι' k r hh sz => hK st' a' w' S' ι' k r (fun _ => hh) sz
  · cases op with
    | bad => exact h.elim
    | bsl sz z n ps =>
      obtain ⟨S1, ι1, R1⟩ := Rp.frees (ps.flatMap fun p => tagsA (st.get p.2))
      exact quiet_ok hs hd R1 h fun st' a' w' S' ι' k r hh sz => hK st' a' w' S' ι' k r (fun _ => hh) sz
    | isn ne x =>
      obtain ⟨t, e, y, yT, ho, hu, hx⟩ := slim_isn hs
      have key : ∀ c, (∀ (ad : Option Addr) n cap, a.eval y = .slice ad n cap → c = ad.isNone) → (∃ ad n cap, a.eval y = .slice ad n cap) → K (st.put o.dst (bv (if ne then !c else c))) → o.wp P a w K' Q := by
        intro c hc ⟨ad, n, cap, hv⟩ hKc
        have := hc _ _ _ hv
        subst this
        unfold Oper.wp
        have hrun : (execOp a.eval o).run P w = .ok (.value (.bool (if ne then !ad.isNone else ad.isNone))) w := by
          obtain ⟨dst, oop, type, pos, after, guard⟩ := o
          simp only at ho; subst ho
          cases ne with
          | true =>
            have e1 := run_neq_slice_nil (P := P) (w := w) t e ad n cap hu
            have e2 : a.eval (.const (.slice none 0 0)) = .slice none 0 0 := rfl
            simp [execOp, hv, e2, eqGuard, e1]
          | false =>
            have e1 := Lib.run_eql_slice_nil (P := P) w t e ad n cap 0 0 hu
            have e2 : a.eval (.const (.slice none 0 0)) = .slice none 0 0 := rfl
            simp [execOp, hv, e2, eqGuard, e1]
        rw [hrun, Oper.upon_value]
        exact hK _ _ w S ι hKc (Rp.go hd (step_put Rp.hr rfl _ _) (tell_put (VL.bool _))) (fun _ _ _ => rfl) (Nat.le_refl _)
      have vx := arg_vl hx Rp.sl
      simp only [ef, isnP] at h
      split at h
      · rename_i sz hxs
        rw [hxs] at vx
        have hv := vx.nils_inv
        exact key true (fun ad n cap e => by rw [hv] at e; cases e; rfl) ⟨_, _, _, hv⟩ (by cases ne <;> exact h)
      · rename_i sz rows hxs
        rw [hxs] at vx
        generalize hgv : a.eval y = v at vx key
        cases vx with
        | d hr =>
          cases hr with
          | nil ad cap sz =>
            cases ad with
            | none => exact key true (fun _ _ _ e => by cases e; rfl) ⟨_, _, _, rfl⟩ (by cases ne <;> exact h.1 rfl)
            | some q => exact key false (fun _ _ _ e => by cases e; rfl) ⟨_, _, _, rfl⟩ (by cases ne <;> exact h.2)
          | sl cv h1 h2 h3 h4 h5 => exact key false (fun _ _ _ e => by cases e; rfl) ⟨_, _, _, rfl⟩ (by cases ne <;> exact h.2)
      · rename_i t' sz off rows hxs
        rw [hxs] at vx
        generalize hgv : a.eval y = v at vx key
        cases vx with
        | onil h1 h2 => exact key true (fun _ _ _ e => by cases e; rfl) ⟨_, _, _, rfl⟩ (by cases ne <;> exact h.1 rfl)
        | @oemp _ _ _ _ _ ad h1 h2 h3 =>
          cases ad with
          | none => exact key true (fun _ _ _ e => by cases e; rfl) ⟨_, _, _, rfl⟩ (by cases ne <;> exact h.1 rfl)
          | some q => exact key false (fun _ _ _ e => by cases e; rfl) ⟨_, _, _, rfl⟩ (by cases ne <;> exact h.2)
        | own h1 h2 h3 h4 cv h5 h6 h7 h8 => exact key false (fun _ _ _ e => by cases e; rfl) ⟨_, _, _, rfl⟩ (by cases ne <;> exact h.2)
      · exact h.elim
    | sfz x =>
      obtain ⟨t, e, y, ho, hu, he, hx⟩ := slim_sfz hs
      have vx := arg_vl hx Rp.sl
      simp only [ef, sfzP] at h
      split at h
      · rename_i t' sz off rows hxs
        obtain ⟨hne, hKK⟩ := h
        rw [hxs] at vx
        have vx' := vx
        generalize hgv : a.eval y = v at vx
        cases vx with
        | onil h1 h2 => exact absurd rfl hne
        | oemp h1 h2 h3 => exact absurd rfl hne
        | @own _ _ n b base _ cap _ h1 h2 h3 h4 cv h5 h6 h7 h8 =>
          obtain ⟨cs, T, lo, hi, g1, g2, g3⟩ := ((Rp.hr.rows _ _ _ h1).1 b base h2).blk
          obtain ⟨E, R', F⟩ := freeze_go Rp.hr h1 h2 g1
          unfold Oper.wp
          have hrun : (execOp a.eval o).run P w = .ok (.value (a.eval y)) (w.freeze ⟨b, cs.size, none⟩ 1) := by
            obtain ⟨dst, oop, type, pos, after, guard⟩ := o
            simp only at ho; subst ho
            simp [execOp, hgv, convert, run_underlying hu, run_underlying he, run_freeze g1]
          rw [hrun, Oper.upon_value]
          refine hK _ _ _ S ι hKK (Rp.go hd ⟨by rw [St.put_H]; exact R', by rw [St.put_H]; exact F, fun l hl => by rw [St.put_bx]; exact hl⟩ ⟨fun u i hi hu => ?_, fun k hk => ?_⟩) (fun hw => by simp [SOp.writes] at hw) F.size
          · rw [St.put_H]
            have e : (st.put o.dst (.own t' sz off rows)).s i = st.s i := by
              cases hdd : o.dst with
              | none => rfl
              | some k => exact upd_ne _ _ (fun e => hi (by rw [e, hdd]))
            rw [e]; exact hu.ext E Rp.hr
          · rw [St.put_H, hk]
            simp only [St.put, upd_same]
            exact vx'.ext E Rp.hr
      · exact h.elim
    | st n x y =>
      unfold Oper.wp
      obtain ⟨S1, ι1, Rp⟩ := Rp.frees (stTags (st.get x) (st.get y))
      obtain ⟨t, b, c, ho, rfl, hx, hy⟩ := slim_st hs
      obtain ⟨w', st', hrun, T, hKs, tell⟩ := store_go Rp.hr (arg_vl hx Rp.sl) (arg_vl hy Rp.sl) h
      have : (execOp a.eval o).run P w = .ok .skip w' := by
        obtain ⟨dst, oop, type, pos, after, guard⟩ := o
        simp only at ho; subst ho
        simp [execOp, hrun]
      rw [this, Oper.upon_skip]
      exact hK _ _ w' S1 ι1 hKs (Rp.go hd T tell) (fun hw => by simp [SOp.writes] at hw) T.fr.size
    | app sz x y =>
      unfold Oper.wp
      obtain ⟨t, u, b, c, e, ho, ht, hu, rfl, h0, hb, hz, hx, hy⟩ := slim_app hs
      obtain ⟨r, w', ι', st', hrun, T, hKs, tell⟩ := append_go (ty := o.type) ht hu hb hz h0 Rp.hr (arg_vl hx Rp.sl) (arg_vl hy Rp.sl) h
      have : (execOp a.eval o).run P w = .ok (.value r) w' := by
        obtain ⟨dst, oop, type, pos, after, guard⟩ := o
        simp only at ho; subst ho
        simp only at hrun
        simp [execOp, resolve, invoke, builtin, hrun]
      rw [this, Oper.upon_value]
      exact hK _ _ w' S ι' hKs (Rp.go hd T tell) (fun hw => by simp [SOp.writes] at hw) T.fr.size
    | call f xs =>
      unfold Oper.wp
      obtain ⟨c, ho, hc, hxs⟩ := slim_call hs
      rcases h with h | h
      rotate_left
      · obtain ⟨x, hx, hKx⟩ := h
        obtain ⟨g1, g2⟩ := args_call hxs Rp.sl
        obtain ⟨r, hrun, hv⟩ := hx w S ι _ Rp.hr g1 g2
        have : (execOp a.eval o).run P w = .ok (.value r) w := by
          obtain ⟨dst, oop, type, pos, after, guard⟩ := o
          simp only at ho; subst ho
          obtain ⟨callee, args, argTypes⟩ := c
          simp only at hc; subst hc
          have e : a.eval (.func f) = .func (.func f) #[] #[] := rfl
          simp only [execOp, resolve, Sem.run_bind]
          rw [e]
          simp only [Deferred.ofValue, Sem.run_pure, Result.andThen_ok, invoke]
          rw [map_args ⟨.value (.func f), args, argTypes⟩ a]
          rw [← hrun]
          congr 2
          simp
        rw [this, Oper.upon_value]
        exact hK _ _ w S ι hKx (Rp.go hd (step_put Rp.hr rfl _ _) (tell_put hv)) (fun _ _ _ => rfl) (Nat.le_refl _)
      obtain ⟨hk, hcalls⟩ := h
      obtain ⟨g1, g2⟩ := args_call hxs Rp.sl
      have : (execOp a.eval o).run P w = .ok (.enter f (c.args.toList.map a.eval).toArray) w := by
        obtain ⟨dst, oop, type, pos, after, guard⟩ := o
        simp only at ho; subst ho
        obtain ⟨callee, args, argTypes⟩ := c
        simp only at hc; subst hc
        have := run_callFunc (w := w) hk (args.toList.map a.eval).toArray
        have e : a.eval (.func f) = .func (.func f) #[] #[] := rfl
        simp only [execOp, resolve, Sem.run_bind]
        rw [e]
        simp only [Deferred.ofValue, Sem.run_pure, Result.andThen_ok, invoke]
        rw [map_args ⟨.value (.func f), args, argTypes⟩ a]
        rw [← this]
        congr 2
        simp
      rw [this, Oper.upon_enter]
      refine Calls.mono (hcalls w S ι _ Rp.hr g1 g2) fun e w' he => ?_
      obtain ⟨v, S', ι', st', rfl, T, hKs, tell, hold⟩ := he
      exact hK _ _ w' S' ι' hKs (Rp.go hd T tell) (fun hw => hold (by simpa [SOp.writes] using hw)) T.fr.size
    | calv f xs =>
      unfold Oper.wp
      obtain ⟨c, t, ho, hc, rfl, hxs⟩ := slim_calv hs
      simp only [ef] at h
      split at h
      · rename_i g fa ca hf
        obtain ⟨g1, g2⟩ := args_call hxs Rp.sl
        have vf : VL w S ι st.H (a.tmps.getD t undef) (.clos (.func g) fa ca) := by rw [← hf]; exact Rp.sl t
        generalize hfv : a.tmps.getD t undef = fv at vf
        cases vf with
        | @clos _ fs cs _ _ h1 h2 h3 h4 =>
          have hl : ∀ j (hj : j < (fa ++ xs.map st.get ++ ca).length), VL w S ι st.H ((fs ++ c.args.toList.map a.eval ++ cs).getD j undef) ((fa ++ xs.map st.get ++ ca)[j]) := by
            intro j hj
            simp only [List.getD, List.length_append, List.length_map] at hj g1 ⊢
            by_cases hj1 : j < fa.length
            · rw [List.getElem?_append_left (by simp only [List.length_append, List.length_map]; omega), List.getElem?_append_left (by omega), List.getElem_append_left (by simp only [List.length_append, List.length_map]; omega), List.getElem_append_left hj1]
              exact h2 j hj1
            · by_cases hj2 : j < fa.length + xs.length
              · rw [List.getElem?_append_left (by simp only [List.length_append, List.length_map]; omega), List.getElem?_append_right (by omega), List.getElem_append_left (by simp only [List.length_append, List.length_map]; omega), List.getElem_append_right (by omega)]
                have := g2 (j - fa.length) (by simp only [List.length_append, List.length_map]; omega)
                rw [h1]
                exact this
              · rw [List.getElem?_append_right (by simp only [List.length_append, List.length_map]; omega), List.getElem_append_right (by simp only [List.length_append, List.length_map]; omega)]
                have := h4 (j - (fa.length + xs.length)) (by omega)
                have e1 : (fs ++ c.args.toList.map a.eval).length = fa.length + xs.length := by simp only [List.length_append, List.length_map]; omega
                have e2 : (fa ++ xs.map st.get).length = fa.length + xs.length := by simp
                simp only [e1, e2]
                exact this
          rcases h with h | h
          rotate_left
          · obtain ⟨x, hx, hKx⟩ := h
            obtain ⟨r, hrun, hv⟩ := hx w S ι _ Rp.hr (by simp only [List.length_append, List.length_map] at *; omega) hl
            have : (execOp a.eval o).run P w = .ok (.value r) w := by
              obtain ⟨dst, oop, type, pos, after, guard⟩ := o
              simp only at ho; subst ho
              obtain ⟨callee, args, argTypes⟩ := c
              simp only at hc; subst hc
              have e : a.eval (.tmp t) = .func (.func g) fs.toArray cs.toArray := hfv
              simp only [execOp, resolve, Sem.run_bind]
              rw [e]
              simp only [Deferred.ofValue, Sem.run_pure, Result.andThen_ok, invoke]
              rw [map_args ⟨.value (.tmp t), args, argTypes⟩ a]
              rw [← hrun]
              congr 2
              simp
            rw [this, Oper.upon_value]
            exact hK _ _ w S ι hKx (Rp.go hd (step_put Rp.hr rfl _ _) (tell_put hv)) (fun _ _ _ => rfl) (Nat.le_refl _)
          obtain ⟨hk, hcalls⟩ := h
          have : (execOp a.eval o).run P w = .ok (.enter g (fs ++ c.args.toList.map a.eval ++ cs).toArray) w := by
            obtain ⟨dst, oop, type, pos, after, guard⟩ := o
            simp only at ho; subst ho
            obtain ⟨callee, args, argTypes⟩ := c
            simp only at hc; subst hc
            have := run_callFunc (w := w) hk (fs ++ args.toList.map a.eval ++ cs).toArray
            have e : a.eval (.tmp t) = .func (.func g) fs.toArray cs.toArray := hfv
            simp only [execOp, resolve, Sem.run_bind]
            rw [e]
            simp only [Deferred.ofValue, Sem.run_pure, Result.andThen_ok, invoke]
            rw [map_args ⟨.value (.tmp t), args, argTypes⟩ a]
            rw [← this]
            congr 2
            simp
          rw [this, Oper.upon_enter]
          refine Calls.mono (hcalls w S ι _ Rp.hr (by simp at *; omega) hl) fun e w' he => ?_
          obtain ⟨v, S', ι', st', rfl, T, hKs, tell, hold⟩ := he
          exact hK _ _ w' S' ι' hKs (Rp.go hd T tell) (fun hw => by simp [SOp.writes] at hw) T.fr.size
      · exact h.elim
    | _ => simp [SOp.quiet] at hq

end
end Go.Proofs.YtchmoleeajkioaaDoor.V
