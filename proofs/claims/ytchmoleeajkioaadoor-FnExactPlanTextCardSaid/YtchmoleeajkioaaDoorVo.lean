/-
  THE LOGIC V, PART o: a region whose order is drawn.
-/
import Derived.Test.YtchmoleeajkioaaDoorVn
namespace Go.Proofs.YtchmoleeajkioaaDoor.V
open Go Go.RowKit
set_option linter.unusedSimpArgs false
set_option linter.unusedVariables false

section
variable {P : Program} {w : World} {S : Nat → Prop} {ι : Io} {H : Hp} {loud : Nat → Bool} {N : Nat} {w0 : World} {S0 : Nat → Prop} {ι0 : Io} {H0 : Hp} {ops : Array Oper} {Q : Exit → Act → World → Prop}

theorem keeps.cell {w' : World} (h : keeps w w') {b o : Nat} {v : Value} (hc : w.cell? ⟨b, o, none⟩ = some v) : w'.cell? ⟨b, o, none⟩ = some v := by
  rw [cell_of_block (h.2 b ?_)]
  · exact hc
  · rcases Nat.lt_or_ge b w.heap.size with h' | h'
    · exact h'
    · simp [World.cell?, Array.getElem?_eq_none h'] at hc

theorem ld_cells_same {t : TypeId} {n : Option Nat} (ht : shapeOf P t = some n) {b o0 o : Nat} {cells : List AV} (cv : Nat → Value)
    (hc : ∀ j, j < cells.length → w.cell? ⟨b, o0 + j, none⟩ = some (cv j)) (hp : (ldC cells o n).p) :
    ∃ v, ∀ w', keeps w w' → (Instr.loadAt t (.pointer (some ⟨b, o0 + o, none⟩))).run P w' = .ok v w' := by
  cases n with
  | none =>
    simp only [ldC] at hp
    cases hx : cells[o]? with
    | none => simp [hx, bad] at hp
    | some x =>
      obtain ⟨ho, _⟩ := getElem?_lt hx
      exact ⟨cv o, fun w' hk => run_loadAt_one ht (hk.cell (hc o ho))⟩
  | some m =>
    simp only [ldC] at hp
    refine ⟨.agg ((List.range m).map fun j => cv (o + j)).toArray, fun w' hk => ?_⟩
    refine run_loadAt_agg ht (by simp) (fun j hj => ?_)
    rw [Nat.add_assoc, hk.cell (hc (o + j) (by omega))]
    simp [List.getD, hj]

theorem ld_same {t : TypeId} {n : Option Nat} (ht : shapeOf P t = some n) (R : HR w S ι H) {v : Value} {x : AV} (hx : VL w S ι H v x) (hp : (ldF H.bx n x).p) :
    ∃ u, ∀ w', keeps w w' → (Instr.loadAt t v).run P w' = .ok u w' := by
  cases x <;> simp only [ldF] at hp <;> try exact hp.elim
  case ptr l o =>
    obtain ⟨rfl, hl⟩ := hx.ptr_inv
    cases hb : H.bx l with
    | none => exact absurd hb hl
    | some cs =>
      simp only [hb] at hp
      obtain ⟨cv, h1, h2⟩ := bx_cells R hb
      have := ld_cells_same (P := P) ht (b := ι.bx l) (o0 := 0) cv (fun j hj => by rw [Nat.zero_add]; exact h1 j hj) hp
      simpa using this
  case rptr row =>
    cases hx with
    | rptr cv hS hc hr => exact ld_cells_same (P := P) ht (o := 0) (cells := row.map .d) cv (by simpa using hc) hp
  case optr t' sz i j row =>
    cases hx with
    | optr h hι hi hsz cv hc hr => exact ld_cells_same (P := P) ht (o := j) (cells := row.map .d) cv (by simpa [hsz] using hc) hp

theorem slim_ld {o : Oper} {n : Option Nat} {x : SA} (hs : slimOp P o = some (.ld n x)) : ∃ t a, o.op = .load t a ∧ shapeOf P t = some n ∧ slimArg P o.type a = some x := by
  obtain ⟨dst, oop, type, pos, after, guard⟩ := o
  cases oop <;> simp only [slimOp, Option.bind_eq_bind, Option.pure_def] at hs
  case load t a =>
    obtain ⟨n', hn, hs⟩ := bind_some hs
    obtain ⟨x', hx, hs⟩ := bind_some hs
    simp at hs
    obtain ⟨rfl, rfl⟩ := hs
    exact ⟨t, a, rfl, hn, hx⟩
  all_goals (exfalso; repeat' (first | (cases hs; done) | split at hs | (obtain ⟨_, _, hs'⟩ := map_some hs; cases hs'; done) | (obtain ⟨_, _, hs⟩ := bind_some hs)))

theorem slim_chk {o : Oper} {x : SA} {y : Operand} (hs : slimOp P o = some (.chk x)) (hy : o.op = .nilCheck y) : slimArg P o.type y = some x := by
  obtain ⟨dst, oop, type, pos, after, guard⟩ := o
  simp only at hy; subst hy
  simp only [slimOp] at hs
  obtain ⟨x', hx, hs⟩ := map_some hs
  cases hs
  exact hx

/-- An operation that comes first gives the same in all worlds that may come before its turn. -/
theorem same_op {o : Oper} {op : SOp} {a : Act} {st : St} {d : Nat} {v : Value} (hs : slimOp P o = some op) (hc : op.scal = true ∨ op.free = true ∨ op.isLd = true)
    (R : HR w S ι st.H) (V : SL w S ι st.H a st.s) (hp : (qf st d op).p) (hrun : (execOp a.eval o).run P w = .ok (.value v) w) (hv : VL w S ι st.H v (qf st d op).v) (hal : (qf st d op).al = .no) :
    ∃ ρ : World → Prop, ρ w ∧ (∀ w', ρ w' → (execOp a.eval o).run P w' = .ok (.value v) w') ∧ ((∀ w', ρ w') ∨ (op.isLd = true ∧ ∀ w1 w2, ρ w1 → keeps w1 w2 → ρ w2)) := by
  rcases hc with hc | hc | hc
  · refine ⟨fun _ => True, trivial, fun w' _ => ?_, .inl fun _ => trivial⟩
    obtain ⟨h1, h2⟩ := scal_qf (d := d) hc hp
    have R' : HR w' (fun _ => False) ⟨fun _ => 0, fun _ => none⟩ st.scal.H :=
      { stable := fun _ h => h.elim, boxes := fun _ _ h => by simp [St.scal] at h, rows := fun _ _ _ h => by simp [St.scal] at h, injB := fun _ _ h => absurd rfl h, injT := fun _ _ _ _ _ h => absurd rfl h, injBT := fun _ _ _ _ h => absurd rfl h }
    have V' : SL w' (fun _ => False) ⟨fun _ => 0, fun _ => none⟩ st.scal.H a st.scal.s := fun i => scal_vl (V i)
    obtain ⟨v', hrun', hv'⟩ := quiet0 (d := d) hs R' V' (by rw [h1]; exact hp) (by rw [h1]; exact hal)
    rw [h1] at hv'
    rw [whole_eq h2 hv hv']
    exact hrun'
  · refine ⟨fun _ => True, trivial, fun w' _ => ?_, .inl fun _ => trivial⟩
    refine free_op hs hc (fun x hx y hy n p q e => ?_) w _ w hrun w'
    subst hx
    have hvl := arg_vl (slim_chk hs hy) V
    rw [e] at hvl
    simp only [qf] at hp
    split at hp
    all_goals first
      | (rename_i h; rw [h] at hvl; cases hvl; done)
      | exact hp.elim
  · cases op <;> simp only [SOp.isLd, Bool.false_eq_true] at hc
    rename_i n x
    obtain ⟨t, y, ho, hsh, hx⟩ := slim_ld hs
    refine ⟨keeps w, keeps.refl w, ?_, .inr ⟨rfl, fun w1 w2 h1 h2 => h1.trans h2⟩⟩
    simp only [qf] at hp
    obtain ⟨u, hu⟩ := ld_same (P := P) hsh R (arg_vl hx V) hp
    obtain ⟨dst, oop, type, pos, after, guard⟩ := o
    simp only at ho; subst ho
    have hall : ∀ w', keeps w w' → (execOp a.eval ⟨dst, .load t y, type, pos, after, guard⟩).run P w' = .ok (.value u) w' := fun w' hk => by simp [execOp, hu w' hk]
    have := hall w (keeps.refl w)
    rw [hrun] at this
    simp only [Result.ok.injEq, Next.value.injEq, and_true] at this
    subst this
    exact hall

theorem quiet_of {op : SOp} (hc : op.scal = true ∨ op.free = true ∨ op.isLd = true) : op.quiet = true ∧ op.makes = false := by
  cases op <;> simp_all [SOp.scal, SOp.free, SOp.quiet, SOp.makes, SOp.isLd]

theorem first_ok {i : Nat} {o : Oper} {so : SO} {a : Act} {st : St} {K : St → Prop} (hs : slimOper P N ops o = some so) (ho : ops[i]? = some o) (hd : so.d.isSome = true)
    (hc : so.op.scal = true ∨ so.op.free = true ∨ so.op.isLd = true) (Rp : Rep N w0 S0 ι0 H0 w S ι st a) (h : run1 P loud so K st) :
    ∃ v st' ρ, YieldsIn P ops o v ρ a ∧ ρ w ∧ ((∀ w', ρ w') ∨ (so.op.isLd = true ∧ ∀ w1 w2, ρ w1 → keeps w1 w2 → ρ w2)) ∧ K st' ∧ Rep N w0 S0 ι0 H0 w S ι st' (a.put o.dst v) := by
  obtain ⟨op, hop, hlt, hs⟩ := slimOper_inv hs
  have main : so.op = op → so.d = o.dst → Region.wanted o (yielded ops a.tmps) = true → ef P loud st o.dst K op →
      ∃ v st' ρ, YieldsIn P ops o v ρ a ∧ ρ w ∧ ((∀ w', ρ w') ∨ (so.op.isLd = true ∧ ∀ w1 w2, ρ w1 → keeps w1 w2 → ρ w2)) ∧ K st' ∧ Rep N w0 S0 ι0 H0 w S ι st' (a.put o.dst v) := by
    intro e1 e2 hw hef
    rw [e1] at hc ⊢
    obtain ⟨hq, hm⟩ := quiet_of hc
    have hop : slimOp P o = some op := hop.resolve_right (fun e => by subst e; simp [SOp.quiet] at hq)
    obtain ⟨k, hk⟩ := Option.isSome_iff_exists.1 (e2 ▸ hd)
    have hl := ef_quiet hef hq
    rw [hk] at hl
    simp only [Option.getD_some, landP] at hl
    have hal := qf_al (d := k) hm hl.1
    obtain ⟨v, hrun, hv⟩ := quiet0 (d := k) hop Rp.hr Rp.sl hl.1 hal
    obtain ⟨ρ, h1, h2, h3⟩ := same_op (d := k) hop hc Rp.hr Rp.sl hl.1 hrun hv hal
    refine ⟨v, _, ρ, .inl ⟨hw, h2⟩, h1, h3, hl.2, ?_⟩
    rw [hal, putA_no, ← hk]
    exact Rp.go hlt (step_put Rp.hr rfl _ _) (tell_put hv)
  rcases hs with ⟨hg, rfl⟩ | ⟨j, b, t, hg, ht, rfl⟩
  · exact main rfl rfl (by simp [Region.wanted, hg]) h
  · simp only [run1] at h
    rcases grd_cases h with ⟨c, hcb, h⟩ | ⟨vs, hc', h⟩
    · skip
      have hv : a.tmps.getD t undef = .bool c := by
        have := Rp.sl t
        rw [hcb] at this; exact this.bool_inv
      have hlt' : t < a.tmps.size := by
        rcases Nat.lt_or_ge t a.tmps.size with h' | h'
        · exact h'
        · simp [Array.getD_eq_getD_getElem?, Array.getElem?_eq_none h', undef] at hv
      have hget : a.tmps[t]? = some (.bool c) := by
        rw [← hv]; simp [Array.getD_eq_getD_getElem?, hlt']
      have hy : yielded ops a.tmps j = some c := by simp [yielded, ht, hget]
      have hwant : Region.wanted o (yielded ops a.tmps) = (c == b) := by simp [Region.wanted, hg, hy]
      by_cases hcb' : c = b
      · exact main rfl rfl (by rw [hwant]; simp [hcb']) (h.1 hcb')
      · have hc' : c = !b := by
          clear hd hc hwant hy hget hv hcb
          revert hcb'
          cases c <;> cases b <;> decide
        refine ⟨undef, _, fun _ => True, .inr ⟨by rw [hwant]; exact beq_eq_false_iff_ne.2 hcb', rfl⟩, trivial, .inl fun _ => trivial, h.2 hc', Rp.go hlt (step_put Rp.hr rfl _ _) (tell_put undef_vl)⟩
    · have hv := Rp.sl t
      rw [hc'] at hv
      have hy : yielded ops a.tmps j = none := by
        have : ∀ c, a.tmps[t]? ≠ some (.bool c) := fun c e => by
          have e2 : a.tmps.getD t undef = .bool c := by simp [Array.getD_eq_getD_getElem?, e]
          rw [e2] at hv; cases hv
        cases e : a.tmps[t]? with
        | none => simp [yielded, ht, e]
        | some u =>
          cases u <;> first | exact absurd e (this _) | simp [yielded, ht, e]
      exact ⟨undef, _, fun _ => True, .inr ⟨by simp [Region.wanted, hg, hy], rfl⟩, trivial, .inl fun _ => trivial, h, Rp.go hlt (step_put Rp.hr rfl _ _) (tell_put undef_vl)⟩

theorem runT_all {K : St → Prop} {st : St} : ∀ (l : List DT) (t : DT), runT P loud (l.foldl .both t) K st → runT P loud t K st ∧ ∀ x ∈ l, runT P loud x K st
  | [], t, h => ⟨h, by simp⟩
  | x :: l, t, h => by
    obtain ⟨h1, h2⟩ := runT_all l (.both t x) h
    refine ⟨h1.1, fun y hy => ?_⟩
    rcases List.mem_cons.1 hy with rfl | hy
    · exact h1.2
    · exact h2 y hy

theorem tree_ok {so : List SO} {K : St → Prop} (hso : ops.toList.mapM (slimOper P N ops) = some so) (hns : Region.noSelect ops = true) (hQ : ∀ st a w S ι, K st → Rep N w0 S0 ι0 H0 w S ι st a → Q .normal a w)
    (hQp : ∀ c a w, ¬ Q (.panic c) a w) : ∀ (fuel : Nat) (listed : Array Bool) (t : DT) (st : St) (a : Act) (w : World) (S : Nat → Prop) (ι : Io), tree loud ops so fuel listed = some t → runT P loud t K st →
      Rep N w0 S0 ι0 H0 w S ι st a → wpAnyK P ops (fun i => match so[i]? with | some s => !s.op.writes loud | none => false) Q fuel listed a w := by
  obtain ⟨g1, g2⟩ := mapM_get hso
  have hget : ∀ (i : Nat) (s : SO), so[i]? = some s → ∃ o, ops[i]? = some o ∧ slimOper P N ops o = some s := by
    intro i s h
    obtain ⟨hi, rfl⟩ := getElem?_lt h
    have hi' : i < ops.size := by simp at g1; omega
    exact ⟨ops[i], by simp [hi'], by have := g2 i (by simpa using hi') hi; simpa using this⟩
  intro fuel
  induction fuel with
  | zero =>
    intro listed t st a w S ι ht h Rp
    simp only [tree] at ht
    split at ht
    · rename_i hr
      cases ht
      exact ⟨hr, hQ _ _ _ _ _ h Rp⟩
    · cases ht
  | succ n ih =>
    intro listed t st a w S ι ht h Rp
    simp only [tree, Option.bind_eq_bind, Option.pure_def] at ht
    split at ht
    · rename_i i hfind
      obtain ⟨s, hs, ht⟩ := bind_some ht
      obtain ⟨t', ht', ht⟩ := bind_some ht
      cases ht
      obtain ⟨o, ho, hso'⟩ := hget i s hs
      have hcan := List.find?_some hfind
      have hmem := List.mem_of_find?_eq_some hfind
      simp only [canFirst, hs, Bool.and_eq_true, Bool.or_eq_true] at hcan
      obtain ⟨⟨hd, hcl⟩, hfree⟩ := hcan
      have hc : s.op.scal = true ∨ s.op.free = true ∨ s.op.isLd = true := by
        rcases hcl with (h1 | h1) | h1
        · exact .inl h1
        · exact .inr (.inl h1)
        · exact .inr (.inr h1.1)
      obtain ⟨v, st', ρ, hy, hρ, hρ2, hK, Rp'⟩ := first_ok hso' ho hd hc Rp h
      by_cases hld : s.op.isLd = true
      · have hcalm : calm loud ops so listed i = true := by
          rcases hcl with (h1 | h1) | h1
          · exfalso; cases hop : s.op <;> simp [hop, SOp.scal, SOp.isLd] at h1 hld
          · exfalso; cases hop : s.op <;> simp [hop, SOp.free, SOp.isLd] at h1 hld
          · exact h1.2
        simp only [calm, Bool.and_eq_true, List.all_eq_true, List.mem_range] at hcalm
        obtain ⟨c1, c2⟩ := hcalm
        refine wpAnyK_first ho (Region.noSelect_spec hns) hQp (fun j => (deps ops listed i).contains j) (fun j hj => ?_) n listed a w ρ (Region.free_spec ho hfree) hmem hy hρ ?_ (ih _ _ _ _ _ _ _ ht' hK Rp')
        · have := (c1 j (by simpa using hj)).2
          split at this
          · rename_i oj hoj
            obtain ⟨e, he, hb⟩ := Array.any_eq_true'.1 this
            simp only [Bool.and_eq_true, Bool.or_eq_true, beq_iff_eq] at hb
            exact ⟨oj, hoj, e, he, hb.1, hb.2⟩
          · cases this
        · refine .inr ⟨fun j hj => ?_, fun j hji hlt hun => ?_, ?_⟩
          · have := (c1 j (by simpa using hj)).1
            simpa using this
          · have hlt' : j < so.length := by simp at g1; omega
            have := c2 j hlt'
            simp only [Bool.or_eq_true, beq_iff_eq, hji, false_or, hun, Bool.false_eq_true] at this
            exact this
          · rcases hρ2 with h1 | ⟨_, h2⟩
            · exact fun _ w2 _ _ => h1 w2
            · exact h2
      · refine wpAnyK_first ho (Region.noSelect_spec hns) hQp (fun _ => false) (fun _ h => by cases h) n listed a w ρ (Region.free_spec ho hfree) hmem hy hρ ?_ (ih _ _ _ _ _ _ _ ht' hK Rp')
        rcases hρ2 with h1 | ⟨h1, _⟩
        · exact .inl h1
        · exact absurd h1 hld
    · obtain ⟨ts, hts, ht⟩ := bind_some ht
      obtain ⟨k1, k2⟩ := mapM_get hts
      refine ⟨fun hr => ?_, fun i hi => ?_⟩
      · have : ts = [] := List.length_eq_zero_iff.1 (by rw [k1, hr]; rfl)
        subst this
        cases ht
        exact hQ _ _ _ _ _ h Rp
      · obtain ⟨q, hq, rfl⟩ := List.mem_iff_getElem.1 hi
        have hq' : q < ts.length := by omega
        have hti := k2 q hq hq'
        obtain ⟨s, hs, hti⟩ := bind_some hti
        obtain ⟨t', ht', hti⟩ := bind_some hti
        simp only [Option.some.injEq] at hti
        have hrun : runT P loud (.op s t') K st := by
          rw [hti]
          cases ts with
          | nil => simp at hq'
          | cons x r =>
            simp only [Option.some.injEq] at ht
            subst ht
            obtain ⟨a1, a2⟩ := runT_all r x h
            rcases List.mem_cons.1 (List.getElem_mem hq') with e | e
            · rw [e]; exact a1
            · exact a2 _ e
        obtain ⟨o, ho, hso'⟩ := hget _ s hs
        refine run1_ok hso' ho Rp hrun fun st' a' w' S' ι' hK' Rp' hw hsz => ⟨fun hcl => ⟨hsz, hw ?_⟩, ih _ _ _ _ _ _ _ ht' hK' Rp'⟩
        simpa [hs] using hcl

theorem drawn_rep {st : St} {a : Act} (Rp : Rep N w0 S0 ι0 H0 w S ι st a) : Rep N w0 S0 ι0 H0 { w with drawn := w.drawn + 1 } S ι st a := by
  have E : Ext w S ι st.H { w with drawn := w.drawn + 1 } S ι st.H :=
    { st := fun _ h => h, keep := fun _ _ => rfl, bx := fun l h => ⟨h, rfl⟩, tg := fun t sz n h => ⟨rfl, n, Nat.le_refl _, h⟩, row := fun t sz n b base _ _ cs T fz hb => ⟨cs, T, fz, hb, Nat.le_refl _, fun _ _ => rfl⟩ }
  refine { hr := ?_, sl := fun i => (Rp.sl i).ext E Rp.hr, size := Rp.size, defers := Rp.defers, fr := ?_, par := Rp.par }
  · exact { stable := Rp.hr.stable, boxes := fun l c h => by
              obtain ⟨cs, T, h1, h2, h3⟩ := Rp.hr.boxes l c h
              exact ⟨cs, T, h1, h2, fun j hj => (h3 j hj).ext E Rp.hr⟩,
            rows := fun t sz n h => by
              obtain ⟨h1, h2⟩ := Rp.hr.rows t sz n h
              refine ⟨fun b base hι => ?_, h2⟩
              obtain ⟨c, T0, lo, hi, q⟩ := (h1 b base hι).blk
              exact ⟨c, T0, lo, hi, q⟩,
            injB := Rp.hr.injB, injT := Rp.hr.injT, injBT := Rp.hr.injBT }
  · exact { os := Rp.fr.os, tape := Rp.fr.tape, output := Rp.fr.output, size := Rp.fr.size, keep := Rp.fr.keep, st := Rp.fr.st, new := Rp.fr.new, par := Rp.fr.par }

theorem regionD_ok {id : Nat} {so : List SO} {t : DT} {st : St} {a : Act} {K : St → Prop} (hm : P.follows .mixedOrders = true) (hso : ops.toList.mapM (slimOper P N ops) = some so) (hns : Region.noSelect ops = true)
    (ht : tree loud ops so ops.size (Array.replicate ops.size false) = some t) (h : runT P loud t K st) (Rp : Rep N w0 S0 ι0 H0 w S ι st a)
    (hQ : ∀ st a w S ι, K st → Rep N w0 S0 ι0 H0 w S ι st a → Q .normal a w) (hQp : ∀ c a w, ¬ Q (.panic c) a w) : (Code.region id ops true).wp P Q a w :=
  wp_region_any hm (wpAny_of_K _ _ _ _ (tree_ok hso hns hQ hQp _ _ _ _ _ _ _ _ ht h (drawn_rep Rp)))

end
end Go.Proofs.YtchmoleeajkioaaDoor.V
