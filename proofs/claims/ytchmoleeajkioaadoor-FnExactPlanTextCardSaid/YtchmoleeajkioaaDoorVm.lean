/-
  THE LOGIC V, PART m: regions.
-/
import Derived.Test.YtchmoleeajkioaaDoorVl
namespace Go.Proofs.YtchmoleeajkioaaDoor.V
open Go Go.RowKit
set_option linter.unusedSimpArgs false
set_option linter.unusedVariables false

section
variable {P : Program} {w : World} {S : Nat → Prop} {ι : Io} {loud : Nat → Bool} {N : Nat} {w0 : World} {S0 : Nat → Prop} {ι0 : Io} {H0 : Hp} {ops : Array Oper} {Q : Exit → Act → World → Prop}

theorem slimOper_inv {o : Oper} {so : SO} (hs : slimOper P N ops o = some so) : ∃ op, (slimOp P o = some op ∨ op = .bad) ∧ (∀ k, o.dst = some k → k < N) ∧
    ((o.guard = none ∧ so = ⟨o.dst, none, op⟩) ∨ ∃ j b t, o.guard = some (j, b) ∧ (ops[j]?).bind (·.dst) = some t ∧ so = ⟨o.dst, some (t, b), op⟩) := by
  simp only [slimOper, Option.bind_eq_bind, Option.pure_def] at hs
  have hop : slimOp P o = some ((slimOp P o).getD .bad) ∨ (slimOp P o).getD .bad = .bad := by
    cases slimOp P o with
    | none => exact .inr rfl
    | some op => exact .inl rfl
  generalize (slimOp P o).getD .bad = op at hs hop
  have key : ∀ d : Option Nat, d = o.dst → ((some d).bind fun d => match o.guard with
      | none => some (⟨d, none, op⟩ : SO)
      | some (j, b) => match (ops[j]?).bind (·.dst) with
        | some t => some ⟨d, some (t, b), op⟩
        | none => none) = some so → ((o.guard = none ∧ so = ⟨o.dst, none, op⟩) ∨ ∃ j b t, o.guard = some (j, b) ∧ (ops[j]?).bind (·.dst) = some t ∧ so = ⟨o.dst, some (t, b), op⟩) := by
    intro d hd h
    subst hd
    simp only [Option.bind_some] at h
    split at h
    · rename_i hg
      simp at h
      exact .inl ⟨hg, h.symm⟩
    · rename_i j b hg
      split at h
      · rename_i t ht
        simp at h
        exact .inr ⟨j, b, t, hg, ht, h.symm⟩
      · cases h
  split at hs
  · rename_i h0
    exact ⟨op, hop, (fun k hk => by rw [h0] at hk; cases hk), key _ h0.symm hs⟩
  · rename_i k h0
    split at hs
    · rename_i hlt
      exact ⟨op, hop, (fun j hj => by rw [h0] at hj; cases hj; exact hlt), key _ h0.symm hs⟩
    · cases hs

theorem undef_vl {H : Hp} : VL w S ι H undef (.tup []) := .tup (vs := []) rfl (fun j hj => by simp at hj)

theorem ef_ok' {ops : Array Oper} {o : Oper} {op : SOp} {a : Act} {st : St} {K : St → Prop} (hs : slimOp P o = some op ∨ op = .bad) (hd : ∀ k, o.dst = some k → k < N) (Rp : Rep N w0 S0 ι0 H0 w S ι st a) (h : ef P loud st o.dst K op)
    {K' : Act → World → Prop} {Q : Exit → Act → World → Prop}
    (hK : ∀ st' a' w' S' ι', K st' → Rep N w0 S0 ι0 H0 w' S' ι' st' a' → (op.writes loud = false → ∀ b, b < w.heap.size → w'.heap[b]? = w.heap[b]?) → w.heap.size ≤ w'.heap.size → K' a' w') : o.wp P a w K' Q := by
  rcases hs with hs | rfl
  · exact ef_ok (ops := ops) hs hd Rp h hK
  · exact h.elim

theorem run1_ok {i : Nat} {o : Oper} {so : SO} {a : Act} {st : St} {K : St → Prop} (hs : slimOper P N ops o = some so) (ho : ops[i]? = some o) (Rp : Rep N w0 S0 ι0 H0 w S ι st a) (h : run1 P loud so K st)
    {K' : Act → World → Prop}
    (hK : ∀ st' a' w' S' ι', K st' → Rep N w0 S0 ι0 H0 w' S' ι' st' a' → (so.op.writes loud = false → ∀ b, b < w.heap.size → w'.heap[b]? = w.heap[b]?) → w.heap.size ≤ w'.heap.size → K' a' w') : wpOp P ops Q i K' a w := by
  unfold wpOp
  simp only [ho]
  obtain ⟨op, hop, hlt, hs⟩ := slimOper_inv hs
  rcases hs with ⟨hg, rfl⟩ | ⟨j, b, t, hg, ht, rfl⟩
  · have hw : Region.wanted o (yielded ops a.tmps) = true := by simp [Region.wanted, hg]
    rw [if_pos hw]
    exact .inl (ef_ok' (ops := ops) hop hlt Rp h hK)
  · skip
    · skip
      simp only [run1] at h
      rcases grd_cases h with ⟨c, hc, h⟩ | ⟨vs, hc, h⟩
      · skip
        have hv : a.tmps.getD t undef = .bool c := by
          have := Rp.sl t
          rw [hc] at this; exact this.bool_inv
        have hlt' : t < a.tmps.size := by
          rcases Nat.lt_or_ge t a.tmps.size with h' | h'
          · exact h'
          · simp [Array.getD_eq_getD_getElem?, Array.getElem?_eq_none h', undef] at hv
        have hget : a.tmps[t]? = some (.bool c) := by
          rw [← hv]; simp [Array.getD_eq_getD_getElem?, hlt']
        have hy : yielded ops a.tmps j = some c := by simp [yielded, ht, hget]
        have hwant : Region.wanted o (yielded ops a.tmps) = (c == b) := by simp [Region.wanted, hg, hy]
        by_cases hcb : c = b
        · have : Region.wanted o (yielded ops a.tmps) = true := by rw [hwant]; simp [hcb]
          rw [if_pos this]
          exact .inl (ef_ok' (ops := ops) hop hlt Rp (h.1 hcb) hK)
        · have : ¬ Region.wanted o (yielded ops a.tmps) = true := by rw [hwant]; simp [hcb]
          rw [if_neg this]
          have hc' : c = !b := by cases c <;> cases b <;> simp_all
          exact hK _ _ w S ι (h.2 hc') (Rp.go hlt (step_put Rp.hr rfl _ _) (tell_put undef_vl)) (fun _ _ _ => rfl) (Nat.le_refl _)
      · have hv := Rp.sl t
        rw [hc] at hv
        have hy : yielded ops a.tmps j = none := by
          have : ∀ c, a.tmps[t]? ≠ some (.bool c) := fun c e => by
            have e2 : a.tmps.getD t undef = .bool c := by simp [Array.getD_eq_getD_getElem?, e]
            rw [e2] at hv; cases hv
          cases e : a.tmps[t]? with
          | none => simp [yielded, ht, e]
          | some u =>
            cases u <;> first | exact absurd e (this _) | simp [yielded, ht, e]
        have : ¬ Region.wanted o (yielded ops a.tmps) = true := by simp [Region.wanted, hg, hy]
        rw [if_neg this]
        exact hK _ _ w S ι h (Rp.go hlt (step_put Rp.hr rfl _ _) (tell_put undef_vl)) (fun _ _ _ => rfl) (Nat.le_refl _)

/-- Operations one after the other. -/
theorem ops_ok {K : St → Prop} (hQ : ∀ st a w S ι, K st → Rep N w0 S0 ι0 H0 w S ι st a → Q .normal a w) : ∀ (l : List Nat) (sos : List SO), l.length = sos.length → (∀ k (h : k < l.length) (h' : k < sos.length), ∃ o, ops[l[k]]? = some o ∧ slimOper P N ops o = some (sos[k])) →
    ∀ (st : St) (a : Act) (w : World) (S : Nat → Prop) (ι : Io), runs P loud sos K st → Rep N w0 S0 ι0 H0 w S ι st a → wpOps P ops Q l a w := by
  intro l
  induction l with
  | nil =>
    intro sos hl hk st a w S ι h Rp
    have : sos = [] := List.length_eq_zero_iff.1 (by simpa using hl.symm)
    subst this
    exact hQ st a w S ι h Rp
  | cons i l ih =>
    intro sos hl hk st a w S ι h Rp
    cases sos with
    | nil => simp at hl
    | cons so sos =>
      rw [wpOps_cons]
      obtain ⟨o, ho, hs⟩ := hk 0 (by simp) (by simp)
      exact run1_ok hs ho Rp h fun st' a' w' S' ι' hK' Rp' _ _ => ih sos (by simpa using hl) (fun k h h' => by have := hk (k + 1) (by simpa using h) (by simpa using h'); simpa using this) st' a' w' S' ι' hK' Rp'

theorem region_ok {id : Nat} {so : List SO} {st : St} {a : Act} {K : St → Prop} (hso : ops.toList.mapM (slimOper P N ops) = some so) (h : runs P loud so K st) (Rp : Rep N w0 S0 ι0 H0 w S ι st a)
    (hQ : ∀ st a w S ι, K st → Rep N w0 S0 ι0 H0 w S ι st a → Q .normal a w) : (Code.region id ops false).wp P Q a w := by
  obtain ⟨h1, h2⟩ := mapM_get hso
  refine wp_region (ops_ok hQ (List.range ops.size) so (by simp at h1 ⊢; omega) (fun k hk hk' => ?_) st a w S ι h Rp)
  have hk0 : k < ops.size := by simpa using hk
  refine ⟨ops[k], by simp [hk0], ?_⟩
  have := h2 k (by simpa using hk0) hk'
  simpa using this

/-! ### Orders that are drawn -/

def keeps (w w' : World) : Prop := w.heap.size ≤ w'.heap.size ∧ ∀ b, b < w.heap.size → w'.heap[b]? = w.heap[b]?

theorem keeps.refl (w : World) : keeps w w := ⟨Nat.le_refl _, fun _ _ => rfl⟩
theorem keeps.trans {w1 w2 : World} (h1 : keeps w w1) (h2 : keeps w1 w2) : keeps w w2 := ⟨Nat.le_trans h1.1 h2.1, fun b hb => by rw [h2.2 b (Nat.lt_of_lt_of_le hb h1.1), h1.2 b hb]⟩

/-- As 'wpAny'; and at what does not write ('q') what was there stays. -/
def wpAnyK (P : Program) (ops : Array Oper) (q : Nat → Bool) (Q : Exit → Act → World → Prop) : Nat → Array Bool → Act → World → Prop
  | 0, listed, a, w => Region.ready .any ops listed = [] ∧ Q .normal a w
  | fuel + 1, listed, a, w =>
    (Region.ready .any ops listed = [] → Q .normal a w) ∧
    ∀ i ∈ Region.ready .any ops listed, wpOp P ops Q i (fun a' w' => (q i = true → keeps w w') ∧ wpAnyK P ops q Q fuel (listed.setIfInBounds i true) a' w') a w

theorem wpAny_of_K {q : Nat → Bool} : ∀ (fuel : Nat) (listed : Array Bool) (a : Act) (w : World), wpAnyK P ops q Q fuel listed a w → wpAny P .any ops Q fuel listed a w
  | 0, _, _, _, h => h
  | fuel + 1, listed, a, w, h => ⟨h.1, fun i hi => wpOp_mono (fun a' w' h' => wpAny_of_K fuel _ a' w' h'.2) (h.2 i hi)⟩

/-- In a world of these it gives v. -/
def YieldsIn (P : Program) (ops : Array Oper) (o : Oper) (v : Value) (ρ : World → Prop) (a : Act) : Prop :=
  (Region.wanted o (yielded ops a.tmps) = true ∧ ∀ w, ρ w → (execOp a.eval o).run P w = .ok (.value v) w) ∨
  (Region.wanted o (yielded ops a.tmps) = false ∧ v = undef)

theorem YieldsIn.wpOp {i : Nat} {o : Oper} {v : Value} {a : Act} {ρ : World → Prop} (hi : ops[i]? = some o) (hy : YieldsIn P ops o v ρ a) {K : Act → World → Prop} {w : World} (hw : ρ w) (h : K (a.put o.dst v) w) : Go.wpOp P ops Q i K a w := by
  unfold Go.wpOp
  simp only [hi]
  rcases hy with ⟨hwt, hv⟩ | ⟨hwt, rfl⟩
  · simp only [hwt, if_true, Oper.wp, hv w hw, Oper.upon]; exact .inl h
  · simp only [hwt, Bool.false_eq_true, if_false]; exact h

theorem YieldsIn.of_same {o : Oper} {v : Value} {a a' : Act} {ρ : World → Prop} (hy : YieldsIn P ops o v ρ a) (he : execOp a'.eval o = execOp a.eval o)
    (hw : Region.wanted o (yielded ops a'.tmps) = Region.wanted o (yielded ops a.tmps)) : YieldsIn P ops o v ρ a' := by
  unfold YieldsIn at *
  rw [he, hw]
  exact hy

theorem YieldsIn.sub {o : Oper} {v : Value} {a : Act} {ρ ρ' : World → Prop} (hy : YieldsIn P ops o v ρ a) (h : ∀ w, ρ' w → ρ w) : YieldsIn P ops o v ρ' a :=
  hy.imp (fun ⟨h1, h2⟩ => ⟨h1, fun w hw => h2 w (h w hw)⟩) id

/-- What comes before an operation that has nothing to do with it may come behind it. -/
theorem wpOp_put' {j : Nat} {oi oj : Oper} {v : Value} {ρ : World → Prop} (hj : ops[j]? = some oj) (hap : oi.apart ops oj = true)
    (hsi : ∀ cs b, oi.op ≠ .select cs b) (hsj : ∀ cs b, oj.op ≠ .select cs b)
    (hQ : ∀ c a w, ¬ Q (.panic c) a w) {K : Act → World → Prop} {a : Act} {w : World}
    (hy : YieldsIn P ops oi v ρ a) (h : wpOp P ops Q j K (a.put oi.dst v) w) :
    wpOp P ops Q j (fun a' w' => YieldsIn P ops oi v ρ a' ∧ K (a'.put oi.dst v) w') a w := by
  obtain ⟨h1, h2, h3⟩ := Oper.apart_spec hap
  have keep : ∀ (a : Act), YieldsIn P ops oi v ρ a → ∀ u, YieldsIn P ops oi v ρ (a.put oj.dst u) := fun a hy u =>
    hy.of_same (execOp_put oi hsi a oj.dst u h3) (wanted_put oi a oj.dst u h3)
  have keepD : ∀ d, YieldsIn P ops oi v ρ { a with defers := d :: a.defers } := fun d => hy.of_same rfl rfl
  unfold wpOp at *
  simp only [hj] at *
  rw [wanted_put oj a oi.dst v h1] at h
  split
  · rename_i hw
    simp only [hw, if_true] at h
    rcases h with h | ⟨hasks, hlets⟩
    case inr => exact .inr ⟨by unfold Oper.asks at *; rw [execOp_put oj hsj a oi.dst v h1] at hasks; exact hasks, hlets⟩
    refine .inl ?_
    unfold Oper.wp at *
    rw [execOp_put oj hsj a oi.dst v h1] at h
    generalize (execOp a.eval oj).run P w = r at *
    cases r with
    | ok n w' =>
      cases n <;> simp only [Oper.upon] at h ⊢
      case value u => exact ⟨keep a hy u, by rw [← Act.put_comm a v u h2]; exact h⟩
      case skip => exact ⟨keep a hy _, by rw [← Act.put_comm a v undef h2]; exact h⟩
      case defer d =>
        refine ⟨keep _ (keepD d) _, ?_⟩
        rw [← Act.put_comm _ v undef h2, ← Act.put_defers]
        exact h
      case enter f args =>
        refine Calls.mono h fun e w'' he => ?_
        cases e with
        | returned u => exact ⟨keep a hy u, by rw [← Act.put_comm a v u h2]; exact he⟩
        | panicked c => exact absurd he (hQ _ _ _)
        | outgrown => exact he
      case row row args => exact Rows.mono h fun u w'' he => ⟨keep a hy u, by rw [← Act.put_comm a v u h2]; exact he⟩
    | halt x w' =>
      cases x <;> simp only [Oper.upon] at h ⊢
      case panic u => exact absurd h (hQ _ _ _)
  · rename_i hw
    simp only [hw] at h
    exact ⟨keep a hy _, by rw [← Act.put_comm a v undef h2]; exact h⟩

theorem getD_ft {listed : Array Bool} {i : Nat} (h : listed.getD i true = false) : listed.getD i false = false := by
  rcases Nat.lt_or_ge i listed.size with h' | h'
  · simp [h'] at h ⊢; exact h
  · simp [Array.getElem?_eq_none h'] at h

/-- An operation that could come now may come now: its value is the same in all worlds that may come before its turn. 'D': those that wait for it. -/
theorem wpAnyK_first {q : Nat → Bool} {i : Nat} {oi : Oper} {v : Value} (hi : ops[i]? = some oi)
    (hsel : ∀ (j : Nat) (o : Oper) cs b, ops[j]? = some o → o.op ≠ .select cs b) (hQ : ∀ c a w, ¬ Q (.panic c) a w) (D : Nat → Bool)
    (hD : ∀ j, D j = true → ∃ oj, ops[j]? = some oj ∧ ∃ e ∈ oj.after, Region.binds .any e = true ∧ (e.on = i ∨ D e.on = true)) :
    ∀ (fuel : Nat) (listed : Array Bool) (a : Act) (w : World) (ρ : World → Prop),
      (∀ j oj, ops[j]? = some oj → j ≠ i → listed.getD j true = false → (∀ e ∈ oj.after, Region.binds .any e = true → e.on ≠ i) → oi.apart ops oj = true) →
      i ∈ Region.ready .any ops listed → YieldsIn P ops oi v ρ a → ρ w →
      ((∀ w', ρ w') ∨ ((∀ j, D j = true → listed.getD j true = false) ∧ (∀ j, j ≠ i → j < ops.size → listed.getD j true = false → D j = true ∨ q j = true) ∧ ∀ w1 w2, ρ w1 → keeps w1 w2 → ρ w2)) →
      wpAnyK P ops q Q fuel (listed.setIfInBounds i true) (a.put oi.dst v) w → wpAnyK P ops q Q (fuel + 1) listed a w := by
  intro fuel
  induction fuel with
  | zero =>
    intro listed a w ρ _ hr hy hw hρ H
    refine ⟨fun h => (by rw [h] at hr; cases hr), fun j hj => ?_⟩
    by_cases hji : j = i
    · subst hji; exact hy.wpOp hi hw ⟨fun _ => keeps.refl _, H⟩
    · have := ready_mono hj hji
      rw [H.1] at this
      cases this
  | succ fuel ih =>
    intro listed a w ρ hfree hr hy hw hρ H
    refine ⟨fun h => (by rw [h] at hr; cases hr), fun j hj => ?_⟩
    by_cases hji : j = i
    · subst hji; exact hy.wpOp hi hw ⟨fun _ => keeps.refl _, H⟩
    · have h1 := H.2 j (ready_mono hj hji)
      obtain ⟨hjun, oj, hoj, hall⟩ := mem_ready.1 hj
      have hiun := getD_ft (mem_ready.1 hr).1
      have hnot : ∀ e ∈ oj.after, Region.binds .any e = true → e.on ≠ i := fun e he hb heq => by
        have h1 := hall e he hb
        rw [heq, hiun] at h1
        cases h1
      have h2 := wpOp_put' hoj (hfree j oj hoj hji hjun hnot) (fun cs b => hsel i oi cs b hi) (fun cs b => hsel j oj cs b hoj) hQ hy h1
      have hfree' : ∀ k ok, ops[k]? = some ok → k ≠ i → (listed.setIfInBounds j true).getD k true = false →
          (∀ e ∈ ok.after, Region.binds .any e = true → e.on ≠ i) → oi.apart ops ok = true := fun k ok hk hki hun hno => by
        refine hfree k ok hk hki ?_ hno
        by_cases hjk : j = k
        · subst hjk; exact hjun
        · rw [getD_set_ne true hjk] at hun; exact hun
      refine wpOp_mono (fun a' w' h3 => ?_) h2
      obtain ⟨hy', hkp, hK⟩ := h3
      refine ⟨hkp, ?_⟩
      have hρ' : ρ w' ∧ ((∀ w', ρ w') ∨ ((∀ k, D k = true → (listed.setIfInBounds j true).getD k true = false) ∧ (∀ k, k ≠ i → k < ops.size → (listed.setIfInBounds j true).getD k true = false → D k = true ∨ q k = true) ∧ ∀ w1 w2, ρ w1 → keeps w1 w2 → ρ w2)) := by
        rcases hρ with hρ | ⟨hd1, hd2, hρ⟩
        · exact ⟨hρ w', .inl hρ⟩
        · have hjD : ¬ D j = true := fun hjd => by
            obtain ⟨oj', hoj', e, he, hb, hon⟩ := hD j hjd
            rw [hoj] at hoj'; cases hoj'
            have hl := hall e he hb
            rcases hon with hon | hon
            · rw [hon, hiun] at hl; cases hl
            · rw [getD_ft (hd1 _ hon)] at hl; cases hl
          have hjlt : j < ops.size := (Array.getElem?_eq_some_iff.1 hoj).1
          refine ⟨hρ w w' hw (hkp ((hd2 j hji hjlt hjun).resolve_left hjD)), .inr ⟨fun k hk => ?_, fun k hki hlt hun => ?_, hρ⟩⟩
          · rw [getD_set_ne true (fun (e : j = k) => hjD (by rw [e]; exact hk))]; exact hd1 k hk
          · by_cases hjk : j = k
            · subst hjk; exact hd2 j hji hjlt hjun
            · rw [getD_set_ne true hjk] at hun; exact hd2 k hki hlt hun
      refine ih (listed.setIfInBounds j true) a' w' ρ hfree' (ready_mono hr (Ne.symm hji)) hy' hρ'.1 hρ'.2 ?_
      rw [Array.setIfInBounds_comm _ _ hji]
      exact hK

end
end Go.Proofs.YtchmoleeajkioaaDoor.V
