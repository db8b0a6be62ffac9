/-
  THE LOGIC V, PART k: one operation runs as is said of it.
-/
import Derived.Test.YtchmoleeajkioaaDoorVj
namespace Go.Proofs.YtchmoleeajkioaaDoor.V
open Go Go.RowKit
set_option linter.unusedSimpArgs false
set_option linter.unusedVariables false

section
variable {P : Program}

theorem slim_st {o : Oper} {n : Nat} {x y : SA} (hs : slimOp P o = some (.st n x y)) : ∃ t a b, o.op = .store t a b ∧ P.cellsOf t = n ∧ slimArg P o.type a = some x ∧ slimArg P t b = some y := by
  obtain ⟨dst, oop, type, pos, after, guard⟩ := o
  cases oop <;> simp only [slimOp, Option.bind_eq_bind, Option.pure_def] at hs
  case store t a b =>
    obtain ⟨x', hx, hs⟩ := bind_some hs
    obtain ⟨y', hy, hs⟩ := bind_some hs
    simp at hs
    obtain ⟨rfl, rfl, rfl⟩ := hs
    exact ⟨t, a, b, rfl, rfl, hx, hy⟩
  all_goals (exfalso; repeat' (first | (cases hs; done) | split at hs | (obtain ⟨_, _, hs'⟩ := map_some hs; cases hs'; done) | (obtain ⟨_, _, hs⟩ := bind_some hs)))

theorem slim_app {o : Oper} {sz : Nat} {x y : SA} (hs : slimOp P o = some (.app sz x y)) : ∃ t u a b e, o.op = .call ⟨.builtin .append, #[a, b], #[t, u]⟩ ∧ P.underlying t = some (.slice e) ∧
    ((∃ e', P.underlying u = some (.slice e')) ∨ P.underlying u = some .string) ∧ P.cellsOf e = sz ∧ 0 < sz ∧ P.bytesOf e ≤ 128 ∧ zeroFits P e = true ∧ slimArg P t a = some x ∧ slimArg P u b = some y := by
  obtain ⟨dst, oop, type, pos, after, guard⟩ := o
  cases oop <;> simp only [slimOp, Option.bind_eq_bind, Option.pure_def] at hs
  case call c =>
    obtain ⟨callee, args, argTypes⟩ := c
    have ha : ∀ {l : List Operand}, args.toList = l → args = l.toArray := fun h => by rw [← h]
    have ht : ∀ {l : List TypeId}, argTypes.toList = l → argTypes = l.toArray := fun h => by rw [← h]
    split at hs
    · rename_i b hb
      split at hs
      · split at hs <;> first | (cases hs; done) | (obtain ⟨_, _, hs'⟩ := map_some hs; cases hs'; done)
      · rename_i a b t u ha' ht'
        have e1 := ha ha'; have e2 := ht ht'
        simp only at hb; subst e1; subst e2; subst hb
        split at hs
        · rename_i e e' h1 h2
          split at hs
          · rename_i hc
            obtain ⟨x', hx, hs⟩ := bind_some hs
            obtain ⟨y', hy, hs⟩ := bind_some hs
            simp at hs
            obtain ⟨rfl, rfl, rfl⟩ := hs
            exact ⟨t, u, a, b, e, rfl, h1, .inl ⟨e', h2⟩, rfl, hc.2.1, hc.2.2.1, hc.2.2.2, hx, hy⟩
          · cases hs
        · rename_i e h1 h2
          split at hs
          · rename_i hc
            obtain ⟨x', hx, hs⟩ := bind_some hs
            obtain ⟨y', hy, hs⟩ := bind_some hs
            simp at hs
            obtain ⟨rfl, rfl, rfl⟩ := hs
            exact ⟨t, u, a, b, e, rfl, h1, .inr h2, hc.1, by omega, hc.2.1, hc.2.2, hx, hy⟩
          · cases hs
        · cases hs
      all_goals (repeat' (first | (cases hs; done) | split at hs | (obtain ⟨_, _, hs⟩ := bind_some hs)))
    all_goals (repeat' (first | (cases hs; done) | split at hs | (obtain ⟨_, _, hs⟩ := bind_some hs)))
  all_goals (exfalso; repeat' (first | (cases hs; done) | split at hs | (obtain ⟨_, _, hs'⟩ := map_some hs; cases hs'; done) | (obtain ⟨_, _, hs⟩ := bind_some hs)))

theorem slim_isn {o : Oper} {ne : Bool} {x : SA} (hs : slimOp P o = some (.isn ne x)) : ∃ t e y yT, o.op = .binOp (if ne then .neq else .eql) t y (.const (.slice none 0 0)) yT ∧ P.underlying t = some (.slice e) ∧ slimArg P t y = some x := by
  obtain ⟨dst, oop, type, pos, after, guard⟩ := o
  cases oop <;> simp only [slimOp, Option.bind_eq_bind, Option.pure_def] at hs
  case binOp op t y z zT =>
    obtain ⟨x', hx, hs⟩ := bind_some hs
    obtain ⟨y', hy, hs⟩ := bind_some hs
    split at hs
    · split at hs <;> cases hs
    · cases hs
    · split at hs <;> cases hs
    · split at hs
      · split at hs
        · cases hs
        · split at hs <;> cases hs
      · cases hs
    · rename_i e he
      split at hs
      · simp at hs; obtain ⟨rfl, rfl⟩ := hs; exact ⟨_, _, _, _, rfl, he, hx⟩
      · simp at hs; obtain ⟨rfl, rfl⟩ := hs; exact ⟨_, _, _, _, rfl, he, hx⟩
      · cases hs
    · cases hs
  all_goals (exfalso; repeat' (first | (cases hs; done) | split at hs | (obtain ⟨_, _, hs'⟩ := map_some hs; cases hs'; done) | (obtain ⟨_, _, hs⟩ := bind_some hs)))

theorem slim_sfz {o : Oper} {x : SA} (hs : slimOp P o = some (.sfz x)) : ∃ t e y, o.op = .convert t t y ∧ P.underlying t = some (.slice e) ∧ P.underlying e = some (.int .u8) ∧ slimArg P t y = some x := by
  obtain ⟨dst, oop, type, pos, after, guard⟩ := o
  cases oop <;> simp only [slimOp, Option.bind_eq_bind, Option.pure_def] at hs
  case convert t u y =>
    obtain ⟨x', hx, hs⟩ := bind_some hs
    split at hs
    · cases hs
    · cases hs
    · split at hs <;> cases hs
    · split at hs <;> cases hs
    · rename_i e e' h1 h2
      split at hs
      · rename_i hc
        simp at hs; subst hs
        simp only [Bool.and_eq_true, beq_iff_eq] at hc
        obtain ⟨⟨rfl, hc2⟩, hc3⟩ := hc
        rw [h1] at h2; cases h2
        have he : P.underlying e = some (.int .u8) := by
          unfold isU8 at hc2
          split at hc2
          · assumption
          · cases hc2
        exact ⟨_, e, _, rfl, h1, he, hx⟩
      · cases hs
    · cases hs
  all_goals (exfalso; repeat' (first | (cases hs; done) | split at hs | (obtain ⟨_, _, hs'⟩ := map_some hs; cases hs'; done) | (obtain ⟨_, _, hs⟩ := bind_some hs)))

theorem slim_call {o : Oper} {f : Nat} {xs : List SA} (hs : slimOp P o = some (.call f xs)) : ∃ c, o.op = .call c ∧ c.callee = .value (.func f) ∧ callArgs P c = some xs := by
  obtain ⟨dst, oop, type, pos, after, guard⟩ := o
  cases oop <;> simp only [slimOp, Option.bind_eq_bind, Option.pure_def] at hs
  case call c =>
    obtain ⟨callee, args, argTypes⟩ := c
    split at hs
    · repeat' (first | (cases hs; done) | split at hs | (obtain ⟨_, _, hs'⟩ := map_some hs; cases hs'; done) | (obtain ⟨_, _, hs⟩ := bind_some hs))
    · rename_i g hc
      obtain ⟨xs', h1, hs⟩ := bind_some hs
      simp at hs
      obtain ⟨rfl, rfl⟩ := hs
      exact ⟨_, rfl, hc, h1⟩
    all_goals repeat' (first | (cases hs; done) | split at hs | (obtain ⟨_, _, hs⟩ := bind_some hs))
  all_goals (exfalso; repeat' (first | (cases hs; done) | split at hs | (obtain ⟨_, _, hs'⟩ := map_some hs; cases hs'; done) | (obtain ⟨_, _, hs⟩ := bind_some hs)))

theorem slim_calv {o : Oper} {f : SA} {xs : List SA} (hs : slimOp P o = some (.calv f xs)) : ∃ c t, o.op = .call c ∧ c.callee = .value (.tmp t) ∧ f = .t t ∧ callArgs P c = some xs := by
  obtain ⟨dst, oop, type, pos, after, guard⟩ := o
  cases oop <;> simp only [slimOp, Option.bind_eq_bind, Option.pure_def] at hs
  case call c =>
    obtain ⟨callee, args, argTypes⟩ := c
    split at hs
    · repeat' (first | (cases hs; done) | split at hs | (obtain ⟨_, _, hs'⟩ := map_some hs; cases hs'; done) | (obtain ⟨_, _, hs⟩ := bind_some hs))
    · repeat' (first | (cases hs; done) | split at hs | (obtain ⟨_, _, hs⟩ := bind_some hs))
    · rename_i g hc
      obtain ⟨xs', h1, hs⟩ := bind_some hs
      simp at hs
      obtain ⟨rfl, rfl⟩ := hs
      exact ⟨_, _, rfl, hc, rfl, h1⟩
    · cases hs
  all_goals (exfalso; repeat' (first | (cases hs; done) | split at hs | (obtain ⟨_, _, hs'⟩ := map_some hs; cases hs'; done) | (obtain ⟨_, _, hs⟩ := bind_some hs)))

section
variable {w : World} {S : Nat → Prop} {ι : Io} {loud : Nat → Bool}

theorem args_call {st : St} {a : Act} {c : Call} {xs : List SA} (h : callArgs P c = some xs) (V : SL w S ι st.H a st.s) :
    (c.args.toList.map a.eval).length = (xs.map st.get).length ∧ ∀ j (h : j < (xs.map st.get).length), VL w S ι st.H ((c.args.toList.map a.eval).getD j undef) ((xs.map st.get)[j]) := by
  unfold callArgs at h
  split at h
  · rename_i hsz
    obtain ⟨h1, h2⟩ := mapM_get h
    have hl : (c.args.toList.zip c.argTypes.toList).length = c.args.toList.length := by simp; omega
    refine ⟨by simp [h1] at *; omega, fun j hj => ?_⟩
    simp only [List.length_map] at hj
    have hj' : j < (c.args.toList.zip c.argTypes.toList).length := by omega
    have := h2 j hj' hj
    simp only [List.getElem_zip] at this
    have e : (c.args.toList.map a.eval).getD j undef = a.eval (c.args.toList[j]'(by omega)) := by
      have : j < c.args.size := by simp at hl hj'; omega
      simp [List.getD, this]
    rw [e]
    simp only [List.getElem_map]
    exact arg_vl this V
  · cases h

theorem run_callFunc {f : FuncId} (hk : Known P f) (args : Array Value) : (callFunc f args).run P w = .ok (.enter f args) w := by
  obtain ⟨fn, c, h1, h2, h3⟩ := hk
  simp [callFunc, h1, h2, h3]

theorem map_args (c : Call) (a : Act) : c.args.map a.eval = (c.args.toList.map a.eval).toArray := by
  apply Array.ext'; simp

end
end
end Go.Proofs.YtchmoleeajkioaaDoor.V
