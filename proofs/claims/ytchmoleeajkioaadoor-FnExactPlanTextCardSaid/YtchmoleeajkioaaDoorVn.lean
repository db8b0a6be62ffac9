/-
  THE LOGIC V, PART n: which operations give the same in every world.
-/
import Derived.Test.YtchmoleeajkioaaDoorVm
namespace Go.Proofs.YtchmoleeajkioaaDoor.V
open Go Go.RowKit
set_option linter.unusedSimpArgs false
set_option linter.unusedVariables false

/-- What it gives in one world it gives in every world. -/
def Free (P : Program) {α : Type} (s : Sem α) : Prop := ∀ w x w1, s.run P w = .ok x w1 → ∀ w', s.run P w' = .ok x w'
/-- It gives nothing. -/
def Never (P : Program) {α : Type} (s : Sem α) : Prop := ∀ w x w1, s.run P w ≠ .ok x w1

section
variable {P : Program} {α β : Type}

theorem andThen_ok' {r : Result α} {f : α → World → Result β} {x : β} {w1 : World} (h : r.andThen f = .ok x w1) : ∃ y w2, r = .ok y w2 ∧ f y w2 = .ok x w1 := by
  cases r with
  | ok y w2 => exact ⟨y, w2, rfl, h⟩
  | halt e w2 => simp [Result.andThen] at h

theorem Free.bind {s : Sem α} {f : α → Sem β} (h : Free P s) (hf : ∀ a, Free P (f a)) : Free P (s >>= f) := by
  intro w x w1 hr w'
  rw [Sem.run_bind] at hr ⊢
  obtain ⟨y, w2, h1, h2⟩ := andThen_ok' hr
  rw [h w y w2 h1 w', Result.andThen_ok]
  exact hf y w2 x w1 h2 w'

theorem Never.free {s : Sem α} (h : Never P s) : Free P s := fun w x w1 hr => absurd hr (h w x w1)
theorem Never.bind {s : Sem α} {f : α → Sem β} (hf : ∀ a, Never P (f a)) : Never P (s >>= f) := by
  intro w x w1 hr
  rw [Sem.run_bind] at hr
  obtain ⟨y, w2, _, h2⟩ := andThen_ok' hr
  exact hf y w2 x w1 h2
theorem Never.halt (h : Halt) : Never P (.halt h : Sem α) := fun w x w1 hr => by simp [Sem.run] at hr

theorem Free.pure' (a : α) : Free P (Pure.pure a : Sem α) := by
  intro w x w1 hr w'
  rw [Sem.run_pure] at hr ⊢
  simp only [Result.ok.injEq] at hr ⊢
  exact ⟨hr.1, trivial⟩
theorem Free.stuck (s : String) : Free P (stuck s : Sem α) := (Never.halt _).free
theorem Free.unsupported (u : Unsupported) : Free P (unsupported u : Sem α) := (Never.halt _).free
theorem Never.goPanic (v : Value) : Never P (goPanic v : Sem α) := Never.halt _
theorem Never.runtimePanic (e : RuntimeError) : Never P (runtimePanic e : Sem α) := by
  unfold Go.runtimePanic
  refine .bind fun p => ?_
  dsimp only
  split <;> first | exact Never.goPanic _ | exact .bind fun _ => .bind fun _ => Never.goPanic _
theorem Free.prog : Free P Go.program := by
  intro w x w1 hr w'
  rw [run_program] at hr ⊢
  simp only [Result.ok.injEq] at hr ⊢
  exact ⟨hr.1, trivial⟩
theorem Free.typeInfo (t : TypeId) : Free P (typeInfo t) := by
  unfold Go.typeInfo
  refine .bind .prog fun p => ?_
  split
  · exact .pure' _
  · exact .stuck _
theorem Free.underlying (t : TypeId) : Free P (underlying t) := by
  unfold Go.underlying
  refine .bind .prog fun p => ?_
  split
  · exact .pure' _
  · exact .stuck _
theorem Free.sizeOf (t : TypeId) : Free P (sizeOf t) := .bind (.typeInfo t) fun _ => .pure' _
theorem Free.isAgg (t : TypeId) : Free P (isAgg t) := by
  unfold Go.isAgg
  refine .bind (.underlying t) fun d => ?_
  split <;> exact .pure' _
theorem Free.zeroValue (t : TypeId) : Free P (zeroValue t) := by
  unfold Go.zeroValue
  refine .bind (.typeInfo t) fun i => ?_
  split
  · exact .pure' _
  · exact .unsupported _
theorem Free.asIntOf (v : Value) : Free P (asIntOf v) := by
  unfold Go.asIntOf; split <;> first | exact .pure' _ | exact .stuck _ | exact .unsupported _
theorem Free.asBool (v : Value) : Free P (asBool v) := by
  unfold Go.asBool; split <;> first | exact .pure' _ | exact .stuck _
theorem Free.asAgg (v : Value) : Free P (asAgg v) := by
  unfold Go.asAgg; split <;> first | exact .pure' _ | exact .stuck _
theorem Free.asAddr (v : Value) : Free P (asAddr v) := by
  unfold Go.asAddr; split <;> first | exact .pure' _ | exact .stuck _ | exact (Never.runtimePanic _).free
theorem Free.sureAddr (v : Value) : Free P (Instr.sureAddr v) := by
  unfold Instr.sureAddr; split <;> first | exact .pure' _ | exact .stuck _
theorem Never.boundsPanic (k : IntKind) (i n : Int) (c : BoundsCode) : Never P (boundsPanic k i n c : Sem α) := by
  unfold Go.boundsPanic
  dsimp only
  split <;> exact .bind fun _ => Never.runtimePanic _

theorem Free.listM {f : α → Sem β} (hf : ∀ a, Free P (f a)) : ∀ (l : List α), Free P (l.mapM f)
  | [] => .pure' _
  | x :: l => by rw [List.mapM_cons]; exact .bind (hf x) fun _ => .bind (Free.listM hf l) fun _ => .pure' _
theorem Free.mapM {f : α → Sem β} (hf : ∀ a, Free P (f a)) (l : Array α) : Free P (l.mapM f) := by
  rw [Array.mapM_eq_mapM_toList]
  rw [← bind_pure_comp]
  exact .bind (Free.listM hf _) fun _ => .pure' _

theorem Free.part (t : TypeId) (cs : Array Value) (off : Nat) : Free P (part t cs off) := by
  unfold Go.part
  refine .bind (.isAgg t) fun b => ?_
  split
  · exact .bind (.sizeOf t) fun _ => .pure' _
  · split
    · exact .pure' _
    · exact .stuck _
theorem Free.sliceBound (x : Value) (y : Nat) (c : BoundsCode) : Free P (Instr.sliceBound x y c) := by
  unfold Instr.sliceBound
  refine .bind (.asIntOf x) fun p => ?_
  obtain ⟨k, i⟩ := p
  dsimp only
  split
  · exact .pure' _
  · exact (Never.boundsPanic _ _ _ _).free
theorem Free.sliceBounds (b : Bool) (n c : Nat) (lo hi mx : Option Value) : Free P (Instr.sliceBounds b n c lo hi mx) := by
  unfold Instr.sliceBounds
  dsimp only
  repeat' (first | exact .pure' _ | exact .stuck _ | exact .sliceBound _ _ _ | (refine Free.bind ?_ fun _ => ?_) | split)

/-- Plain values. -/
def scalF : AV → AV
  | .d (.int k n) => .d (.int k n)
  | .d (.bool b) => .d (.bool b)
  | .d (.str s) => .d (.str s)
  | _ => .any
def St.scal (st : St) : St := ⟨fun i => scalF (st.s i), fun _ => none, fun _ => none⟩

theorem scal_get {st : St} {x : SA} {d : DV} (h : st.get x = .d d) (hd : scalF (.d d) = .d d) : st.scal.get x = .d d := by
  cases x with
  | t n => simp only [St.get, St.scal] at h ⊢; rw [h]; exact hd
  | c y => exact h

theorem scal_vl {w w' : World} {S S' : Nat → Prop} {ι ι' : Io} {H H' : Hp} {v : Value} {x : AV} (h : VL w S ι H v x) : VL w' S' ι' H' v (scalF x) := by
  cases h with
  | d h => cases h with
    | int k n => exact .d (.int k n)
    | bool b => exact .d (.bool b)
    | str s => exact .d (.str s)
    | _ => exact .any _
  | _ => exact .any _

/-- A value that is told whole. -/
def whole (x : AV) : Prop := (∃ k n, x = iv k n) ∨ (∃ b, x = bv b) ∨ (∃ s, x = sv s)

theorem whole_eq {w w' : World} {S S' : Nat → Prop} {ι ι' : Io} {H H' : Hp} {v v' : Value} {x : AV} (hx : whole x) (h : VL w S ι H v x) (h' : VL w' S' ι' H' v' x) : v = v' := by
  rcases hx with ⟨k, n, rfl⟩ | ⟨b, rfl⟩ | ⟨s, rfl⟩
  · rw [h.int_inv, h'.int_inv]
  · rw [h.bool_inv, h'.bool_inv]
  · rw [h.str_inv, h'.str_inv]

theorem fit_whole (k : IntKind) (n : Int) : whole (fit k n).v := by cases k <;> exact .inl ⟨_, _, rfl⟩

theorem arI_whole {op : BinOp} {k : IntKind} {a b : Int} (h : (arI op k a b).p) : whole (arI op k a b).v := by
  cases op <;> first | exact fit_whole _ _ | exact .inl ⟨_, _, rfl⟩ | exact .inr (.inl ⟨_, rfl⟩) | exact h.elim
theorem shI_whole {op : BinOp} {k : IntKind} {a b : Int} (h : (shI op k a b).p) : whole (shI op k a b).v := by
  cases op <;> first | exact fit_whole _ _ | exact .inl ⟨_, _, rfl⟩ | exact h.elim
theorem stI_whole {op : BinOp} {a b : List UInt8} (h : (stI op a b).p) : whole (stI op a b).v := by
  cases op <;> first | exact .inr (.inr ⟨_, rfl⟩) | exact .inr (.inl ⟨_, rfl⟩) | exact h.elim

theorem scal_qf {st : St} {d : Nat} {op : SOp} (hs : op.scal = true) (hp : (qf st d op).p) : qf st.scal d op = qf st d op ∧ whole (qf st d op).v := by
  cases op <;> simp only [SOp.scal, Bool.false_eq_true] at hs <;> simp only [qf, istF, slnF] at hp ⊢
  all_goals
    split at hp
    · first
        | (rename_i h1 h2; simp only [h1, h2, scal_get h1 rfl, scal_get h2 rfl]; refine ⟨trivial, ?_⟩)
        | (rename_i h1; simp only [h1, scal_get h1 rfl]; refine ⟨trivial, ?_⟩)
      first
        | exact arI_whole hp.2
        | exact shI_whole hp.2
        | exact stI_whole hp
        | exact fit_whole _ _
        | exact .inl ⟨_, _, rfl⟩
        | exact .inr (.inl ⟨_, rfl⟩)
        | exact .inr (.inr ⟨_, rfl⟩)
    · exact hp.elim

theorem free_op {ρ : Operand → Value} {o : Oper} {op : SOp} (hs : slimOp P o = some op) (hf : op.free = true) (hchk : ∀ x, op = .chk x → ∀ y, o.op = .nilCheck y → ∀ n a b, ρ y ≠ .func (.method n) a b) : Free P (execOp ρ o) := by
  obtain ⟨dst, oop, type, pos, after, guard⟩ := o
  have fin : ∀ {s : Sem Value}, Free P s → Free P (do pure (Next.value (← s))) := fun h => .bind h fun _ => .pure' _
  cases oop <;> simp only [slimOp, Option.bind_eq_bind, Option.pure_def] at hs
  case move x => exact .pure' _
  case assign x => exact .pure' _
  case pick c a b => exact .bind (.asBool _) fun _ => .pure' _
  case extract x j => exact fin (by unfold Instr.extract; repeat' (first | exact .pure' _ | exact .stuck _ | split))
  case makeFunc fn fs cs => exact fin (.pure' _)
  case field t x i =>
    refine fin ?_
    unfold Instr.field
    repeat' (first | exact .pure' _ | exact .stuck _ | exact .underlying _ | exact .asAgg _ | exact .part _ _ _ | (refine Free.bind ?_ fun _ => ?_) | split)
  case fieldAddr t x i =>
    refine fin ?_
    obtain ⟨y, _, hs⟩ := bind_some hs
    split at hs
    · rename_i fs hu
      obtain ⟨⟨off, n, ft⟩, hfo, rfl⟩ := map_some hs
      intro w x1 w1 hr w'
      obtain ⟨f, h1, rfl, rfl, h2, h3⟩ := field_of hfo
      have hsz := fun w => run_sizeOf (P := P) (w := w) h2 h3
      simp only [Instr.fieldAt, Sem.run_bind, run_underlying hu, Result.andThen_ok, h1] at hr ⊢
      obtain ⟨a, w2, g1, g2⟩ := andThen_ok' hr
      rw [(Free.sureAddr _) _ _ _ g1 w', Result.andThen_ok]
      have : Free P (fieldPlace a f) := by
        intro w x w1 hr w'
        simp only [fieldPlace, Sem.run_bind, hsz, Result.andThen_ok, if_neg h3, Sem.run_pure, Result.ok.injEq] at hr ⊢
        exact ⟨hr.1, trivial⟩
      rw [← Sem.run_bind] at g2 ⊢
      exact (Free.bind this fun _ => .pure' _) _ _ _ g2 w'
    · cases hs
  case indexAddr t x i =>
    refine fin ?_
    unfold Instr.indexAt
    dsimp only
    repeat' (first | exact .pure' _ | exact .stuck _ | exact .unsupported _ | exact .underlying _ | exact .asIntOf _ | exact .sureAddr _ | exact .sizeOf _ | exact (Never.boundsPanic _ _ _ _).free | (refine Free.bind ?_ fun _ => ?_) | split)
  case slice t x lo hi mx =>
    refine fin ?_
    unfold Instr.sliceAt
    refine .bind (.underlying _) fun d => ?_
    split
    · dsimp only
      repeat' (first | exact .pure' _ | exact .stuck _ | exact .sureAddr _ | exact .sliceBounds _ _ _ _ _ _ | exact .sizeOf _ | (refine Free.bind ?_ fun _ => ?_) | split)
    · unfold Instr.slice
      dsimp only
      repeat' (first | exact .pure' _ | exact .stuck _ | exact .asAddr _ | exact .underlying _ | exact .sliceBounds _ _ _ _ _ _ | exact .sizeOf _ | (refine Free.bind ?_ fun _ => ?_) | split)
  case build t ps =>
    refine fin ?_
    unfold Instr.build
    refine .bind (.zeroValue _) fun z => .bind (.underlying _) fun d => ?_
    dsimp only
    split
    · refine .bind (.mapM (fun f => .bind (.sizeOf _) fun _ => .pure' _) _) fun places => ?_
      split
      · exact .pure' _
      · exact .stuck _
    · refine .bind (.sizeOf _) fun _ => ?_
      split
      · exact .pure' _
      · exact .stuck _
    · exact .stuck _
  case nilCheck x =>
    obtain ⟨y, hy, rfl⟩ := map_some hs
    have hno := hchk _ rfl x rfl
    simp only [execOp]
    split
    · exact (Never.runtimePanic _).free
    · exact (Never.runtimePanic _).free
    · exact (Never.runtimePanic _).free
    · rename_i name first captured he
      exact absurd he (hno _ _ _)
    · exact .pure' _
  case call c =>
    obtain ⟨callee, args, argTypes⟩ := c
    have ha : ∀ {l : List Operand}, args.toList = l → args = l.toArray := fun h => by rw [← h]
    have ht : ∀ {l : List TypeId}, argTypes.toList = l → argTypes = l.toArray := fun h => by rw [← h]
    split at hs
    · rename_i b hb
      split at hs
      · rename_i x t hx' ht'
        have e1 := ha hx'; have e2 := ht ht'
        simp only at hb; subst e1; subst e2; subst hb
        split at hs
        · rename_i e hu
          intro w x1 w1 hr w'
          simp only [execOp, resolve, Sem.run_bind, Sem.run_pure, Result.andThen_ok, invoke, builtin, Builtin.len_, List.map_toArray, List.map_cons, List.map_nil] at hr ⊢
          generalize ρ x = v at hr ⊢
          simp only [List.getElem?_toArray, List.getElem?_cons_zero, Sem.run_bind, run_underlying hu, Result.andThen_ok] at hr ⊢
          cases v <;> simp_all [goInt]
        · obtain ⟨y, hy, rfl⟩ := map_some hs
          simp [SOp.free] at hf
        · cases hs
      all_goals (exfalso; repeat' (first | (cases hs; done) | (cases hs; simp [SOp.free] at hf; done) | split at hs | (obtain ⟨_, _, hs⟩ := bind_some hs)))
    all_goals (exfalso; repeat' (first | (cases hs; done) | (cases hs; simp [SOp.free] at hf; done) | split at hs | (obtain ⟨_, _, hs⟩ := bind_some hs)))
  all_goals (exfalso; repeat' (first | (cases hs; done) | (cases hs; simp [SOp.free] at hf; done) | split at hs | (obtain ⟨_, _, hs'⟩ := map_some hs; cases hs'; simp [SOp.free] at hf; done) | (obtain ⟨_, _, hs⟩ := bind_some hs)))

end
end Go.Proofs.YtchmoleeajkioaaDoor.V
