/-
  THE LOGIC V, PART r: calls by what is said of a function.
-/
import Derived.Test.YtchmoleeajkioaaDoorVq
namespace Go.Proofs.YtchmoleeajkioaaDoor.V
open Go Go.RowKit
set_option linter.unusedSimpArgs false
set_option linter.unusedVariables false

/-- It hangs on no box and on no row. -/
def leafP : AV → Bool
  | .d _ | .nils _ | .rptr _ | .any => true
  | _ => false
def pure1 : AV → Bool
  | .agg cs => cs.all leafP
  | x => leafP x
def pureB : AV → Bool
  | .tup vs => vs.all pure1
  | .clos _ a b => a.all pure1 && b.all pure1
  | x => pure1 x

section
variable {P : Program} {w w' : World} {S S' : Nat → Prop} {ι ι' : Io} {H H' : Hp}

theorem VL.leafT (hS : ∀ b, S b → S' b) (hk : ∀ b, S b → w'.heap[b]? = w.heap[b]?) {v : Value} {x : AV} (hx : leafP x = true) (h : VL w S ι H v x) : VL w' S' ι' H' v x := by
  cases h with
  | any v => exact .any v
  | d h => exact .d (h.keep hS hk)
  | nils sz => exact .nils sz
  | rptr cv h1 h2 h3 => exact .rptr cv (hS _ h1) (fun j hj => by rw [cell_of_block (hk _ h1)]; exact h2 j hj) (fun j hj => (h3 j hj).keep hS hk)
  | _ => simp [leafP] at hx

theorem VL.pure1T (hS : ∀ b, S b → S' b) (hk : ∀ b, S b → w'.heap[b]? = w.heap[b]?) {v : Value} {x : AV} (hx : pure1 x = true) (h : VL w S ι H v x) : VL w' S' ι' H' v x := by
  cases x with
  | agg cs =>
    simp only [pure1, List.all_eq_true] at hx
    cases h with
    | agg hl hr => exact .agg hl (fun j hj => (hr j hj).leafT hS hk (hx _ (List.getElem_mem hj)))
  | _ => exact h.leafT hS hk hx

theorem VL.pureT (hS : ∀ b, S b → S' b) (hk : ∀ b, S b → w'.heap[b]? = w.heap[b]?) {v : Value} {x : AV} (hx : pureB x = true) (h : VL w S ι H v x) : VL w' S' ι' H' v x := by
  cases x with
  | tup vs =>
    simp only [pureB, List.all_eq_true] at hx
    cases h with
    | tup hl hr => exact .tup hl (fun j hj => (hr j hj).pure1T hS hk (hx _ (List.getElem_mem hj)))
  | clos fn a b =>
    simp only [pureB, Bool.and_eq_true, List.all_eq_true] at hx
    cases h with
    | clos h1 h2 h3 h4 => exact .clos h1 (fun j hj => (h2 j hj).pure1T hS hk (hx.1 _ (List.getElem_mem hj))) h3 (fun j hj => (h4 j hj).pure1T hS hk (hx.2 _ (List.getElem_mem hj)))
  | _ => exact h.pure1T hS hk hx

/-- A deep value without memory. -/
def flatD : DV → Bool
  | .sl _ rows => rows.isEmpty
  | _ => true
/-- It hangs on nothing that is only read. -/
def flatL : AV → Bool
  | .d x => flatD x
  | .own _ _ _ rows => rows.all fun r => r.all flatD
  | .rptr _ | .optr .. | .agg _ | .tup _ | .clos .. => false
  | _ => true
def flat1 : AV → Bool
  | .agg cs => cs.all flatL
  | x => flatL x
def flatA : AV → Bool
  | .tup vs => vs.all flat1
  | x => flat1 x

theorem Rd.flat {d : DV} (hd : flatD d = true) {v : Value} (h : Rd w S v d) : Rd w' S' v d := by
  cases h with
  | int k n => exact .int k n
  | bool b => exact .bool b
  | str s => exact .str s
  | oth v h => exact .oth v h
  | nil a cap sz => exact .nil a cap sz
  | @sl b o cap sz rows cv h1 h2 h3 h4 h5 =>
    simp only [flatD, List.isEmpty_iff] at hd
    subst hd
    exact .nil _ _ _

theorem VL.flatL {x : AV} (hx : flatL x = true) {v : Value} (h : VL w S ι H v x) : VL w S' ι H v x := by
  cases h with
  | any v => exact .any v
  | d h => exact .d (h.flat hx)
  | nils sz => exact .nils sz
  | ptr h => exact .ptr h
  | onil h1 h2 => exact .onil h1 h2
  | oemp h1 h2 h3 => exact .oemp h1 h2 h3
  | own h1 h2 h3 h4 cv h5 h6 h7 h8 =>
    simp only [V.flatL, List.all_eq_true] at hx
    exact .own h1 h2 h3 h4 cv h5 (fun i j hi hj => (h6 i j hi hj).flat (hx _ (List.getElem_mem hi) _ (List.getElem_mem hj))) h7 h8
  | _ => simp [V.flatL] at hx

theorem VL.flat1 {x : AV} (hx : flat1 x = true) {v : Value} (h : VL w S ι H v x) : VL w S' ι H v x := by
  cases x with
  | agg cs =>
    simp only [V.flat1, List.all_eq_true] at hx
    cases h with
    | agg hl hr => exact .agg hl (fun j hj => (hr j hj).flatL (hx _ (List.getElem_mem hj)))
  | _ => exact h.flatL (by exact hx)

theorem VL.flat {x : AV} (hx : flatA x = true) {v : Value} (h : VL w S ι H v x) : VL w S' ι H v x := by
  cases x with
  | tup cs =>
    simp only [flatA, List.all_eq_true] at hx
    cases h with
    | tup hl hr => exact .tup hl (fun j hj => (hr j hj).flat1 (hx _ (List.getElem_mem hj)))
  | _ => exact h.flat1 (by exact hx)

/-- How an argument is told to the callee. 'ρ': which of its boxes a box of the caller's is; L: rows that are lent. -/
inductive Arg (ρ : Nat → Option Nat) (L : Nat → Prop) (H0 : Hp) : AV → AV → Prop
  | pure {x : AV} (h : pureB x = true) : Arg ρ L H0 x x
  | lend {t sz off : Nat} {rows : List (List DV)} (h : L t) : Arg ρ L H0 (.own t sz off rows) (.d (.sl sz rows))
  | nils (sz : Nat) : Arg ρ L H0 (.nils sz) (.d (.sl sz []))
  | ptr {l p o : Nat} (h : ρ l = some p) (h0 : H0.bx p ≠ none) : Arg ρ L H0 (.ptr l o) (.ptr p o)
  | agg {a b : List AV} (hl : a.length = b.length) (h : ∀ j (h1 : j < a.length) (h2 : j < b.length), Arg ρ L H0 a[j] b[j]) : Arg ρ L H0 (.agg a) (.agg b)
  | clos {f : Fn} {a b c d : List AV} (hl : a.length = b.length) (h : ∀ j (h1 : j < a.length) (h2 : j < b.length), Arg ρ L H0 a[j] b[j])
      (hl' : c.length = d.length) (h' : ∀ j (h1 : j < c.length) (h2 : j < d.length), Arg ρ L H0 c[j] d[j]) : Arg ρ L H0 (.clos f a c) (.clos f b d)

/-- How a result is told to the caller. -/
inductive Res (ρ τ : Nat → Option Nat) : AV → AV → Prop
  | pure {x : AV} (h : pureB x = true) : Res ρ τ x x
  | ptr {l p o : Nat} (h : ρ l = some p) : Res ρ τ (.ptr p o) (.ptr l o)
  | own {t p sz off : Nat} {rows : List (List DV)} (h : τ t = some p) : Res ρ τ (.own p sz off rows) (.own t sz off rows)
  | agg {a b : List AV} (hl : a.length = b.length) (h : ∀ j (h1 : j < a.length) (h2 : j < b.length), Res ρ τ a[j] b[j]) : Res ρ τ (.agg a) (.agg b)
  | tup {a b : List AV} (hl : a.length = b.length) (h : ∀ j (h1 : j < a.length) (h2 : j < b.length), Res ρ τ a[j] b[j]) : Res ρ τ (.tup a) (.tup b)

theorem Arg.vl {ρ : Nat → Option Nat} {L : Nat → Prop} {ι0 : Io} {H0 : Hp} (hS : ∀ b, S b → S' b) (hL : ∀ t b base, L t → H.tg t ≠ none → ι.tg t = some (b, base) → S' b) (hρ : ∀ l p, ρ l = some p → ι0.bx p = ι.bx l) {x y : AV} (h : Arg ρ L H0 x y) :
    ∀ {v : Value}, VL w S ι H v x → VL w S' ι0 H0 v y := by
  induction h with
  | pure h => intro v hv; exact hv.pureT hS (fun _ _ => rfl) h
  | lend h =>
    intro v hv
    cases hv with
    | onil h1 h2 => exact .d (.nil _ _ _)
    | oemp h1 h2 h3 => exact .d (.nil _ _ _)
    | own h1 h2 h3 h4 cv h5 h6 h7 h8 =>
      refine .d (.sl cv h7 (hL _ _ _ h (by rw [h1]; simp) h2) h4 (fun i j hi hj => ?_) (fun i j hi hj => (h6 i j hi hj).keep hS (fun _ _ => rfl)))
      rw [← h5 i j hi hj]
      congr 2
      rw [Nat.add_mul]; omega
  | nils sz => intro v hv; rw [hv.nils_inv]; exact .d (.nil _ _ _)
  | ptr h h0 => intro v hv; obtain ⟨rfl, _⟩ := hv.ptr_inv; rw [← hρ _ _ h]; exact .ptr h0
  | agg hl _ ih => intro v hv; cases hv with | agg h1 h2 => exact .agg (by omega) (fun j hj => ih j (by omega) hj (h2 j (by omega)))
  | clos hl _ hl' _ ih ih' =>
    intro v hv
    cases hv with
    | clos h1 h2 h3 h4 => exact .clos (by omega) (fun j hj => ih j (by omega) hj (h2 j (by omega))) (by omega) (fun j hj => ih' j (by omega) hj (h4 j (by omega)))

theorem Res.vl {ρ τ : Nat → Option Nat} {ι1 : Io} {H1 : Hp} (hρ : ∀ l p, ρ l = some p → H1.bx p ≠ none → H'.bx l ≠ none ∧ ι'.bx l = ι1.bx p) (hτ : ∀ t p, τ t = some p → H'.tg t = H1.tg p ∧ ι'.tg t = ι1.tg p) {x y : AV} (h : Res ρ τ x y) :
    ∀ {v : Value}, VL w S ι1 H1 v x → VL w S ι' H' v y := by
  induction h with
  | pure h => intro v hv; exact hv.pureT (fun _ h => h) (fun _ _ => rfl) h
  | ptr h =>
    intro v hv
    obtain ⟨rfl, h1⟩ := hv.ptr_inv
    obtain ⟨h2, h3⟩ := hρ _ _ h h1
    rw [← h3]; exact .ptr h2
  | own h =>
    intro v hv
    obtain ⟨h1, h2⟩ := hτ _ _ h
    cases hv with
    | onil g1 g2 => exact .onil (by rw [h1]; exact g1) (by rw [h2]; exact g2)
    | oemp g1 g2 g3 => exact .oemp (by rw [h1]; exact g1) g2 g3
    | own g1 g2 g3 g4 cv g5 g6 g7 g8 => exact .own (by rw [h1]; exact g1) (by rw [h2]; exact g2) g3 g4 cv g5 g6 g7 g8
  | agg hl _ ih => intro v hv; cases hv with | agg h1 h2 => exact .agg (by omega) (fun j hj => ih j (by omega) hj (h2 j (by omega)))
  | tup hl _ ih => intro v hv; cases hv with | tup h1 h2 => exact .tup (by omega) (fun j hj => ih j (by omega) hj (h2 j (by omega)))

/-- The caller's state behind a call. -/
def St.call (st : St) (d : Option Nat) (ρ τ : Nat → Option Nat) (H1 : Hp) (res : AV) : St :=
  ⟨(st.put d res).s, fun l => match ρ l with | some p => H1.bx p | none => st.bx l, fun t => match τ t with | some p => H1.tg p | none => st.tg t⟩

theorem call_gen {f : FuncId} {args args0 : List AV} {H0 : Hp} {Q : AV → Hp → Prop} (h : FnE P f args0 H0 Q) {st : St} {d : Option Nat} {K : St → Prop} {lo : Bool} (ρ τ : Nat → Option Nat) (r g : Nat → Nat) (L : Nat → Prop)
    (hr : ∀ l p, ρ l = some p → r p = l) (hg : ∀ t p, τ t = some p → g p = t) (hal : args.length = args0.length) (hargs : ∀ j (h1 : j < args.length) (h2 : j < args0.length), Arg ρ L H0 args[j] args0[j])
    (hb0 : ∀ p c, H0.bx p = some c → c.all pureB = true ∧ ∃ l, ρ l = some p ∧ st.bx l = some c) (ht0 : ∀ p, H0.tg p = none)
    (hρ0 : ∀ l p, ρ l = some p → H0.bx p = none → st.bx l = none) (hτ : ∀ t p, τ t = some p → st.tg t = none) (hlo : lo = true ∨ ∀ p, H0.bx p = none)
    (hK : ∀ res H1, Q res H1 → (∀ p c, H1.bx p = some c → c.all pureB = true) ∧ (∀ l p, ρ l = some p → H1.bx p ≠ none) ∧ ((∀ t, ¬ L t) ∨ (flatA res = true ∧ ∀ p c, H1.bx p = some c → c.all flat1 = true)) ∧
      ∃ res', Res ρ τ res res' ∧ K (st.call d ρ τ H1 res')) : callP P lo f args st d K := by
  refine ⟨h.1, fun w S ι vs R hl hv => ?_⟩
  let ι0 : Io := ⟨fun p => ι.bx (r p), fun _ => none⟩
  let LB : Nat → Prop := fun b => ∃ t base, L t ∧ st.tg t ≠ none ∧ ι.tg t = some (b, base)
  let S0 : Nat → Prop := fun b => S b ∨ LB b
  have hLO : ∀ b, LB b → Owned ι st.H b := fun b ⟨t, base, _, h2, h3⟩ => .inr ⟨t, base, h2, h3⟩
  have hSL : ∀ b, S b → ¬ LB b := fun b hb h' => (R.stable b hb).2 (hLO b h')
  have hιρ : ∀ l p, ρ l = some p → ι0.bx p = ι.bx l := fun l p e => by simp only [ι0]; rw [hr l p e]
  have hlive : ∀ l p, ρ l = some p → st.bx l ≠ none → H0.bx p ≠ none := fun l p e h0 h1 => h0 (hρ0 l p e h1)
  have hown0 : ∀ b, Owned ι0 H0 b → ∃ l p c, ρ l = some p ∧ H0.bx p = some c ∧ st.bx l = some c ∧ ι.bx l = b := by
    rintro b (⟨p, h1, h2⟩ | ⟨t, base, h1, _⟩)
    · obtain ⟨c, hc⟩ := Option.ne_none_iff_exists'.1 h1
      obtain ⟨_, l, h3, h4⟩ := hb0 p c hc
      exact ⟨l, p, c, h3, hc, h4, by rw [← hιρ l p h3]; exact h2⟩
    · exact absurd (ht0 t) h1
  have hown0' : ∀ b, Owned ι0 H0 b → Owned ι st.H b := fun b hb => by
    obtain ⟨l, p, c, _, _, h3, h4⟩ := hown0 b hb
    exact .inl ⟨l, by show st.bx l ≠ none; rw [h3]; simp, h4⟩
  have hL0 : ∀ b, LB b → ¬ Owned ι0 H0 b := fun b ⟨t, base, _, h2, h3⟩ h' => by
    obtain ⟨m, p, c, _, _, h4, h5⟩ := hown0 b h'
    exact R.injBT m t b base (by show st.bx m ≠ none; rw [h4]; simp) h2 h3 h5
  have R0 : HR w S0 ι0 H0 :=
    { stable := fun b hb => by
        rcases hb with hb | hb
        · exact ⟨(R.stable b hb).1, fun h' => (R.stable b hb).2 (hown0' b h')⟩
        · exact ⟨R.owned_lt (hLO b hb), hL0 b hb⟩
      boxes := fun p c hc => by
        obtain ⟨h1, l, h2, h3⟩ := hb0 p c hc
        obtain ⟨cs, T, q1, q2, q3⟩ := R.boxes l c h3
        refine ⟨cs, T, by rw [hιρ l p h2]; exact q1, q2, fun j hj => (q3 j hj).pureT (fun _ h => .inl h) (fun _ _ => rfl) ?_⟩
        exact List.all_eq_true.1 h1 _ (List.getElem_mem hj)
      rows := fun t sz n ht => by rw [ht0 t] at ht; cases ht
      injB := fun p q hp hq e => by
        obtain ⟨c, hc⟩ := Option.ne_none_iff_exists'.1 hp
        obtain ⟨c', hc'⟩ := Option.ne_none_iff_exists'.1 hq
        obtain ⟨_, l, h2, h3⟩ := hb0 p c hc
        obtain ⟨_, m, h5, h6⟩ := hb0 q c' hc'
        rw [hιρ l p h2, hιρ m q h5] at e
        have := R.injB l m (by show st.bx l ≠ none; rw [h3]; simp) (by show st.bx m ≠ none; rw [h6]; simp) e
        subst this
        rw [h2] at h5; cases h5; rfl
      injT := fun t u b p q ht => absurd (ht0 t) ht
      injBT := fun l t b p _ ht => absurd (ht0 t) ht }
  have hv0 : ∀ j (hj : j < args0.length), VL w S0 ι0 H0 (vs.getD j undef) (args0[j]) := fun j hj => (hargs j (by omega) hj).vl (fun _ h => .inl h) (fun t b base h1 h2 h3 => .inr ⟨t, base, h1, h2, h3⟩) hιρ (hv j (by omega))
  refine Calls.mono (h.2 w S0 ι0 vs R0 (by omega) hv0) fun e w' he => ?_
  obtain ⟨v, S1, ι1, res, H1, hQ, rfl, R1, F, hvr⟩ := he
  obtain ⟨hb1, hρ1, hflat, res', hres, hK⟩ := hK res H1 hQ
  have hρ : ∀ l p, ρ l = some p → H1.bx p ≠ none ∧ (H0.bx p = none → st.bx l = none) := fun l p e => ⟨hρ1 l p e, hρ0 l p e⟩
  let S2 : Nat → Prop := fun b => S1 b ∧ ¬ LB b
  have hS2 : ∀ b, S b → S2 b := fun b hb => ⟨F.st b (.inl hb), hSL b hb⟩
  have toS2 : ∀ {v x}, VL w' S1 ι1 H1 v x → (flatA x = true ∨ ∀ t, ¬ L t) → VL w' S2 ι1 H1 v x := fun hx hf => by
    rcases hf with hf | hf
    · exact hx.flat hf
    · have : S2 = S1 := by
        funext b
        simp only [S2, LB, eq_iff_iff, and_iff_left_iff_imp]
        rintro _ ⟨t, _, h1, _⟩
        exact hf t h1
      rw [this]; exact hx
  let st' := st.call d ρ τ H1 res'
  let ι' : Io := ⟨fun l => match ρ l with | some p => ι1.bx p | none => ι.bx l, fun t => match τ t with | some p => ι1.tg p | none => ι.tg t⟩
  have hbs : ∀ l p, ρ l = some p → st'.bx l = H1.bx p ∧ ι'.bx l = ι1.bx p := fun l p e => by simp [st', ι', St.call, e]
  have hbn : ∀ l, ρ l = none → st'.bx l = st.bx l ∧ ι'.bx l = ι.bx l := fun l e => by simp [st', ι', St.call, e]
  have hts : ∀ t p, τ t = some p → st'.tg t = H1.tg p ∧ ι'.tg t = ι1.tg p := fun l p e => by simp [st', ι', St.call, e]
  have htn : ∀ t, τ t = none → st'.tg t = st.tg t ∧ ι'.tg t = ι.tg t := fun l e => by simp [st', ι', St.call, e]
  -- what the callee does not own stays
  have same : ∀ b, b < w.heap.size → ¬ Owned ι0 H0 b → w'.heap[b]? = w.heap[b]? := F.keep
  have boxN : ∀ l, ρ l = none → st.bx l ≠ none → ¬ Owned ι0 H0 (ι.bx l) := fun l e hl hb => by
    obtain ⟨m, p, c, h1, _, h3, h4⟩ := hown0 _ hb
    have := R.injB m l (by show st.bx m ≠ none; rw [h3]; simp) hl h4
    subst this; rw [e] at h1; cases h1
  have rowN : ∀ t b base, st.tg t ≠ none → ι.tg t = some (b, base) → ¬ Owned ι0 H0 b := fun t b base ht hι hb => by
    obtain ⟨m, p, c, _, _, h3, h4⟩ := hown0 _ hb
    exact R.injBT m t b base (by show st.bx m ≠ none; rw [h3]; simp) ht hι h4
  have new1 : ∀ b, S2 b ∨ Owned ι1 H1 b → Owned ι st.H b → Owned ι0 H0 b := fun b h1 h2 => by
    rcases F.new b (h1.imp (fun h => h.1) id) with h3 | h3 | h3
    · rcases h3 with h3 | h3
      · exact absurd h2 (R.stable b h3).2
      · rcases h1 with h1 | h1
        · exact absurd h3 h1.2
        · exact absurd h1 (R1.stable b (F.st b (.inr h3))).2
    · exact h3
    · have := R.owned_lt h2; omega
  have hτn : ∀ t, st.tg t ≠ none → τ t = none := fun t ht => by
    cases e : τ t with
    | none => rfl
    | some p => exact absurd (hτ t p e) ht
  have own1 : ∀ b, Owned ι' st'.H b → Owned ι1 H1 b ∨ (Owned ι st.H b ∧ ¬ Owned ι0 H0 b) := by
    rintro b (⟨l, h1, h2⟩ | ⟨t, base, h1, h2⟩)
    · cases e : ρ l with
      | some p =>
        obtain ⟨h3, h4⟩ := hbs l p e
        exact .inl (.inl ⟨p, by rw [← h3]; exact h1, by rw [← h4]; exact h2⟩)
      | none =>
        obtain ⟨h3, h4⟩ := hbn l e
        have h5 : st.bx l ≠ none := by rw [← h3]; exact h1
        rw [h4] at h2
        exact .inr ⟨.inl ⟨l, h5, h2⟩, by rw [← h2]; exact boxN l e h5⟩
    · cases e : τ t with
      | some p =>
        obtain ⟨h3, h4⟩ := hts t p e
        exact .inl (.inr ⟨p, base, by rw [← h3]; exact h1, by rw [← h4]; exact h2⟩)
      | none =>
        obtain ⟨h3, h4⟩ := htn t e
        have h5 : st.tg t ≠ none := by rw [← h3]; exact h1
        rw [h4] at h2
        exact .inr ⟨.inr ⟨t, base, h5, h2⟩, rowN t b base h5 h2⟩
  have apart1 : ∀ b, S2 b ∨ Owned ι1 H1 b → ¬ (Owned ι st.H b ∧ ¬ Owned ι0 H0 b) := fun b h1 h2 => h2.2 (new1 b h1 h2.1)
  have E : Ext w S ι st.H w' S2 ι' st'.H :=
    { st := hS2
      keep := fun b hb => same b (R.stable b hb).1 (fun h' => (R.stable b hb).2 (hown0' b h'))
      bx := fun l hl => by
        cases e : ρ l with
        | some p =>
          obtain ⟨h3, h4⟩ := hbs l p e
          refine ⟨by show st'.bx l ≠ none; rw [h3]; exact (hρ l p e).1, ?_⟩
          rw [h4, F.par p (hlive l p e hl) (hρ l p e).1]
          exact hιρ l p e
        | none =>
          obtain ⟨h3, h4⟩ := hbn l e
          exact ⟨by show st'.bx l ≠ none; rw [h3]; exact hl, h4⟩
      tg := fun t sz n ht => by
        obtain ⟨h3, h4⟩ := htn t (hτn t (by rw [show st.tg t = _ from ht]; simp))
        exact ⟨h4, n, Nat.le_refl _, by show st'.tg t = _; rw [h3]; exact ht⟩
      row := fun t sz n b base ht hι cs T fz hb => by
        have hn : st.tg t ≠ none := by rw [show st.tg t = _ from ht]; simp
        exact ⟨cs, T, fz, by rw [same b (lt_of_some hb) (rowN t b base hn hι)]; exact hb, Nat.le_refl _, fun _ _ => rfl⟩ }
  have R' : HR w' S2 ι' st'.H :=
    { stable := fun b hb => ⟨(R1.stable b hb.1).1, fun h' => by
        rcases own1 b h' with h1 | h1
        · exact (R1.stable b hb.1).2 h1
        · exact apart1 b (.inl hb) h1⟩
      boxes := fun l c hc => by
        cases e : ρ l with
        | some p =>
          obtain ⟨h3, h4⟩ := hbs l p e
          have hc' : H1.bx p = some c := by rw [← h3]; exact hc
          obtain ⟨cs, T, q1, q2, q3⟩ := R1.boxes p c hc'
          refine ⟨cs, T, by rw [h4]; exact q1, q2, fun j hj => (toS2 (q3 j hj) ?_).pureT (fun _ h => h) (fun _ _ => rfl) ?_⟩
          · rcases hflat with h5 | h5
            · exact .inr h5
            · left
              have := List.all_eq_true.1 (h5.2 p c hc') _ (List.getElem_mem hj)
              revert this
              cases c[j] <;> simp [flatA, flat1, flatL]
          · exact List.all_eq_true.1 (hb1 p c hc') _ (List.getElem_mem hj)
        | none =>
          obtain ⟨h3, h4⟩ := hbn l e
          have hc' : st.bx l = some c := by rw [← h3]; exact hc
          obtain ⟨cs, T, q1, q2, q3⟩ := R.boxes l c hc'
          have hn : st.bx l ≠ none := by rw [hc']; simp
          exact ⟨cs, T, by rw [h4, same _ (R.bx_lt hn) (boxN l e hn)]; exact q1, q2, fun j hj => (q3 j hj).ext E R⟩
      rows := fun t sz n ht => by
        cases e : τ t with
        | some p =>
          obtain ⟨h3, h4⟩ := hts t p e
          have ht' : H1.tg p = some (sz, n) := by rw [← h3]; exact ht
          obtain ⟨q1, q2⟩ := R1.rows p sz n ht'
          exact ⟨fun b base hι => q1 b base (by rw [← h4]; exact hι), fun hι => q2 (by rw [← h4]; exact hι)⟩
        | none =>
          obtain ⟨h3, h4⟩ := htn t e
          have ht' : st.tg t = some (sz, n) := by rw [← h3]; exact ht
          obtain ⟨q1, q2⟩ := R.rows t sz n ht'
          have hn : st.tg t ≠ none := by rw [ht']; simp
          refine ⟨fun b base hι => ?_, fun hι => q2 (by rw [← h4]; exact hι)⟩
          have hι' : ι.tg t = some (b, base) := by rw [← h4]; exact hι
          obtain ⟨cs, T, lo, hi, k1, k2, k3⟩ := (q1 b base hι').blk
          exact ⟨cs, T, lo, hi, by rw [same b (lt_of_some k1) (rowN t b base hn hι')]; exact k1, k2, k3⟩
      injB := fun l m hl hm e => by
        cases e1 : ρ l with
        | some p =>
          obtain ⟨a1, a2⟩ := hbs l p e1
          cases e2 : ρ m with
          | some q =>
            obtain ⟨b1, b2⟩ := hbs m q e2
            have : p = q := R1.injB p q (by rw [← a1]; exact hl) (by rw [← b1]; exact hm) (by rw [← a2, ← b2]; exact e)
            subst this
            rw [← hr l p e1, ← hr m p e2]
          | none =>
            obtain ⟨b1, b2⟩ := hbn m e2
            have hm' : st.bx m ≠ none := by rw [← b1]; exact hm
            exfalso
            refine apart1 (ι1.bx p) (.inr (.inl ⟨p, by rw [← a1]; exact hl, rfl⟩)) ?_
            rw [← a2, e, b2]
            exact ⟨.inl ⟨m, hm', rfl⟩, boxN m e2 hm'⟩
        | none =>
          obtain ⟨a1, a2⟩ := hbn l e1
          have hl' : st.bx l ≠ none := by rw [← a1]; exact hl
          cases e2 : ρ m with
          | some q =>
            obtain ⟨b1, b2⟩ := hbs m q e2
            exfalso
            refine apart1 (ι1.bx q) (.inr (.inl ⟨q, by rw [← b1]; exact hm, rfl⟩)) ?_
            rw [← b2, ← e, a2]
            exact ⟨.inl ⟨l, hl', rfl⟩, boxN l e1 hl'⟩
          | none =>
            obtain ⟨b1, b2⟩ := hbn m e2
            exact R.injB l m hl' (by show st.bx m ≠ none; rw [← b1]; exact hm) (by rw [← a2, ← b2]; exact e)
      injT := fun t u b p q ht hu h1 h2 => by
        cases e1 : τ t with
        | some x =>
          obtain ⟨a1, a2⟩ := hts t x e1
          have hx : H1.tg x ≠ none := by rw [← a1]; exact ht
          have h1' : ι1.tg x = some (b, p) := by rw [← a2]; exact h1
          cases e2 : τ u with
          | some y =>
            obtain ⟨b1, b2⟩ := hts u y e2
            have : x = y := R1.injT x y b p q hx (by rw [← b1]; exact hu) h1' (by rw [← b2]; exact h2)
            subst this
            rw [← hg t x e1, ← hg u x e2]
          | none =>
            obtain ⟨b1, b2⟩ := htn u e2
            have hu' : st.tg u ≠ none := by rw [← b1]; exact hu
            have h2' : ι.tg u = some (b, q) := by rw [← b2]; exact h2
            exact (apart1 b (.inr (.inr ⟨x, p, hx, h1'⟩)) ⟨.inr ⟨u, q, hu', h2'⟩, rowN u b q hu' h2'⟩).elim
        | none =>
          obtain ⟨a1, a2⟩ := htn t e1
          have ht' : st.tg t ≠ none := by rw [← a1]; exact ht
          have h1' : ι.tg t = some (b, p) := by rw [← a2]; exact h1
          cases e2 : τ u with
          | some y =>
            obtain ⟨b1, b2⟩ := hts u y e2
            exact (apart1 b (.inr (.inr ⟨y, q, by rw [← b1]; exact hu, by rw [← b2]; exact h2⟩)) ⟨.inr ⟨t, p, ht', h1'⟩, rowN t b p ht' h1'⟩).elim
          | none =>
            obtain ⟨b1, b2⟩ := htn u e2
            exact R.injT t u b p q ht' (by show st.tg u ≠ none; rw [← b1]; exact hu) h1' (by rw [← b2]; exact h2)
      injBT := fun l t b p hl ht hι e => by
        cases e1 : ρ l with
        | some x =>
          obtain ⟨a1, a2⟩ := hbs l x e1
          have hx : H1.bx x ≠ none := by rw [← a1]; exact hl
          cases e2 : τ t with
          | some y =>
            obtain ⟨b1, b2⟩ := hts t y e2
            exact R1.injBT x y b p hx (by rw [← b1]; exact ht) (by rw [← b2]; exact hι) (by rw [← a2]; exact e)
          | none =>
            obtain ⟨b1, b2⟩ := htn t e2
            have ht' : st.tg t ≠ none := by rw [← b1]; exact ht
            have hι' : ι.tg t = some (b, p) := by rw [← b2]; exact hι
            exact apart1 b (.inr (.inl ⟨x, hx, by rw [← a2]; exact e⟩)) ⟨.inr ⟨t, p, ht', hι'⟩, rowN t b p ht' hι'⟩
        | none =>
          obtain ⟨a1, a2⟩ := hbn l e1
          have hl' : st.bx l ≠ none := by rw [← a1]; exact hl
          have e' : ι.bx l = b := by rw [← a2]; exact e
          cases e2 : τ t with
          | some y =>
            obtain ⟨b1, b2⟩ := hts t y e2
            exact apart1 b (.inr (.inr ⟨y, p, by rw [← b1]; exact ht, by rw [← b2]; exact hι⟩)) ⟨.inl ⟨l, hl', e'⟩, by rw [← e']; exact boxN l e1 hl'⟩
          | none =>
            obtain ⟨b1, b2⟩ := htn t e2
            exact R.injBT l t b p hl' (by show st.tg t ≠ none; rw [← b1]; exact ht) (by rw [← b2]; exact hι) e' }
  have F' : Fr w S ι st.H w' S2 ι' st'.H :=
    { os := F.os, tape := F.tape, output := F.output, size := F.size
      keep := fun b hb ho => same b hb (fun h' => ho (hown0' b h'))
      st := hS2
      new := fun b hb => by
        have key : S2 b ∨ Owned ι1 H1 b → S b ∨ Owned ι st.H b ∨ w.heap.size ≤ b := fun h1 => by
          rcases F.new b (h1.imp (fun h => h.1) id) with h3 | h3 | h3
          · rcases h3 with h3 | h3
            · exact .inl h3
            · exact .inr (.inl (hLO b h3))
          · exact .inr (.inl (hown0' b h3))
          · exact .inr (.inr h3)
        rcases hb with h1 | h1
        · exact key (.inl h1)
        · rcases own1 b h1 with h2 | h2
          · exact key (.inr h2)
          · exact .inr (.inl h2.1)
      par := fun l hl _ => (E.bx l hl).2 }
  refine ⟨v, S2, ι', st', rfl, ⟨R', F', fun l hl => (E.bx l hl).1⟩, hK, ⟨fun u i hi hu => ?_, fun k hk => ?_⟩, fun hlo' b hb => ?_⟩
  · have e : st'.s i = st.s i := by
      show (st.put d res').s i = st.s i
      cases d with
      | none => rfl
      | some k => exact upd_ne _ _ (fun e => hi (by rw [e]))
    rw [e]; exact hu.ext E R
  · have e : st'.s k = res' := by
      show (st.put d res').s k = res'
      subst hk; exact upd_same _ _ _
    rw [e]
    exact hres.vl (fun l p e h1 => ⟨by show st'.bx l ≠ none; rw [(hbs l p e).1]; exact h1, (hbs l p e).2⟩) (fun t p e => hts t p e) (toS2 hvr (hflat.symm.imp (fun h => h.1) id))
  · rcases hlo with h1 | h1
    · rw [h1] at hlo'; cases hlo'
    · refine same b hb fun h' => ?_
      obtain ⟨l, p, c, _, h3, _⟩ := hown0 b h'
      rw [h1 p] at h3; cases h3

/-! ### Calls, in forms for use -/

/-- An argument as the callee gets it: the nil slice is a slice of none, rows are lent. -/
def toArgL : AV → AV
  | .nils sz => .d (.sl sz [])
  | .own _ sz _ rows => .d (.sl sz rows)
  | x => x
def toArg : AV → AV
  | .agg cs => .agg (cs.map toArgL)
  | .clos f a b => .clos f (a.map toArgL) (b.map toArgL)
  | x => toArgL x

theorem toArgL_arg {ρ : Nat → Option Nat} {L : Nat → Prop} {H0 : Hp} {x : AV} (hL : ∀ t ∈ tagsL x, L t) (h : pureB (toArgL x) = true) : Arg ρ L H0 x (toArgL x) := by
  cases x <;> first | exact .nils _ | exact .lend (hL _ (by simp [tagsL])) | exact .pure h

theorem pure_leaf {x : AV} (h : leafP x = true) : pureB x = true := by
  cases x <;> first | exact h | simp [leafP] at h

theorem toArg_arg {ρ : Nat → Option Nat} {L : Nat → Prop} {H0 : Hp} {x : AV} (hL : ∀ t ∈ tagsA x, L t) (hc : ∀ f a b, x = .clos f a b → ∀ y ∈ a ++ b, tagsL y = []) (h : pureB (toArg x) = true) : Arg ρ L H0 x (toArg x) := by
  cases x with
  | agg cs =>
    refine .agg (by simp) (fun j h1 h2 => ?_)
    simp only [List.getElem_map]
    refine toArgL_arg (fun t ht => hL t ?_) ?_
    · simp only [tagsA, List.mem_flatMap]
      exact ⟨_, List.getElem_mem h1, ht⟩
    · simp only [toArg, pureB, pure1, List.all_eq_true, List.mem_map, forall_exists_index, and_imp, forall_apply_eq_imp_iff₂] at h
      exact pure_leaf (h _ (List.getElem_mem h1))
  | clos f a b =>
    have h' : (∀ y ∈ a, pure1 (toArgL y) = true) ∧ (∀ y ∈ b, pure1 (toArgL y) = true) := by
      simpa [toArg, pureB] using h
    have p1 : ∀ y : AV, pure1 y = true → pureB y = true := fun y hy => by cases y <;> first | exact hy | simp [pure1, leafP] at hy
    refine .clos (by simp) (fun j h1 h2 => ?_) (by simp) (fun j h1 h2 => ?_)
    · simp only [List.getElem_map]
      exact toArgL_arg (fun t ht => by rw [hc _ _ _ rfl _ (by simp)] at ht; simp at ht) (p1 _ (h'.1 _ (List.getElem_mem h1)))
    · simp only [List.getElem_map]
      exact toArgL_arg (fun t ht => by rw [hc _ _ _ rfl _ (by simp)] at ht; simp at ht) (p1 _ (h'.2 _ (List.getElem_mem h1)))
  | _ => exact toArgL_arg hL h

/-- No rows in a function value. -/
def noClosTags : AV → Bool
  | .clos _ a b => (a ++ b).all fun y => (tagsL y).isEmpty
  | _ => true

/-- The callee's first box and row, at the caller's d. -/
def renL (l d : Nat) : AV → AV
  | .ptr p o => if p = 1000000 then .ptr l o else .ptr d o
  | .own _ sz off rows => .own d sz off rows
  | x => x
def ren1 (l d : Nat) : AV → AV
  | .agg cs => .agg (cs.map (renL l d))
  | x => renL l d x
def renA (l d : Nat) : AV → AV
  | .tup vs => .tup (vs.map (ren1 l d))
  | x => ren1 l d x

/-- Of a result: pure, but for the row 0 and the boxes 0 and 1000000 where they are there. -/
def okL (bx0 bxM tg0 : Bool) : AV → Bool
  | .ptr p _ => (p == 0 && bx0) || (p == 1000000 && bxM)
  | .own t _ _ _ => t == 0 && tg0
  | x => leafP x
def ok1 (a b c : Bool) : AV → Bool
  | .agg cs => cs.all (okL a b c)
  | x => okL a b c x
def okA (a b c : Bool) : AV → Bool
  | .tup vs => vs.all (ok1 a b c)
  | x => ok1 a b c x

section
variable {ρ τ : Nat → Option Nat} {l d : Nat} {b0 bM t0 : Bool}

theorem renL_res (h0 : b0 = true → ρ d = some 0) (hM : bM = true → ρ l = some 1000000) (ht : t0 = true → τ d = some 0) {x : AV} (h : okL b0 bM t0 x = true) : Res ρ τ x (renL l d x) := by
  cases x with
  | ptr p o =>
    simp only [okL, Bool.or_eq_true, Bool.and_eq_true, beq_iff_eq] at h
    simp only [renL]
    split
    · rename_i e; subst e
      rcases h with h | h
      · omega
      · exact .ptr (hM h.2)
    · rename_i e
      rcases h with h | h
      · obtain ⟨rfl, h⟩ := h; exact .ptr (h0 h)
      · omega
  | own t sz off rows =>
    simp only [okL, Bool.and_eq_true, beq_iff_eq] at h
    obtain ⟨rfl, h⟩ := h
    exact .own (ht h)
  | d _ => exact .pure h
  | nils _ => exact .pure h
  | rptr _ => exact .pure h
  | any => exact .pure h
  | optr _ _ _ _ _ => simp [okL, leafP] at h
  | agg _ => simp [okL, leafP] at h
  | tup _ => simp [okL, leafP] at h
  | clos _ _ _ => simp [okL, leafP] at h

theorem ren1_res (h0 : b0 = true → ρ d = some 0) (hM : bM = true → ρ l = some 1000000) (ht : t0 = true → τ d = some 0) {x : AV} (h : ok1 b0 bM t0 x = true) : Res ρ τ x (ren1 l d x) := by
  cases x with
  | agg cs =>
    simp only [ok1, List.all_eq_true] at h
    exact .agg (by simp) (fun j h1 h2 => by simp only [List.getElem_map]; exact renL_res h0 hM ht (h _ (List.getElem_mem h1)))
  | _ => exact renL_res h0 hM ht h

theorem renA_res (h0 : b0 = true → ρ d = some 0) (hM : bM = true → ρ l = some 1000000) (ht : t0 = true → τ d = some 0) {x : AV} (h : okA b0 bM t0 x = true) : Res ρ τ x (renA l d x) := by
  cases x with
  | tup cs =>
    simp only [okA, List.all_eq_true] at h
    exact .tup (by simp) (fun j h1 h2 => by simp only [List.getElem_map]; exact ren1_res h0 hM ht (h _ (List.getElem_mem h1)))
  | _ => exact ren1_res h0 hM ht h
end

/-- What the callee leaves: its box 0, its box 1000000, its row 0, where they are there. -/
def Hp.mk3 (b0 bM : Option (List AV)) (t0 : Option (Nat × Nat)) : Hp :=
  ⟨fun p => if p = 0 then b0 else if p = 1000000 then bM else .none, fun t => if t = 0 then t0 else .none⟩

def updO {α : Type} (f : Nat → Option α) (i : Nat) : Option α → Nat → Option α
  | .none => f
  | .some v => upd f i (.some v)

/-- Which box of the caller's is which of the callee's. -/
def roUse (l d : Nat) (hM nb : Bool) (k : Nat) : Option Nat := if k = l ∧ hM = true then some 1000000 else if k = d ∧ nb = true then some 0 else none
def toUse (d : Nat) (nt : Bool) (k : Nat) : Option Nat := if k = d ∧ nt = true then some 0 else none

theorem mk3_0 {b0 bM : Option (List AV)} {t0 : Option (Nat × Nat)} : (Hp.mk3 b0 bM t0).bx 0 = b0 := rfl
theorem mk3_M {b0 bM : Option (List AV)} {t0 : Option (Nat × Nat)} : (Hp.mk3 b0 bM t0).bx 1000000 = bM := rfl
theorem mk3_bx {b0 bM : Option (List AV)} {t0 : Option (Nat × Nat)} {p : Nat} {c : List AV} (h : (Hp.mk3 b0 bM t0).bx p = some c) : (p = 0 ∧ b0 = some c) ∨ (p = 1000000 ∧ bM = some c) := by
  simp only [Hp.mk3] at h
  split at h
  · exact .inl ⟨‹_›, h⟩
  · split at h
    · exact .inr ⟨‹_›, h⟩
    · cases h

theorem bx_use {f : Nat → Option (List AV)} {l d : Nat} {m nb : Bool} {b0 bM' : Option (List AV)} {t0 : Option (Nat × Nat)} (e1 : b0.isSome = nb) (e2 : bM'.isSome = m) (hld : m = true → nb = true → l ≠ d) (k : Nat) :
    (match roUse l d m nb k with | some p => (Hp.mk3 b0 bM' t0).bx p | none => f k) = updO (updO f l bM') d b0 k := by
  subst e1 e2
  cases b0 with
  | none =>
    cases bM' with
    | none => simp [roUse, updO]
    | some c =>
      by_cases hk : k = l
      · subst hk; simp [roUse, updO, upd_at, mk3_M]
      · simp [roUse, updO, upd_at, hk]
  | some c0 =>
    cases bM' with
    | none =>
      by_cases hk : k = d
      · subst hk; simp [roUse, updO, upd_at, mk3_0]
      · simp [roUse, updO, upd_at, hk]
    | some c =>
      have hne := hld rfl rfl
      by_cases hk : k = l
      · subst hk; simp [roUse, updO, upd_at, mk3_M, hne]
      · by_cases hk' : k = d
        · subst hk'; simp [roUse, updO, upd_at, hk, mk3_0]
        · simp [roUse, updO, upd_at, hk, hk']
theorem tg_use {f : Nat → Option (Nat × Nat)} {d : Nat} {nt : Bool} {b0 bM' : Option (List AV)} {t0 : Option (Nat × Nat)} (e3 : t0.isSome = nt) (k : Nat) :
    (match toUse d nt k with | some p => (Hp.mk3 b0 bM' t0).tg p | none => f k) = updO f d t0 k := by
  subst e3
  cases t0 with
  | none => simp [toUse, updO]
  | some c =>
    by_cases hk : k = d
    · subst hk; simp [toUse, updO, upd_at, Hp.mk3]
    · simp [toUse, updO, upd_at, hk]

/-- A call: args with at most one box of the caller's (l), which the callee knows as 1000000; rows are lent; the callee leaves a new box (nb), a new row (nt), or none. -/
theorem call_use {f : FuncId} {args args0 : List AV} {bM : Option (List AV)} {Q : AV → Hp → Prop} (h : FnE P f args0 (Hp.mk3 none bM none) Q) {st : St} {d l : Nat} {K : St → Prop} {lo : Bool} (nb nt : Bool)
    (hargs : ∀ j (h1 : j < args.length) (h2 : j < args0.length), Arg (roUse l d bM.isSome nb) (fun t => t ∈ args.flatMap tagsA) (Hp.mk3 none bM none) args[j] args0[j]) (hal : args.length = args0.length)
    (hb : ∀ c, bM = some c → c.all pureB = true ∧ st.bx l = some c) (hld : bM.isSome = true → nb = true → l ≠ d) (hlo : lo = true ∨ bM = none)
    (hd : nb = true → st.bx d = none) (ht : nt = true → st.tg d = none)
    (hK : ∀ res H1, Q res H1 → ∃ b0 bM' t0, H1 = Hp.mk3 b0 bM' t0 ∧ b0.isSome = nb ∧ bM'.isSome = bM.isSome ∧ t0.isSome = nt ∧
      (∀ c, b0 = some c → c.all pureB = true) ∧ (∀ c, bM' = some c → c.all pureB = true) ∧ okA nb bM.isSome nt res = true ∧
      (args.flatMap tagsA = [] ∨ (flatA res = true ∧ (∀ c, b0 = some c → c.all flat1 = true) ∧ (∀ c, bM' = some c → c.all flat1 = true))) ∧
      K ⟨upd st.s d (renA l d res), updO (updO st.bx l bM') d b0, updO st.tg d t0⟩) : callP P lo f args st (some d) K := by
  have rM : ∀ {k}, roUse l d bM.isSome nb k = some 1000000 → k = l ∧ bM.isSome = true := fun {k} e => by
    unfold roUse at e
    split at e
    · assumption
    · split at e <;> cases e
  have r0 : ∀ {k p}, roUse l d bM.isSome nb k = some p → (p = 1000000 ∧ k = l ∧ bM.isSome = true) ∨ (p = 0 ∧ k = d ∧ nb = true ∧ ¬ (k = l ∧ bM.isSome = true)) := fun {k p} e => by
    unfold roUse at e
    split at e
    · cases e; exact .inl ⟨rfl, by assumption⟩
    · rename_i hn
      split at e
      · rename_i h2
        cases e; exact .inr ⟨rfl, h2.1, h2.2, hn⟩
      · cases e
  have t0' : ∀ {k p}, toUse d nt k = some p → p = 0 ∧ k = d ∧ nt = true := fun {k p} e => by
    unfold toUse at e
    split at e
    · rename_i h2
      cases e; exact ⟨rfl, h2⟩
    · cases e
  refine call_gen h (roUse l d bM.isSome nb) (toUse d nt) (fun p => if p = 1000000 then l else d) (fun _ => d) (fun t => t ∈ args.flatMap tagsA) (fun k p e => ?_) (fun k p e => (t0' e).2.1.symm) hal hargs (fun p c hc => ?_) (fun p => ?_)
    (fun k p e h0 => ?_) (fun k p e => ?_) (hlo.imp id (fun e p => ?_)) (fun res H1 hQ => ?_)
  · rcases r0 e with ⟨rfl, rfl, _⟩ | ⟨rfl, rfl, _⟩
    · simp
    · simp
  · rcases mk3_bx hc with ⟨rfl, h0⟩ | ⟨rfl, h0⟩
    · cases h0
    · exact ⟨(hb c h0).1, l, by simp [roUse, h0], (hb c h0).2⟩
  · simp [Hp.mk3]
  · rcases r0 e with ⟨rfl, rfl, h1⟩ | ⟨rfl, rfl, h1, _⟩
    · rw [mk3_M] at h0; rw [h0] at h1; cases h1
    · exact hd h1
  · obtain ⟨_, rfl, h1⟩ := t0' e
    exact ht h1
  · subst e
    simp [Hp.mk3]
  · obtain ⟨b0, bM', t0, rfl, e1, e2, e3, e4, e5, e6, e7, hKK⟩ := hK res H1 hQ
    refine ⟨fun p c hc => ?_, fun k p e => ?_, ?_, renA l d res, renA_res (b0 := nb) (bM := bM.isSome) (t0 := nt) (fun e => ?_) (fun e => by simp [roUse, e]) (fun e => by simp [toUse, e]) e6, ?_⟩
    · rcases mk3_bx hc with ⟨rfl, h0⟩ | ⟨rfl, h0⟩
      · exact e4 c h0
      · exact e5 c h0
    · rcases r0 e with ⟨rfl, rfl, h1⟩ | ⟨rfl, rfl, h1, _⟩
      · rw [mk3_M]
        rw [← e2] at h1
        intro h0; rw [h0] at h1; cases h1
      · rw [mk3_0]
        rw [← e1] at h1
        intro h0; rw [h0] at h1; cases h1
    · rcases e7 with e7 | ⟨e7, e8, e9⟩
      · left; intro t ht'; rw [e7] at ht'; cases ht'
      · refine .inr ⟨e7, fun p c hc => ?_⟩
        rcases mk3_bx hc with ⟨rfl, h0⟩ | ⟨rfl, h0⟩
        · exact e8 c h0
        · exact e9 c h0
    · by_cases hM : bM.isSome = true
      · have := hld hM e
        simp [roUse, e, Ne.symm this]
      · simp [roUse, e, hM]
    · have hst : st.call (some d) (roUse l d bM.isSome nb) (toUse d nt) (Hp.mk3 b0 bM' t0) (renA l d res) = ⟨upd st.s d (renA l d res), updO (updO st.bx l bM') d b0, updO st.tg d t0⟩ := by
        simp only [St.call, St.put]
        congr 1
        · funext k; exact bx_use e1 e2 hld k
        · funext k; exact tg_use e3 k
      rw [hst]; exact hKK

end
end Go.Proofs.YtchmoleeajkioaaDoor.V
