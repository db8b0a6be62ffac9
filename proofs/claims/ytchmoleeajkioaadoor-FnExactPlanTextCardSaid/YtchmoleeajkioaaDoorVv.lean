/-
  THE LOGIC V, PART v: contracts as they are used: how a function ends, and how it is called.
-/
import Derived.Test.YtchmoleeajkioaaDoorVt
namespace Go.Proofs.YtchmoleeajkioaaDoor.V
open Go Go.RowKit
set_option linter.unusedSimpArgs false
set_option linter.unusedVariables false

/-- Exact contract: args and the box 1000000 before; the result, the boxes 0 and 1000000 and the row 0 behind. -/
def Fn (P : Program) (f : FuncId) (args : List AV) (bM : Option (List AV)) (res : AV) (b0 bM' : Option (List AV)) (t0 : Option (Nat × Nat)) : Prop :=
  FnE P f args (Hp.mk3 none bM none) fun r h => r = res ∧ h = Hp.mk3 b0 bM' t0

/-- What a call leaves. -/
structure Ret where
  r : AV
  b0 : Option (List AV) := none
  bM : Option (List AV) := none
  t0 : Option (Nat × Nat) := none

/-- Contract by a property of what the call leaves. -/
def FnX (P : Program) (f : FuncId) (args : List AV) (bM : Option (List AV)) (Φ : Ret → Prop) : Prop :=
  FnE P f args (Hp.mk3 none bM none) fun r h => ∃ q : Ret, Φ q ∧ r = q.r ∧ h = Hp.mk3 q.b0 q.bM q.t0

theorem Fn.x {P : Program} {f : FuncId} {args : List AV} {bM : Option (List AV)} {res : AV} {b0 bM' : Option (List AV)} {t0 : Option (Nat × Nat)} (h : Fn P f args bM res b0 bM' t0) : FnX P f args bM (· = ⟨res, b0, bM', t0⟩) :=
  h.mono fun r h ⟨h1, h2⟩ => ⟨_, rfl, h1, h2⟩

section
variable {P : Program} {w : World} {S : Nat → Prop} {ι : Io} {loud : Nat → Bool}

/-! ### The end of a function -/

/-- What a value is told as at the end: the row t (where it is given) is the row 0; other rows are written no more; the box k is the box 0. -/
def finL (k : Nat) (t : Option Nat) : AV → AV
  | .nils sz => .d (.sl sz [])
  | .own u sz off rows => if t = some u then .own 0 sz off rows else .d (.sl sz rows)
  | .ptr l o => if l = k then .ptr 0 o else .ptr l o
  | x => x
def fin1 (k : Nat) (t : Option Nat) : AV → AV
  | .agg cs => .agg (cs.map (finL k t))
  | x => finL k t x
def finA (k : Nat) (t : Option Nat) : AV → AV
  | .tup vs => .tup (vs.map (fin1 k t))
  | x => fin1 k t x

/-- The result may be told so. -/
def finOkL (k : Nat) (nb : Bool) : AV → Bool
  | .ptr l _ => (l == k && nb) || l == 1000000
  | .optr .. | .agg _ | .tup _ | .clos .. => false
  | _ => true
def finOk1 (k : Nat) (nb : Bool) : AV → Bool
  | .agg cs => cs.all (finOkL k nb)
  | x => finOkL k nb x
def finOkA (k : Nat) (nb : Bool) : AV → Bool
  | .tup vs => vs.all (finOk1 k nb)
  | x => finOk1 k nb x
/-- What a box may hold at the end. -/
def finOkC : AV → Bool
  | .ptr .. | .optr .. | .agg _ | .tup _ | .clos .. => false
  | _ => true

/-- How what is told at the end is told. -/
structure Fin (S : Nat → Prop) (ι : Io) (st : St) (k : Nat) (nb : Bool) (t : Option Nat) (S' : Nat → Prop) (ι' : Io) (H' : Hp) : Prop where
  hS : ∀ b, S b → S' b
  row : ∀ u b base, st.tg u ≠ none → ι.tg u = some (b, base) → t ≠ some u → S' b
  hk : nb = true → H'.bx 0 ≠ none ∧ ι'.bx 0 = ι.bx k
  hM : st.bx 1000000 ≠ none → H'.bx 1000000 ≠ none ∧ ι'.bx 1000000 = ι.bx 1000000
  hu : ∀ u, t = some u → H'.tg 0 = st.tg u ∧ ι'.tg 0 = ι.tg u
  kM : k ≠ 1000000

theorem Fin.vlL {st : St} {k : Nat} {t : Option Nat} {nb : Bool} {S' : Nat → Prop} {ι' : Io} {H' : Hp} (F : Fin S ι st k nb t S' ι' H')
    {x : AV} (hx : finOkL k nb x = true) {v : Value} (h : VL w S ι st.H v x) : VL w S' ι' H' v (finL k t x) := by
  cases h with
  | any v => exact .any v
  | d h => exact .d (h.keep F.hS (fun _ _ => rfl))
  | nils sz => exact .d (.nil _ _ _)
  | @ptr l o h =>
    simp only [finOkL, Bool.or_eq_true, Bool.and_eq_true, beq_iff_eq] at hx
    simp only [finL]
    split
    · rename_i e; subst e
      rcases hx with hx | hx
      · obtain ⟨h1, h2⟩ := F.hk hx.2
        rw [← h2]; exact .ptr h1
      · exact absurd hx F.kM
    · rename_i e
      rcases hx with hx | rfl
      · exact absurd hx.1 e
      · obtain ⟨h1, h2⟩ := F.hM h
        rw [← h2]; exact .ptr h1
  | @onil u sz n h1 h2 =>
    simp only [finL]
    split
    · rename_i e
      obtain ⟨h3, h4⟩ := F.hu _ e
      exact .onil (by rw [h3]; exact h1) (by rw [h4]; exact h2)
    · exact .d (.nil _ _ _)
  | oemp h1 h2 h3 =>
    simp only [finL]
    split
    · rename_i e
      obtain ⟨h4, h5⟩ := F.hu _ e
      exact .oemp (by rw [h4]; exact h1) h2 h3
    · exact .d (.nil _ _ _)
  | @own u sz n b base off cap rows h1 h2 h3 h4 cv h5 h6 h7 h8 =>
    simp only [finL]
    split
    · rename_i e
      obtain ⟨g1, g2⟩ := F.hu _ e
      exact .own (by rw [g1]; exact h1) (by rw [g2]; exact h2) h3 h4 cv h5 (fun i j hi hj => (h6 i j hi hj).keep F.hS (fun _ _ => rfl)) h7 h8
    · rename_i e
      refine .d (.sl cv h7 (F.row _ _ _ (by rw [show st.tg u = _ from h1]; simp) h2 e) h4 (fun i j hi hj => ?_) (fun i j hi hj => (h6 i j hi hj).keep F.hS (fun _ _ => rfl)))
      rw [← h5 i j hi hj]
      congr 2
      rw [Nat.add_mul]; omega
  | rptr cv h1 h2 h3 => exact .rptr cv (F.hS _ h1) h2 (fun j hj => (h3 j hj).keep F.hS (fun _ _ => rfl))
  | _ => simp [finOkL] at hx

theorem Fin.vl1 {st : St} {k : Nat} {t : Option Nat} {nb : Bool} {S' : Nat → Prop} {ι' : Io} {H' : Hp} (F : Fin S ι st k nb t S' ι' H')
    {x : AV} (hx : finOk1 k nb x = true) {v : Value} (h : VL w S ι st.H v x) : VL w S' ι' H' v (fin1 k t x) := by
  cases x with
  | agg cs =>
    simp only [finOk1, List.all_eq_true] at hx
    cases h with
    | agg h1 h2 => exact .agg (by simpa using h1) (fun j hj => by simp only [List.getElem_map]; exact F.vlL (hx _ (List.getElem_mem _)) (h2 j (by simpa using hj)))
  | _ => exact F.vlL (by exact hx) h

theorem Fin.vl {st : St} {k : Nat} {t : Option Nat} {nb : Bool} {S' : Nat → Prop} {ι' : Io} {H' : Hp} (F : Fin S ι st k nb t S' ι' H')
    {x : AV} (hx : finOkA k nb x = true) {v : Value} (h : VL w S ι st.H v x) : VL w S' ι' H' v (finA k t x) := by
  cases x with
  | tup cs =>
    simp only [finOkA, List.all_eq_true] at hx
    cases h with
    | tup h1 h2 => exact .tup (by simpa using h1) (fun j hj => by simp only [List.getElem_map]; exact F.vl1 (hx _ (List.getElem_mem _)) (h2 j (by simpa using hj)))
  | _ => exact F.vl1 (by exact hx) h

def rowOut (st : St) : Option Nat → Option (Nat × Nat) → Prop
  | none, t0 => t0 = none
  | some u, t0 => t0 = st.tg u ∧ st.tg u ≠ none

/-- The end: the box k (nb) and the row t (where it is given) are left. -/
theorem end_use {rs : List RV} {st : St} {Q : AV → Hp → Prop} (k : Nat) (nb : Bool) (t : Option Nat) {b0 bM : Option (List AV)} {t0 : Option (Nat × Nat)} (hp : resP st rs) (hbig : ∀ l, 1000000 < l → st.bx l = none)
    (hb0 : b0 = if nb then (st.bx k).map (List.map (finL k t)) else none) (hkb : nb = true → st.bx k ≠ none ∧ k ≠ 1000000 ∧ (k ≠ 0 → st.bx 0 = none)) (hbM : bM = (st.bx 1000000).map (List.map (finL k t)))
    (hkM : k ≠ 1000000) (ht0 : rowOut st t t0) (hc0 : ∀ c, nb = true → st.bx k = some c → c.all finOkC = true) (hcM : ∀ c, st.bx 1000000 = some c → c.all finOkC = true)
    (hok : finOkA k nb (resA rs st) = true) (hQ : Q (finA k t (resA rs st)) (Hp.mk3 b0 bM t0)) : endQ rs Q st := by
  refine ⟨hp, ⟨fun i => if i = 1000000 then finA k t (resA rs st) else .any, (Hp.mk3 b0 bM t0).bx, (Hp.mk3 b0 bM t0).tg⟩, ⟨fun _ => .any, ?_, ?_⟩, hQ⟩
  · intro w S ι R
    have R : HR w S ι st.H := R
    let S' : Nat → Prop := fun b => S b ∨ ∃ u base, st.tg u ≠ none ∧ ι.tg u = some (b, base) ∧ t ≠ some u
    let ι' : Io := ⟨fun l => if l = 0 then ι.bx k else ι.bx l, fun _ => match t with | some u => ι.tg u | none => none⟩
    let H' : Hp := Hp.mk3 b0 bM t0
    have hH0 : H'.bx 0 = b0 := rfl
    have hHM : H'.bx 1000000 = bM := rfl
    have hHt : H'.tg 0 = t0 := rfl
    have b0n : ∀ {c}, b0 = some c → nb = true ∧ ∃ c', st.bx k = some c' ∧ c = c'.map (finL k t) := fun {c} h => by
      rw [hb0] at h
      split at h
      · obtain ⟨c', h1, h2⟩ := map_some h
        exact ⟨by assumption, c', h1, h2.symm⟩
      · cases h
    have bMn : ∀ {c}, bM = some c → ∃ c', st.bx 1000000 = some c' ∧ c = c'.map (finL k t) := fun {c} h => by
      rw [hbM] at h
      obtain ⟨c', h1, h2⟩ := map_some h
      exact ⟨c', h1, h2.symm⟩
    have src : ∀ {l c}, H'.bx l = some c → ∃ m c', st.bx m = some c' ∧ c = c'.map (finL k t) ∧ ι'.bx l = ι.bx m ∧ ((l = 0 ∧ m = k ∧ nb = true) ∨ (l = 1000000 ∧ m = 1000000)) := fun {l c} h => by
      rcases mk3_bx h with ⟨rfl, h1⟩ | ⟨rfl, h1⟩
      · obtain ⟨h2, c', h3, h4⟩ := b0n h1
        exact ⟨k, c', h3, h4, by simp [ι'], .inl ⟨rfl, rfl, h2⟩⟩
      · obtain ⟨c', h3, h4⟩ := bMn h1
        exact ⟨1000000, c', h3, h4, by simp [ι'], .inr ⟨rfl, rfl⟩⟩
    have srcT : ∀ {u x}, H'.tg u = some x → ∃ v, t = some v ∧ st.tg v = some x ∧ u = 0 ∧ ι'.tg u = ι.tg v := fun {u x} h => by
      simp only [H', Hp.mk3] at h
      split at h
      · rename_i e
        cases t with
        | none => simp only [rowOut] at ht0; rw [ht0] at h; cases h
        | some v =>
          simp only [rowOut] at ht0
          exact ⟨v, rfl, by rw [← ht0.1]; exact h, e, rfl⟩
      · cases h
    have ne' : ∀ {α : Type} {a : Option α}, a ≠ none → ∃ c, a = some c := fun h => Option.ne_none_iff_exists'.1 h
    have F : Fin S ι st k nb t S' ι' H' :=
      { hS := fun b hb => .inl hb
        row := fun u b base h1 h2 h3 => .inr ⟨u, base, h1, h2, h3⟩
        hk := fun h => by
          refine ⟨?_, by simp [ι']⟩
          rw [hH0, hb0, if_pos h]
          obtain ⟨c, hc⟩ := ne' (hkb h).1
          simp [hc]
        hM := fun h => by
          refine ⟨?_, by simp [ι']⟩
          rw [hHM, hbM]
          obtain ⟨c, hc⟩ := ne' h
          simp [hc]
        hu := fun u e => by
          subst e
          simp only [rowOut] at ht0
          exact ⟨ht0.1, rfl⟩
        kM := hkM }
    have own' : ∀ b, Owned ι' H' b → Owned ι st.H b ∧ ¬ S' b := by
      intro b h
      rcases h with ⟨l, h1, h2⟩ | ⟨u, base, h1, h2⟩
      · obtain ⟨c, hc⟩ := ne' h1
        obtain ⟨m, c', h3, _, h4, _⟩ := src hc
        have ho : Owned ι st.H b := .inl ⟨m, by rw [show st.H.bx m = _ from h3]; simp, by rw [← h4]; exact h2⟩
        refine ⟨ho, fun hS => ?_⟩
        rcases hS with hS | ⟨u, base, g1, g2, _⟩
        · exact (R.stable b hS).2 ho
        · exact R.injBT m u b base (by rw [show st.H.bx m = _ from h3]; simp) g1 g2 (by rw [← h4]; exact h2)
      · obtain ⟨x, hx⟩ := ne' h1
        obtain ⟨v, h3, h4, _, h5⟩ := srcT hx
        have hv : st.H.tg v ≠ none := by rw [show st.H.tg v = _ from h4]; simp
        have ho : Owned ι st.H b := .inr ⟨v, base, hv, by rw [← h5]; exact h2⟩
        refine ⟨ho, fun hS => ?_⟩
        rcases hS with hS | ⟨q, base', g1, g2, g3⟩
        · exact (R.stable b hS).2 ho
        · have := R.injT v q b base base' hv g1 (by rw [← h5]; exact h2) g2
          subst this; exact g3 h3
    refine ⟨S', ι', ?_, ?_, fun _ _ _ => .any _, fun v i hv => ?_⟩
    · exact
      { stable := fun b hb => by
          refine ⟨?_, fun h => (own' b h).2 hb⟩
          rcases hb with hb | ⟨u, base, h1, h2, _⟩
          · exact (R.stable b hb).1
          · exact R.owned_lt (.inr ⟨u, base, h1, h2⟩)
        boxes := fun l c hc => by
          obtain ⟨m, c', h3, rfl, h4, h5⟩ := src hc
          obtain ⟨cs, T, q1, q2, q3⟩ := R.boxes m c' h3
          refine ⟨cs, T, by rw [h4]; exact q1, by simpa using q2, fun j hj => ?_⟩
          simp only [List.length_map] at hj
          simp only [List.getElem_map]
          refine F.vlL ?_ (q3 j hj)
          have : c'.all finOkC = true := by
            rcases h5 with ⟨_, rfl, h⟩ | ⟨_, rfl⟩
            · exact hc0 _ h h3
            · exact hcM _ h3
          have := List.all_eq_true.1 this _ (List.getElem_mem hj)
          revert this
          cases c'[j] <;> simp [finOkC, finOkL]
        rows := fun u sz n h => by
          obtain ⟨v, h1, h2, h3, h4⟩ := srcT h
          obtain ⟨q1, q2⟩ := R.rows v sz n h2
          exact ⟨fun b base hι => q1 b base (by rw [← h4]; exact hι), fun hι => q2 (by rw [← h4]; exact hι)⟩
        injB := fun l m hl hm e => by
          obtain ⟨c, hc⟩ := ne' hl
          obtain ⟨c', hc'⟩ := ne' hm
          obtain ⟨p, _, h1, _, h2, h3⟩ := src hc
          obtain ⟨q, _, h4, _, h5, h6⟩ := src hc'
          have := R.injB p q (by rw [show st.H.bx p = _ from h1]; simp) (by rw [show st.H.bx q = _ from h4]; simp) (by rw [← h2, ← h5]; exact e)
          rcases h3 with ⟨rfl, rfl, h3⟩ | ⟨rfl, rfl⟩
          · rcases h6 with ⟨rfl, rfl, _⟩ | ⟨rfl, rfl⟩
            · rfl
            · exact absurd this hkM
          · rcases h6 with ⟨rfl, rfl, _⟩ | ⟨rfl, rfl⟩
            · exact absurd this.symm hkM
            · rfl
        injT := fun u v b p q hu hv _ _ => by
          obtain ⟨x, hx⟩ := ne' hu
          obtain ⟨y, hy⟩ := ne' hv
          obtain ⟨_, _, _, rfl, _⟩ := srcT hx
          obtain ⟨_, _, _, rfl, _⟩ := srcT hy
          rfl
        injBT := fun l u b p hl hu hι e => by
          obtain ⟨c, hc⟩ := ne' hl
          obtain ⟨x, hx⟩ := ne' hu
          obtain ⟨m, _, h1, _, h2, _⟩ := src hc
          obtain ⟨v, _, h4, _, h5⟩ := srcT hx
          exact R.injBT m v b p (by rw [show st.H.bx m = _ from h1]; simp) (by rw [show st.H.tg v = _ from h4]; simp) (by rw [← h5]; exact hι) (by rw [← h2]; exact e) }
    · exact { os := rfl, tape := rfl, output := rfl, size := Nat.le_refl _, keep := fun _ _ _ => rfl, st := fun b hb => .inl hb, new := fun b h => by
                rcases h with (h | ⟨u, base, h1, h2, _⟩) | h
                · exact .inl h
                · exact .inr (.inl (.inr ⟨u, base, h1, h2⟩))
                · exact .inr (.inl (own' b h).1),
              par := fun l hl hl' => by
                obtain ⟨c, hc⟩ := ne' hl'
                obtain ⟨m, c', h3, _, h4, h5⟩ := src hc
                rcases h5 with ⟨rfl, rfl, h⟩ | ⟨rfl, rfl⟩
                · by_cases e : m = 0
                  · subst e; exact h4
                  · exact absurd ((hkb h).2.2 e) hl
                · exact h4 }
    · by_cases e : i = 1000000
      · subst e
        have : VL w S ι st.H v (resA rs st) := by simpa [St.fin, upd_same] using hv
        simp only [if_true]
        exact F.vl hok this
      · simp only [if_neg e]; exact .any _
  · intro l hl h
    have h : st.bx l ≠ none := h
    by_cases e : l = 1000000
    · subst e
      show bM ≠ none
      rw [hbM]
      cases hc : st.bx 1000000 with
      | none => exact absurd hc h
      | some c => simp
    · exact absurd (hbig l (by omega)) h

theorem endQ_mono {rs : List RV} {st : St} {Q Q' : AV → Hp → Prop} (h : ∀ r h, Q r h → Q' r h) (he : endQ rs Q st) : endQ rs Q' st := ⟨he.1, he.2.choose, he.2.choose_spec.1, h _ _ he.2.choose_spec.2⟩

/-! ### Calls -/

def argL (l : Nat) : AV → AV
  | .ptr m o => if m = l then .ptr 1000000 o else .ptr m o
  | x => toArgL x
/-- An argument as the callee gets it. -/
def argA (l : Nat) : AV → AV
  | .agg cs => .agg (cs.map (argL l))
  | .clos f a b => .clos f (a.map (argL l)) (b.map (argL l))
  | x => argL l x

def okArgL (l : Nat) (m : Bool) : AV → Bool
  | .ptr k _ => k == l && m
  | .optr .. | .agg _ | .tup _ | .clos .. => false
  | _ => true
def okArg (l : Nat) (m : Bool) : AV → Bool
  | .agg cs => cs.all (okArgL l m)
  | .clos _ a b => (a ++ b).all fun x => okArgL l m x && (tagsL x).isEmpty
  | x => okArgL l m x

theorem argL_arg {l d : Nat} {nb : Bool} {bM : Option (List AV)} {L : Nat → Prop} {x : AV} (hL : ∀ t ∈ tagsL x, L t) (h : okArgL l bM.isSome x = true) :
    Arg (roUse l d bM.isSome nb) L (Hp.mk3 none bM none) x (argL l x) := by
  cases x with
  | ptr m o =>
    simp only [okArgL, Bool.and_eq_true, beq_iff_eq] at h
    obtain ⟨rfl, h⟩ := h
    simp only [argL, if_true]
    refine .ptr (by simp [roUse, h]) ?_
    rw [mk3_M]
    intro e; rw [e] at h; cases h
  | own t sz off rows => exact .lend (hL _ (by simp [tagsL]))
  | nils sz => exact .nils sz
  | d x => exact .pure rfl
  | rptr x => exact .pure rfl
  | any => exact .pure rfl
  | optr _ _ _ _ _ => simp [okArgL] at h
  | agg _ => simp [okArgL] at h
  | tup _ => simp [okArgL] at h
  | clos _ _ _ => simp [okArgL] at h

theorem argA_arg {l d : Nat} {nb : Bool} {bM : Option (List AV)} {L : Nat → Prop} {x : AV} (hL : ∀ t ∈ tagsA x, L t) (h : okArg l bM.isSome x = true) :
    Arg (roUse l d bM.isSome nb) L (Hp.mk3 none bM none) x (argA l x) := by
  cases x with
  | agg cs =>
    simp only [okArg, List.all_eq_true] at h
    refine .agg (by simp) (fun j h1 h2 => ?_)
    simp only [List.getElem_map]
    refine argL_arg (fun t ht => hL t ?_) (h _ (List.getElem_mem _))
    simp only [tagsA, List.mem_flatMap]
    exact ⟨_, List.getElem_mem h1, ht⟩
  | clos f a b =>
    simp only [okArg, List.all_eq_true, Bool.and_eq_true, List.isEmpty_iff] at h
    refine .clos (by simp) (fun j h1 h2 => ?_) (by simp) (fun j h1 h2 => ?_)
    · simp only [List.getElem_map]
      have := h _ (List.mem_append_left b (List.getElem_mem h1))
      exact argL_arg (fun t ht => by rw [this.2] at ht; cases ht) this.1
    · simp only [List.getElem_map]
      have := h _ (List.mem_append_right a (List.getElem_mem h1))
      exact argL_arg (fun t ht => by rw [this.2] at ht; cases ht) this.1
  | _ => exact argL_arg hL h

theorem use {f : FuncId} {args args0 : List AV} {bM : Option (List AV)} {Q : AV → Hp → Prop} (h : FnE P f args0 (Hp.mk3 none bM none) Q) {st : St} {d l : Nat} {K : St → Prop} {lo : Bool} (nb nt : Bool)
    (ha : args.map (argA l) = args0) (hok : args.all (okArg l bM.isSome) = true)
    (hb : ∀ c, bM = some c → c.all pureB = true ∧ st.bx l = some c) (hld : bM.isSome = true → nb = true → l ≠ d) (hlo : lo = true ∨ bM = none)
    (hd : nb = true → st.bx d = none) (ht : nt = true → st.tg d = none)
    (hK : ∀ res H1, Q res H1 → ∃ b0 bM' t0, H1 = Hp.mk3 b0 bM' t0 ∧ b0.isSome = nb ∧ bM'.isSome = bM.isSome ∧ t0.isSome = nt ∧
      (∀ c, b0 = some c → c.all pureB = true) ∧ (∀ c, bM' = some c → c.all pureB = true) ∧ okA nb bM.isSome nt res = true ∧
      (args.flatMap tagsA = [] ∨ (flatA res = true ∧ (∀ c, b0 = some c → c.all flat1 = true) ∧ (∀ c, bM' = some c → c.all flat1 = true))) ∧
      K ⟨upd st.s d (renA l d res), updO (updO st.bx l bM') d b0, updO st.tg d t0⟩) : callX P lo f args st (some d) K := by
  subst ha
  refine .inl (call_use h nb nt (fun j h1 h2 => ?_) (by simp) hb hld hlo hd ht hK)
  simp only [List.getElem_map]
  simp only [List.all_eq_true] at hok
  refine argA_arg (fun t ht => ?_) (hok _ (List.getElem_mem h1))
  simp only [List.mem_flatMap]
  exact ⟨_, List.getElem_mem h1, ht⟩

theorem ren_leaf {l d : Nat} {x : AV} (h : leafP x = true) : renL l d x = x := by
  cases x <;> first | rfl | simp [leafP] at h
theorem ren_pure1 {l d : Nat} {x : AV} (h : pure1 x = true) : ren1 l d x = x := by
  cases x with
  | agg cs =>
    simp only [pure1, List.all_eq_true] at h
    simp only [ren1]
    congr 1
    exact (List.map_congr_left fun x hx => ren_leaf (h x hx)).trans (List.map_id _)
  | _ => first | rfl | (simp [pure1, leafP] at h; done)
theorem ren_pure {l d : Nat} {x : AV} (h : pureB x = true) (hc : ∀ f a b, x ≠ .clos f a b) : renA l d x = x := by
  cases x with
  | tup cs =>
    simp only [pureB, List.all_eq_true] at h
    simp only [renA]
    congr 1
    exact (List.map_congr_left fun x hx => ren_pure1 (h x hx)).trans (List.map_id _)
  | clos f a b => exact absurd rfl (hc f a b)
  | agg cs => exact ren_pure1 (x := .agg cs) h
  | _ => first | rfl | (simp [pureB, pure1, leafP] at h; done)

theorem okL_leaf {a b c : Bool} {x : AV} (h : leafP x = true) : okL a b c x = true := by
  cases x <;> first | exact h | simp [leafP] at h
theorem ok1_pure {a b c : Bool} {x : AV} (h : pure1 x = true) : ok1 a b c x = true := by
  cases x with
  | agg cs =>
    simp only [pure1, ok1, List.all_eq_true] at h ⊢
    exact fun x hx => okL_leaf (h x hx)
  | _ => first | rfl | (simp [pure1, leafP] at h; done)

/-- What may be a plain result. -/
def valR : AV → Bool
  | .tup vs => vs.all pure1
  | .clos .. => false
  | x => pure1 x

theorem valR_ok {a b c : Bool} {x : AV} (h : valR x = true) : okA a b c x = true := by
  cases x with
  | tup cs =>
    simp only [valR, okA, List.all_eq_true] at h ⊢
    exact fun x hx => ok1_pure (h x hx)
  | clos _ _ _ => simp [valR] at h
  | agg cs => exact ok1_pure (x := .agg cs) h
  | _ => first | rfl | (simp [valR, pure1, leafP] at h; done)
theorem valR_ren {l d : Nat} {x : AV} (h : valR x = true) : renA l d x = x := by
  cases x with
  | tup cs => exact ren_pure h (by intros; simp)
  | clos _ _ _ => simp [valR] at h
  | agg cs => exact ren_pure1 (x := .agg cs) h
  | _ => first | rfl | (simp [valR, pure1, leafP] at h; done)

/-- Plain arguments, a plain result. -/
theorem useV {f : FuncId} {args args0 : List AV} {r : AV} (h : Fn P f args0 none r none none none) {st : St} {d : Nat} {K : St → Prop} {lo : Bool} (ha : args.map (argA 1000000) = args0) (hok : args.all (okArg 1000000 false) = true)
    (hr : valR r = true) (hf : args.flatMap tagsA = [] ∨ flatA r = true) (hK : K ⟨upd st.s d r, st.bx, st.tg⟩) : callX P lo f args st (some d) K := by
  refine use (l := 1000000) h false false ha hok (fun c e => by cases e) (fun e => by cases e) (.inr rfl) (fun e => by cases e) (fun e => by cases e) ?_
  rintro res H1 ⟨rfl, rfl⟩
  refine ⟨none, none, none, rfl, rfl, rfl, rfl, (fun c e => by cases e), (fun c e => by cases e), valR_ok hr, hf.imp id (fun h => ⟨h, (fun c e => by cases e), (fun c e => by cases e)⟩), ?_⟩
  rw [valR_ren hr]; exact hK

/-- Plain arguments, a new row. -/
theorem useO {f : FuncId} {args args0 : List AV} {r : AV} {x : Nat × Nat} (h : Fn P f args0 none r none none (some x)) {st : St} {d : Nat} {K : St → Prop} {lo : Bool} (ha : args.map (argA 1000000) = args0) (hok : args.all (okArg 1000000 false) = true)
    (hr : okA false false true r = true) (hf : args.flatMap tagsA = [] ∨ flatA r = true) (ht : st.tg d = none) (hK : K ⟨upd st.s d (renA 1000000 d r), st.bx, upd st.tg d (some x)⟩) : callX P lo f args st (some d) K := by
  refine use (l := 1000000) h false true ha hok (fun c e => by cases e) (fun e => by cases e) (.inr rfl) (fun e => by cases e) (fun _ => ht) ?_
  rintro res H1 ⟨rfl, rfl⟩
  exact ⟨none, none, some x, rfl, rfl, rfl, rfl, (fun c e => by cases e), (fun c e => by cases e), hr, hf.imp id (fun h => ⟨h, (fun c e => by cases e), (fun c e => by cases e)⟩), hK⟩

/-- Plain arguments, a new box. -/
theorem useB {f : FuncId} {args args0 : List AV} {r : AV} {c : List AV} (h : Fn P f args0 none r (some c) none none) {st : St} {d : Nat} {K : St → Prop} {lo : Bool} (ha : args.map (argA 1000000) = args0) (hok : args.all (okArg 1000000 false) = true)
    (hr : okA true false false r = true) (hc : c.all pureB = true) (hf : args.flatMap tagsA = [] ∨ (flatA r = true ∧ c.all flat1 = true)) (ht : st.bx d = none) (hK : K ⟨upd st.s d (renA 1000000 d r), upd st.bx d (some c), st.tg⟩) : callX P lo f args st (some d) K := by
  refine use (l := 1000000) h true false ha hok (fun c e => by cases e) (fun e => by cases e) (.inr rfl) (fun _ => ht) (fun e => by cases e) ?_
  rintro res H1 ⟨rfl, rfl⟩
  exact ⟨some c, none, none, rfl, rfl, rfl, rfl, (fun c e => by cases e; exact hc), (fun c e => by cases e), hr, hf.imp id (fun h => ⟨h.1, (fun c e => by cases e; exact h.2), (fun c e => by cases e)⟩), hK⟩

/-- One box of the caller's among the arguments; a plain result. -/
theorem useM {f : FuncId} {args args0 : List AV} {r : AV} {c c' : List AV} (h : Fn P f args0 (some c) r none (some c') none) {st : St} {d : Nat} {K : St → Prop} (l : Nat) (ha : args.map (argA l) = args0) (hok : args.all (okArg l true) = true)
    (hb : st.bx l = some c) (hc : c.all pureB = true) (hc' : c'.all pureB = true) (hr : okA false true false r = true) (hf : args.flatMap tagsA = [] ∨ (flatA r = true ∧ c'.all flat1 = true)) (hK : K ⟨upd st.s d (renA l d r), upd st.bx l (some c'), st.tg⟩) : callX P true f args st (some d) K := by
  refine use (l := l) h false false ha hok (fun c0 e => by cases e; exact ⟨hc, hb⟩) (fun _ e => by cases e) (.inl rfl) (fun e => by cases e) (fun e => by cases e) ?_
  rintro res H1 ⟨rfl, rfl⟩
  exact ⟨none, some c', none, rfl, rfl, rfl, rfl, (fun c e => by cases e), (fun c e => by cases e; exact hc'), hr, hf.imp id (fun h => ⟨h.1, (fun c e => by cases e), (fun c e => by cases e; exact h.2)⟩), hK⟩

/-- One box of the caller's among the arguments; a new row. -/
theorem useMO {f : FuncId} {args args0 : List AV} {r : AV} {c c' : List AV} {x : Nat × Nat} (h : Fn P f args0 (some c) r none (some c') (some x)) {st : St} {d : Nat} {K : St → Prop} (l : Nat) (ha : args.map (argA l) = args0) (hok : args.all (okArg l true) = true)
    (hb : st.bx l = some c) (hc : c.all pureB = true) (hc' : c'.all pureB = true) (hr : okA false true true r = true) (hf : args.flatMap tagsA = [] ∨ (flatA r = true ∧ c'.all flat1 = true)) (ht : st.tg d = none) (hK : K ⟨upd st.s d (renA l d r), upd st.bx l (some c'), upd st.tg d (some x)⟩) : callX P true f args st (some d) K := by
  refine use (l := l) h false true ha hok (fun c0 e => by cases e; exact ⟨hc, hb⟩) (fun _ e => by cases e) (.inl rfl) (fun e => by cases e) (fun _ => ht) ?_
  rintro res H1 ⟨rfl, rfl⟩
  exact ⟨none, some c', some x, rfl, rfl, rfl, rfl, (fun c e => by cases e), (fun c e => by cases e; exact hc'), hr, hf.imp id (fun h => ⟨h.1, (fun c e => by cases e), (fun c e => by cases e; exact h.2)⟩), hK⟩

/-! The same by properties. -/

/-- A plain result of which something is known. -/
def FnV (P : Program) (f : FuncId) (args : List AV) {α : Type} (φ : α → Prop) (r : α → AV) : Prop := FnX P f args none fun q => ∃ x, φ x ∧ q = ⟨r x, none, none, none⟩
/-- A new row of which something is known. -/
def FnO (P : Program) (f : FuncId) (args : List AV) {α : Type} (φ : α → Prop) (r : α → AV) (x : α → Nat × Nat) : Prop := FnX P f args none fun q => ∃ a, φ a ∧ q = ⟨r a, none, none, some (x a)⟩
/-- The caller's box, of which something is known behind the call; a plain result. -/
def FnM (P : Program) (f : FuncId) (args : List AV) (c : List AV) {α : Type} (φ : α → Prop) (r : α → AV) (c' : α → List AV) : Prop := FnX P f args (some c) fun q => ∃ a, φ a ∧ q = ⟨r a, none, some (c' a), none⟩

theorem useVX {f : FuncId} {args args0 : List AV} {α : Type} {φ : α → Prop} {r : α → AV} (h : FnV P f args0 φ r) {st : St} {d : Nat} {K : St → Prop} {lo : Bool} (ha : args.map (argA 1000000) = args0) (hok : args.all (okArg 1000000 false) = true)
    (hr : ∀ x, φ x → valR (r x) = true) (hf : args.flatMap tagsA = [] ∨ ∀ x, φ x → flatA (r x) = true) (hK : ∀ x, φ x → K ⟨upd st.s d (r x), st.bx, st.tg⟩) : callX P lo f args st (some d) K := by
  refine use (l := 1000000) h false false ha hok (fun c e => by cases e) (fun e => by cases e) (.inr rfl) (fun e => by cases e) (fun e => by cases e) ?_
  rintro res H1 ⟨q, ⟨x, hx, rfl⟩, rfl, rfl⟩
  refine ⟨none, none, none, rfl, rfl, rfl, rfl, (fun c e => by cases e), (fun c e => by cases e), valR_ok (hr x hx), hf.imp id (fun h => ⟨h x hx, (fun c e => by cases e), (fun c e => by cases e)⟩), ?_⟩
  rw [valR_ren (hr x hx)]; exact hK x hx

theorem useOX {f : FuncId} {args args0 : List AV} {α : Type} {φ : α → Prop} {r : α → AV} {y : α → Nat × Nat} (h : FnO P f args0 φ r y) {st : St} {d : Nat} {K : St → Prop} {lo : Bool} (ha : args.map (argA 1000000) = args0) (hok : args.all (okArg 1000000 false) = true)
    (hr : ∀ x, φ x → okA false false true (r x) = true) (hf : args.flatMap tagsA = [] ∨ ∀ x, φ x → flatA (r x) = true) (ht : st.tg d = none) (hK : ∀ x, φ x → K ⟨upd st.s d (renA 1000000 d (r x)), st.bx, upd st.tg d (some (y x))⟩) : callX P lo f args st (some d) K := by
  refine use (l := 1000000) h false true ha hok (fun c e => by cases e) (fun e => by cases e) (.inr rfl) (fun e => by cases e) (fun _ => ht) ?_
  rintro res H1 ⟨q, ⟨x, hx, rfl⟩, rfl, rfl⟩
  exact ⟨none, none, some (y x), rfl, rfl, rfl, rfl, (fun c e => by cases e), (fun c e => by cases e), hr x hx, hf.imp id (fun h => ⟨h x hx, (fun c e => by cases e), (fun c e => by cases e)⟩), hK x hx⟩

theorem useMX {f : FuncId} {args args0 : List AV} {α : Type} {φ : α → Prop} {r : α → AV} {c : List AV} {c' : α → List AV} (h : FnM P f args0 c φ r c') {st : St} {d : Nat} {K : St → Prop} (l : Nat) (ha : args.map (argA l) = args0) (hok : args.all (okArg l true) = true)
    (hb : st.bx l = some c) (hc : c.all pureB = true) (hc' : ∀ x, φ x → (c' x).all pureB = true) (hr : ∀ x, φ x → okA false true false (r x) = true) (hf : args.flatMap tagsA = [] ∨ ∀ x, φ x → (flatA (r x) = true ∧ (c' x).all flat1 = true))
    (hK : ∀ x, φ x → K ⟨upd st.s d (renA l d (r x)), upd st.bx l (some (c' x)), st.tg⟩) : callX P true f args st (some d) K := by
  refine use (l := l) h false false ha hok (fun c0 e => by cases e; exact ⟨hc, hb⟩) (fun _ e => by cases e) (.inl rfl) (fun e => by cases e) (fun e => by cases e) ?_
  rintro res H1 ⟨q, ⟨x, hx, rfl⟩, rfl, rfl⟩
  exact ⟨none, some (c' x), none, rfl, rfl, rfl, rfl, (fun c e => by cases e), (fun c e => by cases e; exact hc' x hx), hr x hx, hf.imp id (fun h => ⟨(h x hx).1, (fun c e => by cases e), (fun c e => by cases e; exact (h x hx).2)⟩), hK x hx⟩

/-! ### Ends, in forms for use -/

/-- A function without boxes of the caller's: a plain result. -/
theorem endV {rs : List RV} {st : St} {r : AV} (hp : resP st rs) (hbig : ∀ l, 1000000 ≤ l → st.bx l = none) (hok : finOkA 0 false (resA rs st) = true) (hr : finA 0 none (resA rs st) = r) :
    endQ rs (fun r' h => r' = r ∧ h = Hp.mk3 none none none) st :=
  end_use 0 false none (b0 := none) (bM := none) (t0 := none) hp (fun l hl => hbig l (by omega)) rfl (fun e => by cases e) (by rw [hbig _ (Nat.le_refl _)]; rfl) (by omega) rfl (fun c e => by cases e) (fun c e => by rw [hbig _ (Nat.le_refl _)] at e; cases e) hok ⟨hr, rfl⟩

/-- .. a new row. -/
theorem endO {rs : List RV} {st : St} {r : AV} {x : Nat × Nat} (t : Nat) (hp : resP st rs) (hbig : ∀ l, 1000000 ≤ l → st.bx l = none) (hok : finOkA 0 false (resA rs st) = true) (hx : st.tg t = some x) (hr : finA 0 (some t) (resA rs st) = r) :
    endQ rs (fun r' h => r' = r ∧ h = Hp.mk3 none none (some x)) st :=
  end_use 0 false (some t) (b0 := none) (bM := none) (t0 := some x) hp (fun l hl => hbig l (by omega)) rfl (fun e => by cases e) (by rw [hbig _ (Nat.le_refl _)]; rfl) (by omega) ⟨hx.symm, by rw [hx]; simp⟩ (fun c e => by cases e) (fun c e => by rw [hbig _ (Nat.le_refl _)] at e; cases e) hok ⟨hr, rfl⟩

/-- .. a new box. -/
theorem endB {rs : List RV} {st : St} {r : AV} {c c' : List AV} (k : Nat) (hp : resP st rs) (hbig : ∀ l, 1000000 ≤ l → st.bx l = none) (hok : finOkA k true (resA rs st) = true) (hk : k < 1000000) (hc : st.bx k = some c) (h0 : k ≠ 0 → st.bx 0 = none) (hcc : c.all finOkC = true)
    (hc' : c.map (finL k none) = c') (hr : finA k none (resA rs st) = r) : endQ rs (fun r' h => r' = r ∧ h = Hp.mk3 (some c') none none) st :=
  end_use k true none (b0 := some c') (bM := none) (t0 := none) hp (fun l hl => hbig l (by omega)) (by simp [hc, hc']) (fun _ => ⟨by rw [hc]; simp, by omega, h0⟩) (by rw [hbig _ (Nat.le_refl _)]; rfl) (by omega) rfl (fun c0 _ e => by rw [hc] at e; cases e; exact hcc) (fun c e => by rw [hbig _ (Nat.le_refl _)] at e; cases e) hok ⟨hr, rfl⟩

/-- A function with a box of the caller's: a plain result. -/
theorem endM {rs : List RV} {st : St} {r : AV} {c c' : List AV} (hp : resP st rs) (hbig : ∀ l, 1000000 < l → st.bx l = none) (hok : finOkA 0 false (resA rs st) = true) (hc : st.bx 1000000 = some c) (hcc : c.all finOkC = true) (hc' : c.map (finL 0 none) = c') (hr : finA 0 none (resA rs st) = r) :
    endQ rs (fun r' h => r' = r ∧ h = Hp.mk3 none (some c') none) st :=
  end_use 0 false none (b0 := none) (bM := some c') (t0 := none) hp hbig rfl (fun e => by cases e) (by rw [hc]; simp [hc']) (by omega) rfl (fun c e => by cases e) (fun c0 e => by rw [hc] at e; cases e; exact hcc) hok ⟨hr, rfl⟩

/-- .. a new row. -/
theorem endMO {rs : List RV} {st : St} {r : AV} {c c' : List AV} {x : Nat × Nat} (t : Nat) (hp : resP st rs) (hbig : ∀ l, 1000000 < l → st.bx l = none) (hok : finOkA 0 false (resA rs st) = true) (hc : st.bx 1000000 = some c) (hcc : c.all finOkC = true) (hx : st.tg t = some x) (hc' : c.map (finL 0 (some t)) = c') (hr : finA 0 (some t) (resA rs st) = r) :
    endQ rs (fun r' h => r' = r ∧ h = Hp.mk3 none (some c') (some x)) st :=
  end_use 0 false (some t) (b0 := none) (bM := some c') (t0 := some x) hp hbig rfl (fun e => by cases e) (by rw [hc]; simp [hc']) (by omega) ⟨hx.symm, by rw [hx]; simp⟩ (fun c e => by cases e) (fun c0 e => by rw [hc] at e; cases e; exact hcc) hok ⟨hr, rfl⟩

/-- Ends by properties. -/
theorem endX {rs : List RV} {st : St} {Φ : Ret → Prop} (q : Ret) (hq : Φ q) (h : endQ rs (fun r' h => r' = q.r ∧ h = Hp.mk3 q.b0 q.bM q.t0) st) : endQ rs (fun r h => ∃ q : Ret, Φ q ∧ r = q.r ∧ h = Hp.mk3 q.b0 q.bM q.t0) st :=
  endQ_mono (fun r h ⟨h1, h2⟩ => ⟨q, hq, h1, h2⟩) h

theorem endVX {rs : List RV} {st : St} {α : Type} {φ : α → Prop} {r : α → AV} (x : α) (hp : resP st rs) (hbig : ∀ l, 1000000 ≤ l → st.bx l = none) (hok : finOkA 0 false (resA rs st) = true) (hr : finA 0 none (resA rs st) = r x) (hφ : φ x) :
    endQ rs (fun r' h => ∃ q : Ret, (∃ x, φ x ∧ q = ⟨r x, none, none, none⟩) ∧ r' = q.r ∧ h = Hp.mk3 q.b0 q.bM q.t0) st :=
  endX ⟨r x, none, none, none⟩ ⟨x, hφ, rfl⟩ (endV hp hbig hok hr)

/-- A function without a text. -/
theorem useE {f : FuncId} {args : List AV} {x : AV} {st : St} {d : Nat} {K : St → Prop} {lo : Bool}
    (h : ∀ (w : World) (S : Nat → Prop) (ι : Io) (H : Hp) (vs : List Value), HR w S ι H → vs.length = args.length → (∀ j (h : j < args.length), VL w S ι H (vs.getD j undef) (args[j])) →
      ∃ r, (callFunc f vs.toArray).run P w = .ok (.value r) w ∧ VL w S ι H r x) (hK : K ⟨upd st.s d x, st.bx, st.tg⟩) : callX P lo f args st (some d) K :=
  .inr ⟨x, fun w S ι vs R => h w S ι st.H vs R, hK⟩

end
end Go.Proofs.YtchmoleeajkioaaDoor.V
