/-
  THE LOGIC V, PART q: telling less; calls.
-/
import Derived.Test.YtchmoleeajkioaaDoorVp
namespace Go.Proofs.YtchmoleeajkioaaDoor.V
open Go Go.RowKit
set_option linter.unusedSimpArgs false
set_option linter.unusedVariables false

/-! ### States as lists -/

def ofL : List (Nat × AV) → Nat → AV
  | [] => fun _ => .any
  | (k, v) :: l => fun i => if i = k then v else ofL l i
def ofB : List (Nat × List AV) → Nat → Option (List AV)
  | [] => fun _ => none
  | (k, v) :: l => fun i => if i = k then some v else ofB l i
def ofT : List (Nat × Nat × Nat) → Nat → Option (Nat × Nat)
  | [] => fun _ => none
  | (k, v) :: l => fun i => if i = k then some v else ofT l i
def St.of (s : List (Nat × AV)) (b : List (Nat × List AV)) (t : List (Nat × Nat × Nat)) : St := ⟨ofL s, ofB b, ofT t⟩
def Hp.of (b : List (Nat × List AV)) (t : List (Nat × Nat × Nat)) : Hp := ⟨ofB b, ofT t⟩

/-- y tells less than x, or as much. -/
inductive Le (H H' : Hp) : AV → AV → Prop
  | any (x : AV) : Le H H' x .any
  | d (v : DV) : Le H H' (.d v) (.d v)
  | nils (sz : Nat) : Le H H' (.nils sz) (.nils sz)
  | nild (sz : Nat) : Le H H' (.nils sz) (.d (.sl sz []))
  | seed {t sz : Nat} (h : H.tg t = none) (h' : H'.tg t = some (sz, 0)) : Le H H' (.nils sz) (.own t sz 0 [])
  | ptr {l o : Nat} (h : H'.bx l ≠ none) : Le H H' (.ptr l o) (.ptr l o)
  | own {t sz off : Nat} {rows : List (List DV)} (h : H'.tg t = H.tg t) : Le H H' (.own t sz off rows) (.own t sz off rows)
  | rptr (r : List DV) : Le H H' (.rptr r) (.rptr r)
  | optr {t sz i j : Nat} {r : List DV} (h : H'.tg t = H.tg t) : Le H H' (.optr t sz i j r) (.optr t sz i j r)
  | agg {a b : List AV} (hl : a.length = b.length) (h : ∀ j (h1 : j < a.length) (h2 : j < b.length), Le H H' a[j] b[j]) : Le H H' (.agg a) (.agg b)
  | tup {a b : List AV} (hl : a.length = b.length) (h : ∀ j (h1 : j < a.length) (h2 : j < b.length), Le H H' a[j] b[j]) : Le H H' (.tup a) (.tup b)
  | clos {f : Fn} {a b c d : List AV} (hl : a.length = b.length) (h : ∀ j (h1 : j < a.length) (h2 : j < b.length), Le H H' a[j] b[j])
      (hl' : c.length = d.length) (h' : ∀ j (h1 : j < c.length) (h2 : j < d.length), Le H H' c[j] d[j]) : Le H H' (.clos f a c) (.clos f b d)

section
variable {P : Program} {w : World} {S : Nat → Prop} {ι : Io} {H H' : Hp}

theorem Le.vl {ι' : Io} (hbx : ∀ l, H'.bx l ≠ none → ι'.bx l = ι.bx l) (htg : ∀ t, H.tg t ≠ none → ι'.tg t = ι.tg t) (hnew : ∀ t, H.tg t = none → H'.tg t ≠ none → ι'.tg t = none) {x y : AV} (h : Le H H' x y) :
    ∀ {v : Value}, VL w S ι H v x → VL w S ι' H' v y := by
  induction h with
  | any x => intro v hv; exact .any v
  | d x => intro v hv; cases hv with | d hv => exact .d hv
  | nils sz => intro v hv; rw [hv.nils_inv]; exact .nils sz
  | nild sz => intro v hv; rw [hv.nils_inv]; exact .d (.nil _ _ _)
  | seed h h' => intro v hv; rw [hv.nils_inv]; exact .onil h' (hnew _ h (by rw [h']; simp))
  | @ptr l o h =>
    intro v hv
    obtain ⟨rfl, _⟩ := hv.ptr_inv
    rw [← hbx l h]; exact .ptr h
  | own h =>
    intro v hv
    cases hv with
    | onil h1 h2 => exact .onil (by rw [h]; exact h1) (by rw [htg _ (by rw [h1]; simp)]; exact h2)
    | oemp h1 h2 h3 => exact .oemp (by rw [h]; exact h1) h2 h3
    | own h1 h2 h3 h4 cv h5 h6 h7 h8 => exact .own (by rw [h]; exact h1) (by rw [htg _ (by rw [h1]; simp)]; exact h2) h3 h4 cv h5 h6 h7 h8
  | rptr r => intro v hv; cases hv with | rptr cv h1 h2 h3 => exact .rptr cv h1 h2 h3
  | optr h =>
    intro v hv
    cases hv with
    | optr h1 h2 h3 h4 cv h5 h6 => exact .optr (by rw [h]; exact h1) (by rw [htg _ (by rw [h1]; simp)]; exact h2) h3 h4 cv h5 h6
  | agg hl _ ih => intro v hv; cases hv with | agg h1 h2 => exact .agg (by omega) (fun j hj => ih j (by omega) hj (h2 j (by omega)))
  | tup hl _ ih => intro v hv; cases hv with | tup h1 h2 => exact .tup (by omega) (fun j hj => ih j (by omega) hj (h2 j (by omega)))
  | clos hl _ hl' _ ih ih' =>
    intro v hv
    cases hv with
    | clos h1 h2 h3 h4 => exact .clos (by omega) (fun j hj => ih j (by omega) hj (h2 j (by omega))) (by omega) (fun j hj => ih' j (by omega) hj (h4 j (by omega)))

/-- Less is told. -/
theorem weak_le {st st' : St} (hs : ∀ i, Le st.H st'.H (st.s i) (st'.s i)) (hb : ∀ l c', st'.bx l = some c' → ∃ c, st.bx l = some c ∧ Le st.H st'.H (.agg c) (.agg c')) (hl : ∀ l, 1000000 ≤ l → st.bx l ≠ none → st'.bx l ≠ none)
    (ht : ∀ t x, st'.tg t = some x → st.tg t = some x ∨ (st.tg t = none ∧ x.2 = 0)) : Weak st st' := by
  refine ⟨fun _ => .any, ⟨fun w S ι R => ?_, hl⟩⟩
  classical
  let ι' : Io := ⟨ι.bx, fun t => if st.tg t = none then none else ι.tg t⟩
  have hle : ∀ {x y : AV}, Le st.H st'.H x y → ∀ {v}, VL w S ι st.H v x → VL w S ι' st'.H v y := fun h =>
    h.vl (ι := ι) (ι' := ι') (fun _ _ => rfl) (fun t h => if_neg h) (fun t h _ => if_pos h)
  have hbx : ∀ l, st'.bx l ≠ none → st.bx l ≠ none := fun l h => by
    obtain ⟨c', hc'⟩ := Option.ne_none_iff_exists'.1 h
    obtain ⟨c, hc, _⟩ := hb l c' hc'
    rw [hc]; simp
  have htg : ∀ t b base, ι'.tg t = some (b, base) → st.tg t ≠ none ∧ ι.tg t = some (b, base) := fun t b base h => by
    simp only [ι'] at h
    split at h
    · cases h
    · exact ⟨by assumption, h⟩
  have hown : ∀ b, Owned ι' st'.H b → Owned ι st.H b := by
    rintro b (⟨l, h1, h2⟩ | ⟨t, base, h1, h2⟩)
    · exact .inl ⟨l, hbx l h1, h2⟩
    · obtain ⟨h3, h4⟩ := htg t b base h2
      exact .inr ⟨t, base, h3, h4⟩
  refine ⟨S, ι', ?_, ?_, fun v x _ => .any v, fun v i hv => hle (hs i) hv⟩
  · exact
    { stable := fun b h => ⟨(R.stable b h).1, fun h' => (R.stable b h).2 (hown b h')⟩
      boxes := fun l c' h => by
        obtain ⟨c, hc, hcc⟩ := hb l c' h
        obtain ⟨cs, T, h1, h2, h3⟩ := R.boxes l c hc
        cases hcc with
        | agg hl h4 => exact ⟨cs, T, h1, by omega, fun j hj => hle (h4 j (by omega) hj) (h3 j (by omega))⟩
      rows := fun t sz n h => by
        rcases ht t _ h with h1 | ⟨h1, h2⟩
        · obtain ⟨h3, h4⟩ := R.rows t sz n h1
          refine ⟨fun b base hι => h3 b base (htg t b base hι).2, fun hι => h4 ?_⟩
          simp only [ι'] at hι
          rw [if_neg (by rw [h1]; simp)] at hι
          exact hι
        · refine ⟨fun b base hι => absurd h1 (htg t b base hι).1, fun _ => h2⟩
      injB := fun l m h1 h2 => R.injB l m (hbx l h1) (hbx m h2)
      injT := fun t u b p q _ _ h3 h4 => by
        obtain ⟨h5, h6⟩ := htg t b p h3
        obtain ⟨h7, h8⟩ := htg u b q h4
        exact R.injT t u b p q h5 h7 h6 h8
      injBT := fun l t b p h1 _ h3 => by
        obtain ⟨h5, h6⟩ := htg t b p h3
        exact R.injBT l t b p (hbx l h1) h5 h6 }
  · exact { os := rfl, tape := rfl, output := rfl, size := Nat.le_refl _, keep := fun _ _ _ => rfl, st := fun _ h => h, new := fun b h => by
              rcases h with h | h
              · exact .inl h
              · exact .inr (.inl (hown b h)),
            par := fun _ _ _ => rfl }

end
end Go.Proofs.YtchmoleeajkioaaDoor.V
