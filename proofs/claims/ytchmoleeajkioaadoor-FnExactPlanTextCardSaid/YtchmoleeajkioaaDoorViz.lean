/-
  THE LOGIC V, PART iz: telling less, and rows that are written no more.
-/
import Derived.Test.YtchmoleeajkioaaDoorVi
namespace Go.Proofs.YtchmoleeajkioaaDoor.V
open Go Go.RowKit
set_option linter.unusedSimpArgs false
set_option linter.unusedVariables false

/-- What is told is told in other words, or less of it. 'φ': of any value. -/
structure Turn (st st' : St) (φ : AV → AV) : Prop where
  go : ∀ (w : World) (S : Nat → Prop) (ι : Io), HR w S ι st.H → ∃ (S' : Nat → Prop) (ι' : Io), HR w S' ι' st'.H ∧ Fr w S ι st.H w S' ι' st'.H ∧ (∀ v x, VL w S ι st.H v x → VL w S' ι' st'.H v (φ x)) ∧
    (∀ v i, VL w S ι st.H v (st.s i) → VL w S' ι' st'.H v (st'.s i))
  live : ∀ l, 1000000 ≤ l → st.bx l ≠ none → st'.bx l ≠ none

def Weak (st st' : St) : Prop := ∃ φ, Turn st st' φ

section
variable {P : Program} {w : World} {S : Nat → Prop} {ι : Io} {H : Hp}

theorem Weak.refl (st : St) : Weak st st := ⟨id, ⟨fun w S ι R => ⟨S, ι, R, Fr.refl _ _ _ _, fun _ _ h => h, fun _ _ h => h⟩, fun _ _ h => h⟩⟩

def St.free (st : St) (t : Nat) : St := ⟨fun i => V.free t (st.s i), fun l => (st.bx l).map (List.map (V.free t)), upd st.tg t none⟩

/-- A row is written no more. -/
theorem turn_free {st : St} (t : Nat) : Turn st (st.free t) (V.free t) := by
  refine ⟨fun w S ι R => ?_, fun l _ h => by simpa [St.free] using h⟩
  let S' : Nat → Prop := fun b => S b ∨ (st.tg t ≠ none ∧ ∃ base, ι.tg t = some (b, base))
  have hS : ∀ b, S b → S' b := fun b h => .inl h
  have rdk : ∀ {v d}, Rd w S v d → Rd w S' v d := fun h => h.keep hS (fun _ _ => rfl)
  have hbx : ∀ l, (st.free t).bx l ≠ none ↔ st.bx l ≠ none := fun l => Hp.map_bx (H := st.H) l
  have htg : ∀ u x, (st.free t).tg u = some x → u ≠ t ∧ st.tg u = some x := fun u x h => by
    by_cases hu : u = t
    · subst hu; simp [St.free, upd_same] at h
    · exact ⟨hu, by simpa [St.free, upd_ne _ _ hu] using h⟩
  have htn : ∀ u, (st.free t).tg u ≠ none → u ≠ t ∧ st.tg u ≠ none := fun u h => by
    obtain ⟨x, hx⟩ := Option.ne_none_iff_exists'.1 h
    obtain ⟨h1, h2⟩ := htg u x hx
    exact ⟨h1, by rw [h2]; simp⟩
  have hup : ∀ u, u ≠ t → (st.free t).tg u = st.tg u := fun u hu => upd_ne _ _ hu
  have hown : ∀ b, Owned ι (st.free t).H b → Owned ι st.H b := by
    rintro b (⟨l, h1, h2⟩ | ⟨u, base, h1, h2⟩)
    · exact .inl ⟨l, (hbx l).1 h1, h2⟩
    · exact .inr ⟨u, base, (htn u h1).2, h2⟩
  have leaf : ∀ v x, VL w S ι st.H v x → VL w S' ι (st.free t).H v (freeL t x) := by
    intro v x h
    cases h with
    | any v => exact .any v
    | d h => exact .d (rdk h)
    | nils sz => exact .nils sz
    | ptr h => exact .ptr ((hbx _).2 h)
    | @onil u sz n h hι =>
      simp only [freeL]
      by_cases hu : u = t
      · rw [if_pos hu]; exact .d (.nil _ _ _)
      · rw [if_neg hu]; exact .onil (by rw [show (st.free t).H.tg u = st.tg u from hup u hu]; exact h) hι
    | @oemp u sz off n cap a h h0 hn =>
      simp only [freeL]
      by_cases hu : u = t
      · rw [if_pos hu]; exact .d (.nil _ _ _)
      · rw [if_neg hu]; exact .oemp (by rw [show (st.free t).H.tg u = st.tg u from hup u hu]; exact h) h0 hn
    | @own u sz n b base off cap rows h hι hn hsz cv hc hr hcap hroom =>
      simp only [freeL]
      by_cases hu : u = t
      · subst hu
        rw [if_pos rfl]
        refine .d (.sl cv hcap (.inr ⟨by rw [show st.tg u = some (sz, n) from h]; simp, base, hι⟩) hsz (fun i j hi hj => ?_) (fun i j hi hj => rdk (hr i j hi hj)))
        rw [← hc i j hi hj, Nat.add_mul]; congr 2; omega
      · rw [if_neg hu]; exact .own (by rw [show (st.free t).H.tg u = st.tg u from hup u hu]; exact h) hι hn hsz cv hc (fun i j hi hj => rdk (hr i j hi hj)) hcap hroom
    | rptr cv h1 h2 h3 => exact .rptr cv (.inl h1) h2 (fun j hj => rdk (h3 j hj))
    | @optr u sz n b base i j row h hι hi hsz cv hc hr =>
      simp only [freeL]
      by_cases hu : u = t
      · subst hu
        rw [if_pos rfl]
        refine .rptr (fun k => cv (j + k)) (.inr ⟨by rw [show st.tg u = some (sz, n) from h]; simp, base, hι⟩) (fun k hk => ?_) (fun k hk => ?_)
        · simp only [List.length_drop] at hk
          rw [← hc (j + k) (by omega)]; congr 2; omega
        · simp only [List.length_drop] at hk
          have := hr (j + k) (by omega)
          simp only [List.getElem_drop]
          exact rdk this
      · rw [if_neg hu]; exact .optr (by rw [show (st.free t).H.tg u = st.tg u from hup u hu]; exact h) hι hi hsz cv hc (fun j hj => rdk (hr j hj))
    | agg _ _ => exact .any _
    | tup _ _ => exact .any _
    | clos _ _ _ _ => exact .any _
  have all : ∀ v x, VL w S ι st.H v x → VL w S' ι (st.free t).H v (V.free t x) := fun v x h => VL.m2 leaf h
  refine ⟨S', ι, ?_, ?_, all, fun v i h => all _ _ h⟩
  · exact
    { stable := fun b h => by
        rcases h with h | ⟨h1, base, h2⟩
        · exact ⟨(R.stable b h).1, fun h' => (R.stable b h).2 (hown b h')⟩
        · refine ⟨R.tg_lt h1 h2, ?_⟩
          rintro (⟨l, h3, h4⟩ | ⟨u, p, h3, h4⟩)
          · exact R.injBT l t b base ((hbx l).1 h3) h1 h2 h4
          · obtain ⟨h5, h6⟩ := htn u h3
            exact h5 (R.injT u t b p base h6 h1 h4 h2)
      boxes := fun l c h => by
        obtain ⟨c0, hc0, rfl⟩ := map_some (show (st.bx l).map (List.map (V.free t)) = some c from h)
        obtain ⟨cs, T, q1, q2, q3⟩ := R.boxes l c0 hc0
        refine ⟨cs, T, q1, by simpa using q2, fun j hj => ?_⟩
        simp only [List.getElem_map]
        exact all _ _ (q3 j (by simpa using hj))
      rows := fun u sz n h => R.rows u sz n (htg u _ h).2
      injB := fun l m h1 h2 => R.injB l m ((hbx l).1 h1) ((hbx m).1 h2)
      injT := fun u v b p q h1 h2 => R.injT u v b p q (htn u h1).2 (htn v h2).2
      injBT := fun l u b p h1 h2 => R.injBT l u b p ((hbx l).1 h1) (htn u h2).2 }
  · exact { os := rfl, tape := rfl, output := rfl, size := Nat.le_refl _, keep := fun _ _ _ => rfl, st := hS, new := fun b h => by
              rcases h with (h | ⟨h1, base, h2⟩) | h
              · exact .inl h
              · exact .inr (.inl (.inr ⟨t, base, h1, h2⟩))
              · exact .inr (.inl (hown b h)),
            par := fun _ _ _ => rfl }

theorem Turn.trans {st1 st2 st3 : St} {φ ψ : AV → AV} (h1 : Turn st1 st2 φ) (h2 : Turn st2 st3 ψ) (hb : ∀ l, st1.bx l ≠ none → st3.bx l ≠ none → st2.bx l ≠ none) : Turn st1 st3 (ψ ∘ φ) := by
  refine ⟨fun w S ι R => ?_, fun l hl h => h2.live l hl (h1.live l hl h)⟩
  obtain ⟨S1, ι1, R1, F1, V1, L1⟩ := h1.go w S ι R
  obtain ⟨S2, ι2, R2, F2, V2, L2⟩ := h2.go w S1 ι1 R1
  exact ⟨S2, ι2, R2, F1.trans R1 F2 hb, fun v x h => V2 _ _ (V1 _ _ h), fun v i h => L2 _ _ (L1 _ _ h)⟩

end
end Go.Proofs.YtchmoleeajkioaaDoor.V
