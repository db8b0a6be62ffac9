/-
  THE LOGIC V, PART f: operations that make something new.
-/
import Derived.Test.YtchmoleeajkioaaDoorVe
namespace Go.Proofs.YtchmoleeajkioaaDoor.V
open Go Go.RowKit
set_option linter.unusedSimpArgs false
set_option linter.unusedVariables false

/-- How the world may go on. -/
structure Fr (w : World) (S : Nat → Prop) (ι : Io) (H : Hp) (w' : World) (S' : Nat → Prop) (ι' : Io) (H' : Hp) : Prop where
  os : w'.os = w.os
  tape : w'.tape = w.tape
  output : w'.output = w.output
  size : w.heap.size ≤ w'.heap.size
  keep : ∀ b, b < w.heap.size → ¬ Owned ι H b → w'.heap[b]? = w.heap[b]?
  st : ∀ b, S b → S' b
  new : ∀ b, S' b ∨ Owned ι' H' b → S b ∨ Owned ι H b ∨ w.heap.size ≤ b
  par : ∀ l, H.bx l ≠ none → H'.bx l ≠ none → ι'.bx l = ι.bx l

theorem lt_of_some {w : World} {b : Nat} {o : Obj} (h : w.heap[b]? = some o) : b < w.heap.size := by
  rcases Nat.lt_or_ge b w.heap.size with h' | h'
  · exact h'
  · simp [Array.getElem?_eq_none h'] at h

section
variable {P : Program} {w : World} {S : Nat → Prop} {ι : Io} {H : Hp}

theorem HR.bx_lt (R : HR w S ι H) {l : Nat} (h : H.bx l ≠ none) : ι.bx l < w.heap.size := by
  obtain ⟨cs, hcs⟩ := Option.ne_none_iff_exists'.1 h
  obtain ⟨_, _, h1, _⟩ := R.boxes _ _ hcs
  exact lt_of_some h1
theorem HR.tg_lt (R : HR w S ι H) {t b base : Nat} (h : H.tg t ≠ none) (hι : ι.tg t = some (b, base)) : b < w.heap.size := by
  obtain ⟨⟨sz, n⟩, hn⟩ := Option.ne_none_iff_exists'.1 h
  obtain ⟨_, _, _, _, h1, _⟩ := ((R.rows _ _ _ hn).1 _ _ hι).blk
  exact lt_of_some h1
theorem HR.owned_lt (R : HR w S ι H) {b : Nat} (h : Owned ι H b) : b < w.heap.size := by
  rcases h with ⟨l, h1, rfl⟩ | ⟨t, base, h1, h2⟩
  · exact R.bx_lt h1
  · exact R.tg_lt h1 h2

theorem Fr.refl (w : World) (S : Nat → Prop) (ι : Io) (H : Hp) : Fr w S ι H w S ι H :=
  ⟨rfl, rfl, rfl, Nat.le_refl _, fun _ _ _ => rfl, fun _ h => h, fun b h => h.imp id .inl, fun _ _ _ => rfl⟩

theorem Fr.trans {w1 w2 : World} {S1 S2 : Nat → Prop} {ι1 ι2 : Io} {H1 H2 : Hp} (h1 : Fr w S ι H w1 S1 ι1 H1) (R1 : HR w1 S1 ι1 H1) (h2 : Fr w1 S1 ι1 H1 w2 S2 ι2 H2)
    (hp : ∀ l, H.bx l ≠ none → H2.bx l ≠ none → H1.bx l ≠ none) : Fr w S ι H w2 S2 ι2 H2 where
  os := h2.os.trans h1.os
  tape := h2.tape.trans h1.tape
  output := h2.output.trans h1.output
  size := Nat.le_trans h1.size h2.size
  keep b hb ho := by
    rw [h2.keep b (Nat.lt_of_lt_of_le hb h1.size) (fun h => ?_), h1.keep b hb ho]
    rcases h1.new b (.inr h) with h' | h' | h'
    · exact (R1.stable b (h1.st b h')).2 h
    · exact ho h'
    · omega
  st b h := h2.st b (h1.st b h)
  new b h := by
    rcases h2.new b h with h' | h' | h'
    · exact h1.new b (.inl h')
    · exact h1.new b (.inr h')
    · exact .inr (.inr (Nat.le_trans h1.size h'))
  par l h h' := (h2.par l (hp l h h') h').trans (h1.par l h (hp l h h'))

/-- The world has one block more, and is else as it was. -/
structure More (w w' : World) (o : Obj) : Prop where
  os : w'.os = w.os
  tape : w'.tape = w.tape
  output : w'.output = w.output
  size : w'.heap.size = w.heap.size + 1
  old : ∀ b, b < w.heap.size → w'.heap[b]? = w.heap[b]?
  at_ : w'.heap[w.heap.size]? = some o

theorem More.push (w : World) (o : Obj) : More w { w with heap := w.heap.push o } o where
  os := rfl
  tape := rfl
  output := rfl
  size := by simp
  old b hb := by simp [Array.getElem?_push, Nat.ne_of_lt hb]
  at_ := by simp

theorem upd_same {α : Type} (f : Nat → α) (i : Nat) (v : α) : upd f i v i = v := by simp [upd]
theorem upd_ne {α : Type} (f : Nat → α) {i j : Nat} (v : α) (h : j ≠ i) : upd f i v j = f j := by simp [upd, h]

/-- A new box. -/
theorem new_box (R : HR w S ι H) {w' : World} {cs : Array Value} {T : TypeId} (M : More w w' (.cells cs T (0, 0))) {d : Nat} (hd : H.bx d = none) {cells : List AV} (hs : cs.size = cells.length)
    (hv : ∀ j (h : j < cells.length), VL w S ι H (cs.getD j undef) (cells[j])) :
    ∃ ι', Ext w S ι H w' S ι' ⟨upd H.bx d (some cells), H.tg⟩ ∧ HR w' S ι' ⟨upd H.bx d (some cells), H.tg⟩ ∧ Fr w S ι H w' S ι' ⟨upd H.bx d (some cells), H.tg⟩ ∧
      VL w' S ι' ⟨upd H.bx d (some cells), H.tg⟩ (.pointer (some ⟨w.heap.size, 0, none⟩)) (.ptr d 0) := by
  let ι' : Io := ⟨upd ι.bx d w.heap.size, ι.tg⟩
  let H' : Hp := ⟨upd H.bx d (some cells), H.tg⟩
  have hne : ∀ l, H.bx l ≠ none → l ≠ d := fun l h e => h (e ▸ hd)
  have hown : ∀ b, Owned ι' H' b → Owned ι H b ∨ b = w.heap.size := by
    rintro b (⟨l, h1, h2⟩ | ⟨t, base, h1, h2⟩)
    · by_cases hl : l = d
      · subst hl; right; rw [← h2]; exact upd_same _ _ _
      · left; left
        exact ⟨l, by simpa [H', upd_ne _ _ hl] using h1, by simpa [ι', upd_ne _ _ hl] using h2⟩
    · exact .inl (.inr ⟨t, base, h1, h2⟩)
  have E : Ext w S ι H w' S ι' H' :=
    { st := fun _ h => h
      keep := fun b h => M.old b (R.stable b h).1
      bx := fun l h => ⟨by simpa [H', upd_ne _ _ (hne l h)] using h, upd_ne _ _ (hne l h)⟩
      tg := fun t sz n h => ⟨rfl, n, Nat.le_refl _, h⟩
      row := fun t sz n b base h hι cs T fz hb => ⟨cs, T, fz, by rw [M.old b (R.tg_lt (by rw [h]; simp) hι)]; exact hb, Nat.le_refl _, fun _ _ => rfl⟩ }
  have R' : HR w' S ι' H' :=
    { stable := fun b h => ⟨by have := (R.stable b h).1; have := M.size; omega, fun h' => by
        rcases hown b h' with h1 | h1
        · exact (R.stable b h).2 h1
        · have := (R.stable b h).1; omega⟩
      boxes := fun l c h => by
        by_cases hl : l = d
        · subst hl
          have : c = cells := by simpa [H', upd_same] using h.symm
          subst this
          refine ⟨cs, T, ?_, hs, fun j hj => (hv j hj).ext E R⟩
          simp only [ι', upd_same]; exact M.at_
        · have h0 : H.bx l = some c := by simpa [H', upd_ne _ _ hl] using h
          obtain ⟨cs0, T0, h1, h2, h3⟩ := R.boxes l c h0
          refine ⟨cs0, T0, ?_, h2, fun j hj => (h3 j hj).ext E R⟩
          simp only [ι', upd_ne _ _ hl]
          rw [M.old _ (R.bx_lt (by rw [h0]; simp))]; exact h1
      rows := fun t sz n h => by
        obtain ⟨h1, h2⟩ := R.rows t sz n h
        refine ⟨fun b base hι => ?_, h2⟩
        obtain ⟨c, T0, lo, hi, g1, g2, g3⟩ := (h1 b base hι).blk
        exact ⟨c, T0, lo, hi, by rw [M.old _ (lt_of_some g1)]; exact g1, g2, g3⟩
      injB := fun l m hl hm e => by
        by_cases h1 : l = d <;> by_cases h2 : m = d
        · rw [h1, h2]
        · subst h1
          simp only [ι', upd_same, upd_ne _ _ h2] at e
          have := R.bx_lt (l := m) (by simpa [H', upd_ne _ _ h2] using hm)
          omega
        · subst h2
          simp only [ι', upd_same, upd_ne _ _ h1] at e
          have := R.bx_lt (l := l) (by simpa [H', upd_ne _ _ h1] using hl)
          omega
        · simp only [ι', upd_ne _ _ h1, upd_ne _ _ h2] at e
          exact R.injB l m (by simpa [H', upd_ne _ _ h1] using hl) (by simpa [H', upd_ne _ _ h2] using hm) e
      injT := R.injT
      injBT := fun l t b p hl ht hι e => by
        by_cases h1 : l = d
        · subst h1
          simp only [ι', upd_same] at e
          have := R.tg_lt ht hι
          omega
        · simp only [ι', upd_ne _ _ h1] at e
          exact R.injBT l t b p (by simpa [H', upd_ne _ _ h1] using hl) ht hι e }
  refine ⟨ι', E, R', ?_, ?_⟩
  · exact { os := M.os, tape := M.tape, output := M.output, size := by have := M.size; omega, keep := fun b hb _ => M.old b hb, st := fun _ h => h,
            new := fun b h => by
              rcases h with h | h
              · exact .inl h
              · rcases hown b h with h' | h'
                · exact .inr (.inl h')
                · exact .inr (.inr (by omega)),
            par := fun l h _ => upd_ne _ _ (hne l h) }
  · have := VL.ptr (w := w') (S := S) (ι := ι') (H := H') (l := d) (off := 0) (by simp [H', upd_same])
    simpa [ι', upd_same] using this

/-- A new row. -/
theorem new_row (R : HR w S ι H) {w' : World} {cs : Array Value} {T : TypeId} {lo hi : Nat} (M : More w w' (.cells cs T (lo, hi))) (hfz : lo = hi ∨ cs.size ≤ lo)
    {d sz cap : Nat} (hd : H.tg d = none) {rows : List (List DV)} (hsz : ∀ r ∈ rows, r.length = sz) (hcap : rows.length ≤ cap) (hroom : cap * sz ≤ cs.size)
    (hv : ∀ i j (hi : i < rows.length) (hj : j < (rows[i]).length), Rd w S (cs.getD (i * sz + j) undef) ((rows[i])[j])) :
    ∃ ι', Ext w S ι H w' S ι' ⟨H.bx, upd H.tg d (some (sz, rows.length))⟩ ∧ HR w' S ι' ⟨H.bx, upd H.tg d (some (sz, rows.length))⟩ ∧ Fr w S ι H w' S ι' ⟨H.bx, upd H.tg d (some (sz, rows.length))⟩ ∧
      VL w' S ι' ⟨H.bx, upd H.tg d (some (sz, rows.length))⟩ (.slice (some ⟨w.heap.size, 0, none⟩) rows.length cap) (.own d sz 0 rows) := by
  let ι' : Io := ⟨ι.bx, upd ι.tg d (some (w.heap.size, 0))⟩
  let H' : Hp := ⟨H.bx, upd H.tg d (some (sz, rows.length))⟩
  have hne : ∀ l, H.tg l ≠ none → l ≠ d := fun l h e => h (e ▸ hd)
  have hown : ∀ b, Owned ι' H' b → Owned ι H b ∨ b = w.heap.size := by
    rintro b (⟨l, h1, h2⟩ | ⟨t, base, h1, h2⟩)
    · exact .inl (.inl ⟨l, h1, h2⟩)
    · by_cases hl : t = d
      · subst hl; right
        simp only [ι', upd_same, Option.some.injEq, Prod.mk.injEq] at h2
        exact h2.1.symm
      · left; right
        exact ⟨t, base, by simpa [H', upd_ne _ _ hl] using h1, by simpa [ι', upd_ne _ _ hl] using h2⟩
  have E : Ext w S ι H w' S ι' H' :=
    { st := fun _ h => h
      keep := fun b h => M.old b (R.stable b h).1
      bx := fun l h => ⟨h, rfl⟩
      tg := fun t sz n h => by
        have ht := hne t (by rw [h]; simp)
        exact ⟨upd_ne _ _ ht, n, Nat.le_refl _, by simpa [H', upd_ne _ _ ht] using h⟩
      row := fun t sz n b base h hι cs T fz hb => ⟨cs, T, fz, by rw [M.old b (R.tg_lt (by rw [h]; simp) hι)]; exact hb, Nat.le_refl _, fun _ _ => rfl⟩ }
  have R' : HR w' S ι' H' :=
    { stable := fun b h => ⟨by have := (R.stable b h).1; have := M.size; omega, fun h' => by
        rcases hown b h' with h1 | h1
        · exact (R.stable b h).2 h1
        · have := (R.stable b h).1; omega⟩
      boxes := fun l c h => by
        obtain ⟨cs0, T0, h1, h2, h3⟩ := R.boxes l c h
        exact ⟨cs0, T0, by rw [M.old _ (R.bx_lt (by rw [h]; simp))]; exact h1, h2, fun j hj => (h3 j hj).ext E R⟩
      rows := fun t s n h => by
        by_cases ht : t = d
        · subst ht
          obtain ⟨rfl, rfl⟩ : sz = s ∧ rows.length = n := by simpa [H', upd_same] using h
          refine ⟨fun b base hι => ?_, fun hι => by simp [ι', upd_same] at hι⟩
          obtain ⟨rfl, rfl⟩ : w.heap.size = b ∧ 0 = base := by simpa [ι', upd_same] using hι
          exact ⟨cs, T, lo, hi, M.at_, by have := Nat.mul_le_mul_right sz hcap; omega, hfz⟩
        · have h0 : H.tg t = some (s, n) := by simpa [H', upd_ne _ _ ht] using h
          obtain ⟨h1, h2⟩ := R.rows t s n h0
          refine ⟨fun b base hι => ?_, fun hι => h2 (by simpa [ι', upd_ne _ _ ht] using hι)⟩
          obtain ⟨c, T0, lo, hi, g1, g2, g3⟩ := (h1 b base (by simpa [ι', upd_ne _ _ ht] using hι)).blk
          exact ⟨c, T0, lo, hi, by rw [M.old _ (lt_of_some g1)]; exact g1, g2, g3⟩
      injB := R.injB
      injT := fun t u b p q ht hu e1 e2 => by
        by_cases h1 : t = d <;> by_cases h2 : u = d
        · rw [h1, h2]
        · subst h1
          simp only [ι', upd_same, Option.some.injEq, Prod.mk.injEq] at e1
          simp only [ι', upd_ne _ _ h2] at e2
          have := R.tg_lt (t := u) (by simpa [H', upd_ne _ _ h2] using hu) e2
          omega
        · subst h2
          simp only [ι', upd_same, Option.some.injEq, Prod.mk.injEq] at e2
          simp only [ι', upd_ne _ _ h1] at e1
          have := R.tg_lt (t := t) (by simpa [H', upd_ne _ _ h1] using ht) e1
          omega
        · simp only [ι', upd_ne _ _ h1, upd_ne _ _ h2] at e1 e2
          exact R.injT t u b p q (by simpa [H', upd_ne _ _ h1] using ht) (by simpa [H', upd_ne _ _ h2] using hu) e1 e2
      injBT := fun l t b p hl ht hι e => by
        by_cases h1 : t = d
        · subst h1
          simp only [ι', upd_same, Option.some.injEq, Prod.mk.injEq] at hι
          have := R.bx_lt hl
          simp only [ι'] at e
          omega
        · exact R.injBT l t b p hl (by simpa [H', upd_ne _ _ h1] using ht) (by simpa [ι', upd_ne _ _ h1] using hι) e }
  refine ⟨ι', E, R', ?_, ?_⟩
  · exact { os := M.os, tape := M.tape, output := M.output, size := by have := M.size; omega, keep := fun b hb _ => M.old b hb, st := fun _ h => h,
            new := fun b h => by
              rcases h with h | h
              · exact .inl h
              · rcases hown b h with h' | h'
                · exact .inr (.inl h')
                · exact .inr (.inr (by omega)),
            par := fun l h _ => rfl }
  · have hlt : ∀ i j, i < rows.length → j < sz → i * sz + j < cs.size := fun i j hi hj => by
      have := row_lt (i := i) (n := rows.length) hi hj
      have := Nat.mul_le_mul_right sz hcap
      omega
    have := VL.own (w := w') (S := S) (ι := ι') (H := H') (t := d) (sz := sz) (n := rows.length) (b := w.heap.size) (base := 0) (off := 0) (cap := cap) (rows := rows)
      (by simp [H', upd_same]) (by simp [ι', upd_same]) (by omega) hsz (fun i j => cs.getD (i * sz + j) undef)
      (fun i j hi hj => by
        have h1 := hlt i j hi hj
        have e : 0 + (0 + i) * sz + j = i * sz + j := by simp
        rw [e]
        simp [World.cell?, M.at_, Array.getD, h1])
      (fun i j hi hj => E.rd (hv i j hi hj)) hcap ⟨cs, T, (lo, hi), M.at_, by simpa using hroom⟩
    simpa using this

theorem dv_ok {x : AV} {y : DV} {v : Value} (h : dvOf x = some y) (hx : VL w S ι H v x) : Rd w S v y := by
  unfold dvOf at h
  split at h
  · simp at h; subst h; cases hx with | d hx => exact hx
  · simp at h; subst h; rw [hx.nils_inv]; exact .nil _ _ _
  · cases h

theorem mapM_get {α β : Type} {f : α → Option β} : ∀ {l : List α} {r : List β}, l.mapM f = some r → r.length = l.length ∧ ∀ j (h : j < l.length) (h' : j < r.length), f (l[j]) = some (r[j])
  | [], r, h => by simp at h; subst h; simp
  | x :: l, r, h => by
    simp only [List.mapM_cons, Option.bind_eq_bind, Option.pure_def] at h
    obtain ⟨y, hy, h⟩ := bind_some h
    obtain ⟨r', hr, h⟩ := bind_some h
    simp at h; subst h
    obtain ⟨h1, h2⟩ := mapM_get hr
    refine ⟨by simp [h1], fun j hj hj' => ?_⟩
    cases j with
    | zero => exact hy
    | succ j => exact h2 j (by simpa using hj) (by simpa using hj')

theorem row_ok {x : AV} {y : List DV} {v : Value} (h : rowOf x = some y) (hx : VL w S ι H v x) :
    v.cells.size = y.length ∧ ∀ j (hj : j < y.length), Rd w S (v.cells.getD j undef) (y[j]) := by
  have single : (dvOf x).map (fun y => [y]) = some y → v.cells.size = y.length ∧ ∀ j (hj : j < y.length), Rd w S (v.cells.getD j undef) (y[j]) := by
    intro h
    obtain ⟨z, hz, rfl⟩ := map_some h
    have h1 := dv_ok hz hx
    rw [cells_one h1.cellB]
    refine ⟨rfl, fun j hj => ?_⟩
    obtain rfl : j = 0 := by simpa using hj
    exact h1
  cases x with
  | agg cs =>
    simp only [rowOf] at h
    obtain ⟨h1, h2⟩ := mapM_get h
    cases hx with
    | @agg vs _ hl hr =>
      refine ⟨by simp [Value.cells]; omega, fun j hj => ?_⟩
      have hj' : j < cs.length := by omega
      have e : (Value.agg vs.toArray).cells.getD j undef = vs.getD j undef := by simp [Value.cells, Array.getD_eq_getD_getElem?, List.getD]
      rw [e]
      exact dv_ok (h2 j hj' hj) (hr j hj')
  | _ => exact single h

/-- An array of cells reads as rows. -/
def Laid (w : World) (S : Nat → Prop) (arr : Array Value) (sz : Nat) (rows : List (List DV)) : Prop :=
  rows.length * sz ≤ arr.size ∧ (∀ r ∈ rows, r.length = sz) ∧ ∀ i j (hi : i < rows.length) (hj : j < (rows[i]).length), Rd w S (arr.getD (i * sz + j) undef) ((rows[i])[j])

theorem laid_zero {arr zero : Array Value} {z : List DV} {n sz : Nat} (hz : zero.size = sz) (hzl : z.length = sz) (hs : 0 < sz) (hzr : ∀ j (h : j < z.length), Rd w S (zero.getD j undef) (z[j]))
    (ha : arr = (Array.range (n * sz)).map (zero[· % zero.size]!)) (m : Nat) (hm : m ≤ n) : Laid w S arr sz (List.replicate m z) := by
  subst ha
  refine ⟨by simp; exact Nat.mul_le_mul_right sz hm, fun r hr => by rw [(List.mem_replicate.1 hr).2]; exact hzl, fun i j hi hj => ?_⟩
  simp only [List.length_replicate] at hi
  simp only [List.getElem_replicate] at hj ⊢
  have hlt : i * sz + j < n * sz := by
    have := row_lt (i := i) (n := m) (j := j) (sz := sz) hi (by omega)
    have := Nat.mul_le_mul_right sz hm
    omega
  have hj' : j < zero.size := by omega
  have e1 : (i * sz + j) % zero.size = j := by rw [hz, Nat.mul_comm, Nat.mul_add_mod]; exact Nat.mod_eq_of_lt (by omega)
  have e2 : ((Array.range (n * sz)).map (zero[· % zero.size]!)).getD (i * sz + j) undef = zero.getD j undef := by
    have h1 : i * sz + j < ((Array.range (n * sz)).map (zero[· % zero.size]!)).size := by simpa using hlt
    simp only [Array.getD, h1, dif_pos]
    simp [e1, hj']
  rw [e2]
  exact hzr j hj

theorem fillR_ok {sz : Nat} (hs : 0 < sz) : ∀ (ps : List (Nat × AV)) (qs : List (Nat × Value)) (arr : Array Value) (rows out : List (List DV)), qs.length = ps.length →
    (∀ j (h : j < ps.length) (h' : j < qs.length), (qs[j]).1 = (ps[j]).1 ∧ VL w S ι H (qs[j]).2 (ps[j]).2) → arr.size = rows.length * sz → Laid w S arr sz rows → fillR rows sz ps = some out →
    ∃ arr', Instr.fill (fun i => some (i * sz, sz)) arr qs = some arr' ∧ arr'.size = out.length * sz ∧ Laid w S arr' sz out ∧ out.length = rows.length := by
  intro ps
  induction ps with
  | nil =>
    intro qs arr rows out hl _ ha hL hf
    obtain rfl : qs = [] := List.length_eq_zero_iff.1 (by simpa using hl)
    simp only [fillR, Option.some.injEq] at hf
    subst hf
    exact ⟨arr, rfl, ha, hL, rfl⟩
  | cons p ps ih =>
    obtain ⟨i, x⟩ := p
    intro qs arr rows out hl hq ha hL hf
    cases qs with
    | nil => simp at hl
    | cons q qs =>
      obtain ⟨i', v⟩ := q
      obtain ⟨h1, h2⟩ := hq 0 (by simp) (by simp)
      simp only [List.getElem_cons_zero] at h1 h2
      subst h1
      simp only [fillR] at hf
      split at hf
      · rename_i y hy
        split at hf
        · rename_i hc
          obtain ⟨hyl, hil⟩ := hc
          obtain ⟨g1, g2⟩ := row_ok hy h2
          have hg := foldl_set' (i' * sz) v.cells arr
          have hle : i' * sz + sz ≤ rows.length * sz := by rw [← Nat.succ_mul]; exact Nat.mul_le_mul_right sz hil
          have hL' : Laid w S (v.cells.zipIdx.foldl (fun cs (c, j) => cs.setIfInBounds (i' * sz + j) c) arr) sz (rows.set i' y) := by
            obtain ⟨l1, l2, l3⟩ := hL
            refine ⟨by rw [(hg 0).1]; simpa using l1, fun r hr => ?_, fun k j hk hj => ?_⟩
            · rcases List.mem_or_eq_of_mem_set hr with h | rfl
              · exact l2 r h
              · exact hyl
            · simp only [List.length_set] at hk
              by_cases hki : k = i'
              · subst hki
                simp only [List.getElem_set_self] at hj ⊢
                rw [(hg _).2, if_pos (by omega)]
                have e : k * sz + j - k * sz = j := by omega
                rw [e]; exact g2 j hj
              · simp only [List.getElem_set_ne (Ne.symm hki)] at hj ⊢
                have hjs : j < sz := by rw [← l2 _ (List.getElem_mem hk)]; exact hj
                have hno : ¬ (i' * sz ≤ k * sz + j ∧ k * sz + j < i' * sz + v.cells.size ∧ k * sz + j < arr.size) := by
                  rintro ⟨a1, a2, _⟩
                  rcases Nat.lt_or_ge k i' with hlt | hge
                  · have := row_lt (i := k) (n := i') hlt hjs; omega
                  · have h3 : i' + 1 ≤ k := by omega
                    have h4 := Nat.mul_le_mul_right sz h3
                    rw [Nat.add_mul, Nat.one_mul] at h4
                    omega
                rw [(hg _).2, if_neg hno]
                exact l3 k j hk hj
          obtain ⟨arr', f1, f2, f3, f4⟩ := ih qs _ _ _ (by simpa using hl) (fun j h h' => by have := hq (j + 1) (by simpa using h) (by simpa using h'); simpa using this) (by rw [(hg 0).1]; simpa using ha) hL' hf
          refine ⟨arr', ?_, f2, f3, by simpa using f4⟩
          rw [Instr.fill.eq_def]
          have hno : ¬ (v.cells.size ≠ sz ∨ i' * sz + v.cells.size > arr.size) := by
            rintro (h | h)
            · exact h (by omega)
            · omega
          simp only []
          rw [if_neg (by simpa using hno)]
          exact f1
        · cases hf
      · cases hf

theorem zrow_ok {t : TypeId} {z : List AV} {zd : List DV} (hz : zeroA P t = some z) (hzd : z.mapM dvOf = some zd) : ∃ i zv, P.info? t = some i ∧ i.zero = some zv ∧ zv.cells.size = zd.length ∧
    ∀ (w : World) (S : Nat → Prop) j (hj : j < zd.length), Rd w S (zv.cells.getD j undef) (zd[j]) := by
  obtain ⟨i, zv, h1, h2, h3, _, h5⟩ := zeroA_ok hz
  obtain ⟨g1, g2⟩ := mapM_get hzd
  exact ⟨i, zv, h1, h2, by omega, fun w S j hj => dv_ok (g2 j (by omega) hj) (h5 w S ⟨fun _ => 0, fun _ => none⟩ ⟨fun _ => none, fun _ => none⟩ j (by omega))⟩

theorem info_size {t : TypeId} {i : TypeInfo} (h : P.info? t = some i) : P.cellsOf t = i.size := by simp [Program.cellsOf, h]
theorem info_bytes {t : TypeId} {i : TypeInfo} (h : P.info? t = some i) : P.bytesOf t = i.bytes := by simp [Program.bytesOf, h]

/-- What is said of an operation that makes something new. -/
def Makes (P : Program) (w : World) (S : Nat → Prop) (ι : Io) (H : Hp) (s : Sem Next) (H' : Hp) (x : AV) : Prop :=
  ∃ v w' ι', s.run P w = .ok (.value v) w' ∧ Ext w S ι H w' S ι' H' ∧ HR w' S ι' H' ∧ Fr w S ι H w' S ι' H' ∧ VL w' S ι' H' v x ∧ ∀ b, b < w.heap.size → w'.heap[b]? = w.heap[b]?

theorem wrap_small {n : Int} (h0 : 0 ≤ n) (h1 : n ≤ 1099511627776) : IntKind.i64.wrap n = n := by
  simp [IntKind.wrap, IntKind.bits, IntKind.signed]; omega

/-- Which operations of the slim code make something new. -/
def SOp.makes : SOp → Bool
  | .s2b _ | .new _ | .box .. | .bsl .. | .mk .. => true
  | _ => false

theorem qf_al {st : St} {d : Nat} {op : SOp} (hm : op.makes = false) (hp : (qf st d op).p) : (qf st d op).al = .no := by
  have hfit : ∀ k n, (fit k n).al = .no := fit_al
  have har : ∀ o k a b, (arI o k a b).al = .no := by intro o k a b; cases o <;> simp only [arI] <;> first | exact fit_al _ _ | rfl
  have hsh : ∀ o k a b, (shI o k a b).al = .no := by intro o k a b; cases o <;> rfl
  have hst : ∀ o a b, (stI o a b).al = .no := by intro o a b; cases o <;> rfl
  have hfl : ∀ ps z, (fillA z ps).al = .no := by
    intro ps z
    cases ps with
    | nil => rfl
    | cons p ps => rfl
  cases op <;> simp only [SOp.makes, Bool.true_eq_false, reduceCtorEq] at hm <;> simp only [qf, gd, addOff, fldF, ldF, ldC, iadF, istF, sliF, sstF, lenF, slnF, extF, b2sF, bad] <;> (repeat' split) <;> first | rfl | exact har _ _ _ _ | exact hsh _ _ _ _ | exact hst _ _ _ | exact hfl _ _ | exact hfit _ _

set_option maxHeartbeats 1000000 in
/-- An operation that makes something new. -/
theorem quiet1 {st : St} {a : Act} {o : Oper} {op : SOp} (hs : slimOp P o = some op) (R : HR w S ι st.H) (V : SL w S ι st.H a st.s) {d : Nat} (hp : (qf st d op).p) (hal : (qf st d op).al ≠ .no) :
    Makes P w S ι st.H (execOp a.eval o) (st.putA d (qf st d op).v (qf st d op).al).H (qf st d op).v := by
  by_cases hno : (qf st d op).al = .no
  · exact absurd hno hal
  have hs' := hs
  obtain ⟨dst, oop, type, pos, after, guard⟩ := o
  cases oop <;> simp only [slimOp, Option.bind_eq_bind, Option.pure_def] at hs
  case alloc t =>
    obtain ⟨z, hz, rfl⟩ := map_some hs
    obtain ⟨i, zv, hi, hzv, hsz, hone, hvl⟩ := zeroA_ok hz
    simp only [qf] at hp ⊢
    obtain ⟨ι', E, R', F, hv⟩ := new_box R (More.push w (.cells zv.cells t)) hp hsz (hvl w S ι st.H)
    exact ⟨_, _, ι', by simp [execOp, Instr.alloc, zeroValue, typeInfo, hi, hzv, newVar, newRow], E, R', F, hv, (More.push w (.cells zv.cells t)).old⟩
  case box t x =>
    obtain ⟨x', hx, hs⟩ := bind_some hs
    simp at hs; subst hs
    simp only [qf] at hp ⊢
    obtain ⟨h1, h2, h3⟩ := hp
    obtain ⟨g1, g2⟩ := cells_vl (arg_vl hx V) h3
    obtain ⟨ι', E, R', F, hv⟩ := new_box R (More.push w (.cells (a.eval x).cells t)) h1 g1 (fun j h => (g2 j h).1)
    exact ⟨_, _, ι', by simp [execOp, Instr.box, newVar, newRow], E, R', F, hv, (More.push w (.cells (a.eval x).cells t)).old⟩
  case buildSlice t n ps =>
    split at hs
    · rename_i e hu
      obtain ⟨z, hz, hs⟩ := bind_some hs
      obtain ⟨zd, hzd, hs⟩ := bind_some hs
      obtain ⟨ps', hps, hs⟩ := bind_some hs
      split at hs
      · rename_i hc
        obtain ⟨hc1, hc2, hc3⟩ := hc
        simp at hs; subst hs
        obtain ⟨i, zv, hi, hzv, hsz, hzr⟩ := zrow_ok hz hzd
        simp only [qf] at hp ⊢
        split at hp
        · rename_i out hout
          have hps' : ps'.length = ps.toList.length ∧ ∀ j (h : j < ps'.length) (h' : j < ps.toList.length), (ps.toList[j]).1 = (ps'[j]).1 ∧ VL w S ι st.H (a.eval (ps.toList[j]).2) (st.get (ps'[j]).2) := by
            obtain ⟨g1, g2⟩ := mapM_get hps
            refine ⟨g1, fun j h h' => ?_⟩
            have := g2 j h' h
            obtain ⟨y, hy, this⟩ := bind_some this
            simp at this
            rw [← this]
            exact ⟨rfl, arg_vl hy V⟩
          have hL := laid_zero (w := w) (S := S) hsz rfl hc2 (hzr w S) rfl n (Nat.le_refl n)
          obtain ⟨arr', f1, f2, f3, f4⟩ := fillR_ok (w := w) (S := S) (ι := ι) (H := st.H) hc2 (ps'.map fun x => (x.1, st.get x.2)) (ps.toList.map fun x => (x.1, a.eval x.2)) _ _ _ (by simp [hps'.1])
            (fun j h h' => by
              have := hps'.2 j (by simpa using h) (by simpa using h')
              simpa using this) (by simp) hL hout
          simp only [List.length_replicate] at f4
          obtain ⟨l1, l2, l3⟩ := f3
          obtain ⟨ι', E, R', F, hv⟩ := new_row R (More.push w (.cells arr' e)) (.inl rfl) (d := d) (cap := n) hp l2 (by omega) (by rw [f2, f4]; exact Nat.le_refl _) l3
          rw [f4] at E R' F hv
          refine ⟨_, _, ι', ?_, E, R', F, hv, (More.push w (.cells arr' e)).old⟩
          have hsz' : (sizeOf e).run P w = .ok zd.length w := run_sizeOf hc1 (by omega)
          have hbig : ¬ (n * zd.length > 2 ^ 24) := by omega
          have hf : Instr.fill (fun i => some (i * zd.length, zd.length)) ((Array.range (n * zd.length)).map (zv.cells[· % zv.cells.size]!)) (ps.map fun (i, x) => (i, a.eval x)).toList = some arr' := by
            rw [Array.toList_map]; exact f1
          have hrun : (Instr.buildSlice t n (ps.map fun (i, x) => (i, a.eval x))).run P w = .ok (.slice (some ⟨w.heap.size, 0, none⟩) n n) { w with heap := w.heap.push (.cells arr' e) } := by
            by_cases hn0 : n * zd.length = 0
            · have hf' := hf
              rw [hn0] at hf'
              have e0 : ∀ zero : Array Value, (Array.range 0).map (zero[· % zero.size]!) = #[] := fun _ => by simp
              rw [e0] at hf'
              unfold Instr.buildSlice
              simp only [Sem.run_bind, run_underlying hu, Result.andThen_ok, hsz', Sem.run_ite, if_neg hbig]
              rw [if_pos hn0]
              simp only [Sem.run_pure, Result.andThen_ok, hn0, e0, hf', newRow, Sem.run_bind, run_newObj]
            · simp only [Instr.buildSlice, Sem.run_bind, run_underlying hu, Result.andThen_ok, hsz', Sem.run_ite, if_neg hbig, if_neg hn0, Sem.run_pure, zeroValue, typeInfo, run_program, hi, hzv, hf, newRow, run_newObj]
          simp only [execOp, Sem.run_bind, hrun, Result.andThen_ok]; rfl
        · exact hp.elim
      · cases hs
    · cases hs
  case makeSlice t l c =>
    split at hs
    · rename_i e hu
      obtain ⟨z, hz, hs⟩ := bind_some hs
      obtain ⟨zd, hzd, hs⟩ := bind_some hs
      split at hs
      · rename_i hc
        obtain ⟨hc1, hc2, hc3⟩ := hc
        obtain ⟨l', hl, hs⟩ := bind_some hs
        obtain ⟨c', hc', hs⟩ := bind_some hs
        simp at hs; subst hs
        obtain ⟨i, zv, hi, hzv, hsz, hzr⟩ := zrow_ok hz hzd
        have vl := arg_vl hl V
        have vc := arg_vl hc' V
        simp only [qf] at hp ⊢
        split at hp
        · rename_i k1 m k2 n e1 e2
          rw [e1] at vl; rw [e2] at vc
          obtain ⟨h1, h2, h3, h4⟩ := hp
          have hL := laid_zero (w := w) (S := S) (n := n.toNat) hsz rfl hc2 (hzr w S) rfl m.toNat (by omega)
          obtain ⟨l1, l2, l3⟩ := hL
          obtain ⟨ι', E, R', F, hv⟩ := new_row R (More.push w (.cells ((Array.range (n.toNat * zd.length)).map (zv.cells[· % zv.cells.size]!)) e)) (.inl rfl) (d := d) (cap := n.toNat) h1 l2 (by simp; omega) (by simp) l3
          simp only [List.length_replicate] at E R' F hv
          simp only [e1, e2]
          refine ⟨_, _, ι', ?_, E, R', F, hv, (More.push w (.cells ((Array.range (n.toNat * zd.length)).map (zv.cells[· % zv.cells.size]!)) e)).old⟩
          have hsz' : (sizeOf e).run P w = .ok zd.length w := run_sizeOf hc1 (by omega)
          have hb : i.bytes ≤ 128 := by rw [← info_bytes hi]; exact hc3
          have ht1 : (n < 0 || (i.bytes : Int) * n > 2 ^ 48) = false := by
            have : (i.bytes : Int) * n ≤ 128 * 1099511627776 := Int.mul_le_mul (by omega) h4 (by omega) (by omega)
            simp; omega
          have hw1 : IntKind.i64.wrap m = m := wrap_small h2 (by omega)
          have hw2 : IntKind.i64.wrap n = n := wrap_small (by omega) h4
          have hl0 : ¬ m < 0 := by omega
          have hlc : ¬ n < m := by omega
          have hrun : (Instr.makeSlice t (.int k1 m) (.int k2 n)).run P w = .ok (.slice (some ⟨w.heap.size, 0, none⟩) m.toNat n.toNat) { w with heap := w.heap.push (.cells ((Array.range (n.toNat * zd.length)).map (zv.cells[· % zv.cells.size]!)) e) } := by
            unfold Instr.makeSlice
            simp only [Sem.run_bind, run_underlying hu, Result.andThen_ok, asInt, run_asIntOf, typeInfo, run_program, hi, Sem.run_pure, hw1, hw2, Sem.run_ite]
            rw [if_neg (by
              have := ht1
              simp only [Bool.or_eq_false_iff, decide_eq_false_iff_not] at this
              simp only [Bool.or_eq_true, decide_eq_true_eq]
              omega)]
            simp only [run_askRoom, Result.andThen_ok, hsz']
            by_cases hn0 : n.toNat * zd.length = 0
            · have e0 : ∀ zero : Array Value, (Array.range 0).map (zero[· % zero.size]!) = #[] := fun _ => by simp
              rw [if_pos hn0]
              simp only [Sem.run_pure, Result.andThen_ok, hn0, e0, newRow, Sem.run_bind, run_newObj]
            · rw [if_neg hn0]
              simp only [Sem.run_bind, zeroValue, typeInfo, run_program, hi, hzv, Sem.run_pure, Result.andThen_ok, newRow, run_newObj]
          simp only [execOp, Sem.run_bind]
          rw [vl.int_inv, vc.int_inv, hrun]; rfl
        · exact hp.elim
      · cases hs
    · cases hs
  case convert src dst' x =>
    obtain ⟨x', hx, hs⟩ := bind_some hs
    have vx := arg_vl hx V
    have noal : ∀ {q : QR}, q.al ≠ .no → q.al = .no → False := fun h h' => h h'
    split at hs
    · simp at hs; subst hs
      exact (hal (by simp only [qf]; split <;> rfl)).elim
    · simp at hs; subst hs
      exact (hal (by simp only [qf]; split <;> rfl)).elim
    · rename_i e h0 hk
      split at hs
      · rename_i hu
        simp at hs; subst hs
        simp only [Bool.and_eq_true, beq_iff_eq] at hu
        obtain ⟨⟨hu1, hu2⟩, hu3⟩ := hu
        have he : P.underlying e = some (.int .u8) := by
          unfold isU8 at hu1
          split at hu1
          · assumption
          · cases hu1
        simp only [qf] at hp ⊢
        split at hp
        · rename_i l g
          obtain ⟨h1, h2⟩ := hp
          rw [g] at vx
          simp only [g]
          have hsize : (⟨l.toArray⟩ : ByteArray).size = l.length := rfl
          have M : More w (Lib.bytesWorld w e ⟨l.toArray⟩) (.cells (Lib.bytesCells w e ⟨l.toArray⟩) e ((Lib.bytesCells w e ⟨l.toArray⟩).size, (Lib.bytesCells w e ⟨l.toArray⟩).size + 1)) :=
            { os := rfl, tape := rfl, output := rfl, size := Lib.bytesWorld_size _ _ _, old := fun b hb => Lib.bytesWorld_at_old _ _ _ _ hb, at_ := Lib.bytesWorld_at_new _ _ _ }
          have hcap : l.length ≤ grownCap w l.length 0 e := grownCap_ge _ _ _ _
          obtain ⟨ι', E, R', F, hv⟩ := new_row R M (by omega) (d := d) (sz := 1) (cap := grownCap w l.length 0 e) (rows := l.map fun b => [.int .u8 b.toNat]) h1 (by simp) (by simpa using hcap)
            (by simp [Lib.bytesCells]; rw [hsize]; omega)
            (fun i j hi hj => by
              simp only [List.length_map] at hi
              obtain rfl : j = 0 := by simpa using hj
              have e1 : (Lib.bytesCells w e ⟨l.toArray⟩).getD (i * 1 + 0) undef = .int .u8 (l[i]).toNat := by
                simp [Lib.bytesCells, Array.getD_eq_getD_getElem?, Array.getElem?_append, hi]
              rw [e1]
              simp only [List.getElem_map, List.getElem_cons_zero]
              exact .int _ _)
          simp only [List.length_map] at E R' F hv
          refine ⟨_, _, ι', ?_, E, R', F, hv, M.old⟩
          have := Lib.run_convert_string_bytes (P := P) w src dst' e ⟨l.toArray⟩ h0 hk he
          rw [hsize] at this
          simp [execOp, vx.str_inv, this]
        · exact hp.elim
      · cases hs
    · split at hs
      · simp at hs; subst hs
        exact (hal (by simp only [qf, b2sF]; split <;> rfl)).elim
      · cases hs
    · split at hs <;> first | (cases hs; done) | (simp at hs; subst hs; exact hp.elim)
    · cases hs
  all_goals (exfalso; refine hno (qf_al ?_ hp); clear hp hal hno hs')
  all_goals (repeat' (first | (cases hs; done) | (cases hs; rfl) | split at hs | (obtain ⟨_, _, rfl⟩ := map_some hs; rfl) | (obtain ⟨_, _, hs⟩ := bind_some hs)))

end
end Go.Proofs.YtchmoleeajkioaaDoor.V
