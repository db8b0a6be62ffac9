/-
  THE LOGIC V, PART g: operations that write.
-/
import Derived.Test.YtchmoleeajkioaaDoorVf
import Derived.Laws.AppendOwn
import Derived.Laws.IdiomCopy
namespace Go.Proofs.YtchmoleeajkioaaDoor.V
open Go Go.RowKit
set_option linter.unusedSimpArgs false
set_option linter.unusedVariables false

/-! ### What is told anew when a row is written or handed on -/

/-- A change of leaves, carried through structs, tuples, function values. What lies deeper is not told any more. -/
def m1 (f : AV → AV) : AV → AV
  | .agg cs => .agg (cs.map f)
  | .clos fn a b => .clos fn (a.map f) (b.map f)
  | .tup _ => .any
  | x => f x
def m2 (f : AV → AV) : AV → AV
  | .tup vs => .tup (vs.map (m1 f))
  | x => m1 f x

/-- Copies of the row t are told no more. -/
def killL (t : Nat) : AV → AV
  | .own t' sz off rows => if t' = t then .any else .own t' sz off rows
  | .optr t' sz i j row => if t' = t then .any else .optr t' sz i j row
  | .agg _ | .tup _ | .clos .. => .any
  | x => x
def kill (t : Nat) : AV → AV := m2 (killL t)

/-- The row t is written no more: what is told of it stands on its own. -/
def freeL (t : Nat) : AV → AV
  | .own t' sz off rows => if t' = t then .d (.sl sz rows) else .own t' sz off rows
  | .optr t' sz i j row => if t' = t then .rptr (row.drop j) else .optr t' sz i j row
  | .agg _ | .tup _ | .clos .. => .any
  | x => x
def free (t : Nat) : AV → AV := m2 (freeL t)

/-- Cell j on of element i of the row t are ds now. -/
def setL (t i j : Nat) (ds : List DV) : AV → AV
  | .own t' sz off rows => if t' = t ∧ off ≤ i then .own t' sz off (rows.modify (i - off) (splice · j ds)) else .own t' sz off rows
  | .optr t' sz i' j' row => if t' = t ∧ i' = i then .optr t' sz i' j' (splice row j ds) else .optr t' sz i' j' row
  | .agg _ | .tup _ | .clos .. => .any
  | x => x
def setE (t i j : Nat) (ds : List DV) : AV → AV := m2 (setL t i j ds)

def St.map (φ : AV → AV) (st : St) : St := ⟨fun i => φ (st.s i), fun l => (st.bx l).map (List.map φ), st.tg⟩

section
variable {P : Program} {w w' : World} {S S' : Nat → Prop} {ι ι' : Io} {H H' : Hp}

/-- A change of leaves that holds of every leaf holds of every value. -/
theorem VL.m1 {f : AV → AV} (hf : ∀ v x, VL w S ι H v x → VL w' S' ι' H' v (f x)) {v : Value} {x : AV} (h : VL w S ι H v x) : VL w' S' ι' H' v (m1 f x) := by
  cases h with
  | agg hl hr => exact .agg (by simpa using hl) (fun j hj => by simp only [List.getElem_map]; exact hf _ _ (hr j (by simpa using hj)))
  | tup hl hr => exact .any _
  | clos h1 h2 h3 h4 => exact .clos (by simpa using h1) (fun j hj => by simp only [List.getElem_map]; exact hf _ _ (h2 j (by simpa using hj))) (by simpa using h3) (fun j hj => by simp only [List.getElem_map]; exact hf _ _ (h4 j (by simpa using hj)))
  | any v => exact hf _ _ (.any v)
  | d h => exact hf _ _ (.d h)
  | nils sz => exact hf _ _ (.nils sz)
  | ptr h => exact hf _ _ (.ptr h)
  | onil h h2 => exact hf _ _ (.onil h h2)
  | oemp h h2 h3 => exact hf _ _ (.oemp h h2 h3)
  | own h hι hn hsz cv hc hr hcap hroom => exact hf _ _ (.own h hι hn hsz cv hc hr hcap hroom)
  | rptr cv hS hc hr => exact hf _ _ (.rptr cv hS hc hr)
  | optr h hι hi hsz cv hc hr => exact hf _ _ (.optr h hι hi hsz cv hc hr)

theorem VL.m2 {f : AV → AV} (hf : ∀ v x, VL w S ι H v x → VL w' S' ι' H' v (f x)) {v : Value} {x : AV} (h : VL w S ι H v x) : VL w' S' ι' H' v (m2 f x) := by
  by_cases ht : ∃ vs, x = .tup vs
  · obtain ⟨vs, rfl⟩ := ht
    cases h with
    | tup hl hr => exact .tup (by simpa using hl) (fun j hj => by simp only [List.getElem_map]; exact VL.m1 hf (hr j (by simpa using hj)))
  · have e : V.m2 f x = V.m1 f x := by
      cases x <;> first | rfl | exact absurd ⟨_, rfl⟩ ht
    rw [e]; exact VL.m1 hf h

/-- A row's cells as they are told of it. -/
theorem own_cells {t sz n b base off : Nat} {rows : List (List DV)} {v : Value} (h : H.tg t = some (sz, n)) (hι : ι.tg t = some (b, base)) (hx : VL w S ι H v (.own t sz off rows)) (h0 : off = 0 ∨ rows ≠ []) :
    ∃ cap, v = .slice (some ⟨b, base + off * sz, none⟩) rows.length cap ∧ off + rows.length ≤ n ∧ (∀ r ∈ rows, r.length = sz) ∧ rows.length ≤ cap ∧
      (∃ cs T fz, w.heap[b]? = some (.cells cs T fz) ∧ base + (off + cap) * sz ≤ cs.size) ∧
      ∃ cv : Nat → Nat → Value, (∀ i j, i < rows.length → j < sz → w.cell? ⟨b, base + (off + i) * sz + j, none⟩ = some (cv i j)) ∧ (∀ i j (hi : i < rows.length) (hj : j < (rows[i]).length), Rd w S (cv i j) ((rows[i])[j])) := by
  cases hx with
  | onil h' hι' => rw [hι'] at hι; cases hι
  | oemp h' h1 h2 =>
    rcases h0 with h0 | h0
    · omega
    · exact absurd rfl h0
  | own h' hι' hn hsz cv hc hr hcap hroom =>
    rw [hι'] at hι
    cases hι
    rw [h'] at h
    cases h
    exact ⟨_, rfl, hn, hsz, hcap, hroom, cv, hc, hr⟩

/-! ### Cells that are written -/

theorem setCell_heap (w : World) (b o : Nat) (v : Value) (k : Nat) : (w.setCell ⟨b, o, none⟩ v).heap[k]? = if k = b then (w.heap[b]?).map (fun | .cells c e f => .cells (c.setIfInBounds o v) e f | x => x) else w.heap[k]? := by
  simp only [World.setCell, Array.getElem?_modify]
  by_cases h : b = k
  · subst h
    rw [if_pos rfl, if_pos rfl]
    cases w.heap[b]? with
    | none => rfl
    | some x => cases x <;> rfl
  · simp [h, Ne.symm h]

/-- What a run of stores leaves. -/
structure Wrote (w w' : World) (b o : Nat) (vs : List Value) : Prop where
  os : w'.os = w.os
  tape : w'.tape = w.tape
  output : w'.output = w.output
  size : w'.heap.size = w.heap.size
  old : ∀ k, k ≠ b → w'.heap[k]? = w.heap[k]?
  at_ : ∀ cs T fz, w.heap[b]? = some (.cells cs T fz) → o + vs.length ≤ cs.size → ∃ cs', w'.heap[b]? = some (.cells cs' T fz) ∧ cs'.size = cs.size ∧
    ∀ k, cs'.getD k undef = if o ≤ k ∧ k < o + vs.length then vs.getD (k - o) undef else cs.getD k undef

theorem wrote (b : Nat) : ∀ (vs : List Value) (o : Nat) (w : World), Wrote w (w.setCells b o vs) b o vs
  | [], o, w => ⟨rfl, rfl, rfl, rfl, fun _ _ => rfl, fun cs T fz h _ => ⟨cs, h, rfl, fun k => by rw [if_neg (by simp)]⟩⟩
  | v :: r, o, w => by
    have ih := wrote b r (o + 1) (w.setCell ⟨b, o, none⟩ v)
    rw [World.setCells]
    refine ⟨ih.os, ih.tape, ih.output, by rw [ih.size]; simp [World.setCell], fun k hk => by rw [ih.old k hk, setCell_heap, if_neg hk], fun cs T fz h hle => ?_⟩
    simp only [List.length_cons] at hle
    obtain ⟨cs', h1, h2, h3⟩ := ih.at_ (cs.setIfInBounds o v) T fz (by rw [setCell_heap, if_pos rfl, h]; rfl) (by simp; omega)
    refine ⟨cs', h1, by rw [h2]; simp, fun k => ?_⟩
    rw [h3 k]
    simp only [List.length_cons]
    by_cases hk : k = o
    · subst hk
      rw [if_neg (by omega), if_pos (by omega)]
      have hlt : k < cs.size := by omega
      simp [Array.getD_eq_getD_getElem?, hlt]
    · by_cases hr : o + 1 ≤ k ∧ k < o + 1 + r.length
      · rw [if_pos hr, if_pos (by omega)]
        obtain ⟨m, hm⟩ : ∃ m, k - o = m + 1 := ⟨k - o - 1, by omega⟩
        have hm' : k - (o + 1) = m := by omega
        rw [hm, hm']; rfl
      · rw [if_neg hr, if_neg (by omega)]
        simp [Array.getD_eq_getD_getElem?, Array.getElem?_setIfInBounds_ne (Ne.symm hk)]

theorem one' {v : Value} (h : cellB v = true) : v.oneCell' = true := by cases v <;> first | rfl | (simp [cellB] at h)

theorem run_store_cells {b o : Nat} {vs : List Value} {cs : Array Value} {T : TypeId} {lo hi : Nat} (h : w.heap[b]? = some (.cells cs T (lo, hi))) (hle : o + vs.length ≤ cs.size)
    (hf : ∀ k, k < cs.size → ¬ (lo ≤ k ∧ k < hi)) (h1 : ∀ v ∈ vs, cellB v = true) : (storeCells ⟨b, o, none⟩ vs).run P w = .ok () (w.setCells b o vs) := by
  have := run_storeCells_cells (P := P) b o vs 0 w (fun j hj => by
    have : o + 0 + j < cs.size := by omega
    simp [World.cell?, h]; omega) (fun j hj => by
    have h2 := hf (o + 0 + j) (by omega)
    simp only [World.frozen?, h]
    simpa using h2) (fun v hv => one' (h1 v hv))
  simpa using this

/-- A world in which one owned block was written. -/
theorem HR.wrote_stable (R : HR w S ι H) {b o : Nat} {vs : List Value} (hb : Owned ι H b) (W : Wrote w w' b o vs) : ∀ k, S k → w'.heap[k]? = w.heap[k]? := fun k hk => W.old k (fun e => (R.stable k hk).2 (e ▸ hb))

/-- A store into a box. -/
theorem set_box (R : HR w S ι H) {l o : Nat} {cells ys : List AV} (hl : H.bx l = some cells) {vs : List Value} (hlen : vs.length = ys.length) (hle : o + ys.length ≤ cells.length)
    (hv : ∀ j (h : j < ys.length), VL w S ι H (vs.getD j undef) (ys[j])) (W : Wrote w w' (ι.bx l) o vs) :
    Ext w S ι H w' S ι ⟨upd H.bx l (some (splice cells o ys)), H.tg⟩ ∧ HR w' S ι ⟨upd H.bx l (some (splice cells o ys)), H.tg⟩ ∧ Fr w S ι H w' S ι ⟨upd H.bx l (some (splice cells o ys)), H.tg⟩ := by
  let H' : Hp := ⟨upd H.bx l (some (splice cells o ys)), H.tg⟩
  have hbx : ∀ m, H'.bx m ≠ none ↔ H.bx m ≠ none := by
    intro m
    by_cases hm : m = l
    · subst hm; simp [H', upd_same, hl]
    · simp [H', upd_ne _ _ hm]
  have hown : ∀ b, Owned ι H' b ↔ Owned ι H b := by
    intro b
    unfold Owned
    simp only [hbx]
    exact Iff.rfl
  have hob : Owned ι H (ι.bx l) := .inl ⟨l, by rw [hl]; simp, rfl⟩
  obtain ⟨cs, T, g1, g2, g3⟩ := R.boxes l cells hl
  obtain ⟨cs', k1, k2, k3⟩ := W.at_ cs T (0, 0) g1 (by omega)
  have E : Ext w S ι H w' S ι H' :=
    { st := fun _ h => h
      keep := R.wrote_stable hob W
      bx := fun m h => ⟨(hbx m).2 h, rfl⟩
      tg := fun t sz n h => ⟨rfl, n, Nat.le_refl _, h⟩
      row := fun t sz n b base h hι cs0 T0 fz0 hb => ⟨cs0, T0, fz0, by rw [W.old b (fun e => R.injBT l t b base (by rw [hl]; simp) (by rw [h]; simp) hι e.symm)]; exact hb, Nat.le_refl _, fun _ _ => rfl⟩ }
  refine ⟨E, ?_, ?_⟩
  · exact
    { stable := fun b h => ⟨by rw [W.size]; exact (R.stable b h).1, fun h' => (R.stable b h).2 ((hown b).1 h')⟩
      boxes := fun m c h => by
        by_cases hm : m = l
        · subst hm
          have : c = splice cells o ys := by simpa [H', upd_same] using h.symm
          subst this
          have hsl : (splice cells o ys).length = cells.length := by simp [splice]; omega
          refine ⟨cs', T, k1, by rw [k2, hsl]; exact g2, fun j hj => ?_⟩
          rw [hsl] at hj
          rw [k3 j]
          by_cases hr : o ≤ j ∧ j < o + vs.length
          · rw [if_pos hr]
            have hj' : j - o < ys.length := by omega
            have e : (splice cells o ys)[j]'(by omega) = ys[j - o] := by
              simp only [splice]
              rw [List.getElem_append_left (by simp; omega), List.getElem_append_right (by simp; omega)]
              congr 1
              simp; omega
            rw [e]; exact (hv _ hj').ext E R
          · rw [if_neg hr]
            have e : (splice cells o ys)[j]'(by omega) = cells[j] := by
              simp only [splice]
              by_cases hlt : j < o
              · rw [List.getElem_append_left (by simp; omega), List.getElem_append_left (by simp; omega)]
                simp
              · rw [List.getElem_append_right (by simp; omega)]
                simp
                congr 1
                omega
            rw [e]; exact (g3 j hj).ext E R
        · have h0 : H.bx m = some c := by simpa [H', upd_ne _ _ hm] using h
          obtain ⟨c0, T0, q1, q2, q3⟩ := R.boxes m c h0
          exact ⟨c0, T0, by rw [W.old _ (fun e => hm (R.injB m l (by rw [h0]; simp) (by rw [hl]; simp) e))]; exact q1, q2, fun j hj => (q3 j hj).ext E R⟩
      rows := fun t sz n h => by
        obtain ⟨h1, h2⟩ := R.rows t sz n h
        refine ⟨fun b base hι => ?_, h2⟩
        obtain ⟨c, T0, lo, hi, q1, q2, q3⟩ := (h1 b base hι).blk
        exact ⟨c, T0, lo, hi, by rw [W.old b (fun e => R.injBT l t b base (by rw [hl]; simp) (by rw [h]; simp) hι e.symm)]; exact q1, q2, q3⟩
      injB := fun m n hm hn e => R.injB m n ((hbx m).1 hm) ((hbx n).1 hn) e
      injT := R.injT
      injBT := fun m t b p hm ht hι e => R.injBT m t b p ((hbx m).1 hm) ht hι e }
  · exact { os := W.os, tape := W.tape, output := W.output, size := by rw [W.size]; exact Nat.le_refl _,
            keep := fun b _ ho => W.old b (fun e => ho (e ▸ hob)), st := fun _ h => h,
            new := fun b h => by
              rcases h with h | h
              · exact .inl h
              · exact .inr (.inl ((hown b).1 h)),
            par := fun _ _ _ => rfl }

/-- Boxes told anew. -/
def Hp.map (φ : AV → AV) (H : Hp) : Hp := ⟨fun l => (H.bx l).map (List.map φ), H.tg⟩

theorem Hp.map_bx {φ : AV → AV} {H : Hp} (l : Nat) : (H.map φ).bx l ≠ none ↔ H.bx l ≠ none := by
  simp only [Hp.map]
  cases H.bx l <;> simp

theorem Hp.map_own {φ : AV → AV} {H : Hp} (b : Nat) : Owned ι (H.map φ) b ↔ Owned ι H b := by
  unfold Owned
  simp only [Hp.map_bx]
  exact Iff.rfl

/-- Where only a row's block was written, and every leaf is told anew. -/
theorem HR.told (R : HR w S ι H) {φ : AV → AV} {b o : Nat} {vs : List Value} {t base sz n : Nat} (ht : H.tg t = some (sz, n)) (hι : ι.tg t = some (b, base)) (W : Wrote w w' b o vs)
    (hfit : ∀ cs T fz, w.heap[b]? = some (.cells cs T fz) → o + vs.length ≤ cs.size)
    (hφ : ∀ v x, VL w S ι H v x → VL w' S ι (H.map φ) v (φ x)) : HR w' S ι (H.map φ) ∧ Fr w S ι H w' S ι (H.map φ) := by
  have hob : Owned ι H b := .inr ⟨t, base, by rw [ht]; simp, hι⟩
  refine ⟨?_, ?_⟩
  · exact
    { stable := fun k h => ⟨by rw [W.size]; exact (R.stable k h).1, fun h' => (R.stable k h).2 ((Hp.map_own k).1 h')⟩
      boxes := fun l c h => by
        simp only [Hp.map] at h
        obtain ⟨c0, hc0, rfl⟩ := map_some h
        obtain ⟨cs, T, q1, q2, q3⟩ := R.boxes l c0 hc0
        refine ⟨cs, T, by rw [W.old _ (R.injBT l t b base (by rw [hc0]; simp) (by rw [ht]; simp) hι)]; exact q1, by simpa using q2, fun j hj => ?_⟩
        simp only [List.getElem_map]
        exact hφ _ _ (q3 j (by simpa using hj))
      rows := fun u s m h => by
        obtain ⟨h1, h2⟩ := R.rows u s m h
        refine ⟨fun b' base' hι' => ?_, h2⟩
        obtain ⟨c, T0, lo, hi, q1, q2, q3⟩ := (h1 b' base' hι').blk
        by_cases hb : b' = b
        · subst hb
          obtain ⟨cs', k1, k2, _⟩ := W.at_ c T0 (lo, hi) q1 (hfit _ _ _ q1)
          exact ⟨cs', T0, lo, hi, k1, by rw [k2]; exact q2, by rw [k2]; exact q3⟩
        · exact ⟨c, T0, lo, hi, by rw [W.old _ hb]; exact q1, q2, q3⟩
      injB := fun l m hl hm e => R.injB l m ((Hp.map_bx l).1 hl) ((Hp.map_bx m).1 hm) e
      injT := R.injT
      injBT := fun l u c p hl hu h e => R.injBT l u c p ((Hp.map_bx l).1 hl) hu h e }
  · exact { os := W.os, tape := W.tape, output := W.output, size := by rw [W.size]; exact Nat.le_refl _,
            keep := fun k _ ho => W.old k (fun e => ho (e ▸ hob)), st := fun _ h => h,
            new := fun k h => by
              rcases h with h | h
              · exact .inl h
              · exact .inr (.inl ((Hp.map_own k).1 h)),
            par := fun _ _ _ => rfl }

/-- A leaf that has nothing to do with the row that is written. -/
theorem VL.leaf (R : HR w S ι H) {φ : AV → AV} {b o : Nat} {vs : List Value} {t base sz n : Nat} (ht : H.tg t = some (sz, n)) (hι : ι.tg t = some (b, base)) (W : Wrote w w' b o vs) {v : Value} {x : AV} (h : VL w S ι H v x)
    (hx : (match x with | .own u _ _ _ => u ≠ t | .optr u _ _ _ _ => u ≠ t | .agg _ | .tup _ | .clos .. => False | _ => True)) : VL w' S ι (H.map φ) v x := by
  have hob : Owned ι H b := .inr ⟨t, base, by rw [ht]; simp, hι⟩
  have hst := R.wrote_stable hob W
  have rdk : ∀ {v d}, Rd w S v d → Rd w' S v d := fun h => h.keep (fun _ h => h) hst
  cases h with
  | any v => exact .any v
  | d h => exact .d (rdk h)
  | nils sz => exact .nils sz
  | ptr h => exact .ptr ((Hp.map_bx _).2 h)
  | onil h h2 => exact .onil h h2
  | oemp h h2 h3 => exact .oemp h h2 h3
  | @own u s m c p off cap rows h hι' hn hsz cv hc hr hcap hroom =>
    have hne : c ≠ b := fun e => hx (R.injT u t c p base (by rw [h]; simp) (by rw [ht]; simp) hι' (e ▸ hι))
    refine .own h hι' hn hsz cv (fun i j hi hj => by rw [cell_of_block (W.old c hne)]; exact hc i j hi hj) (fun i j hi hj => rdk (hr i j hi hj)) hcap ?_
    rw [W.old c hne]; exact hroom
  | @rptr c p row cv hS hc hr => exact .rptr cv hS (fun j hj => by rw [cell_of_block (hst _ hS)]; exact hc j hj) (fun j hj => rdk (hr j hj))
  | @optr u s m c p i j row h hι' hi hsz cv hc hr =>
    have hne : c ≠ b := fun e => hx (R.injT u t c p base (by rw [h]; simp) (by rw [ht]; simp) hι' (e ▸ hι))
    exact .optr h hι' hi hsz cv (fun j hj => by rw [cell_of_block (W.old c hne)]; exact hc j hj) (fun j hj => rdk (hr j hj))
  | agg _ _ => exact hx.elim
  | tup _ _ => exact hx.elim
  | clos _ _ _ _ => exact hx.elim

theorem wrote_cell {b o : Nat} {vs : List Value} {cs : Array Value} {T : TypeId} {fz : Nat × Nat} (W : Wrote w w' b o vs) (hb : w.heap[b]? = some (.cells cs T fz)) (hle : o + vs.length ≤ cs.size) {k : Nat} {v : Value}
    (hk : w.cell? ⟨b, k, none⟩ = some v) : w'.cell? ⟨b, k, none⟩ = some (if o ≤ k ∧ k < o + vs.length then vs.getD (k - o) undef else v) := by
  obtain ⟨cs', h1, h2, h3⟩ := W.at_ cs T fz hb hle
  simp only [World.cell?, hb] at hk
  simp only [Option.isSome_none, Bool.false_eq_true, if_false] at hk
  have hlt : k < cs.size := by
    rcases Nat.lt_or_ge k cs.size with h | h
    · exact h
    · simp [Array.getElem?_eq_none h] at hk
  have hlt' : k < cs'.size := by omega
  have e := h3 k
  simp only [World.cell?, h1, Option.isSome_none, Bool.false_eq_true, if_false]
  rw [Array.getElem?_eq_getElem hlt']
  rw [Array.getElem?_eq_getElem hlt] at hk
  simp only [Option.some.injEq] at hk ⊢
  have e1 : cs'.getD k undef = cs'[k] := by simp [Array.getD, hlt']
  have e2 : cs.getD k undef = cs[k] := by simp [Array.getD, hlt]
  rw [← e1, e, e2, hk]

/-- A row of cells in which some are new. -/
theorem splice_row {row ds : List DV} {j : Nat} (cv : Nat → Value) (vs : List Value) (hlen : vs.length = ds.length) (hj : j + ds.length ≤ row.length) (hr : ∀ k (h : k < row.length), Rd w' S (cv k) (row[k])) (hv : ∀ k (h : k < ds.length), Rd w' S (vs.getD k undef) (ds[k])) :
    (splice row j ds).length = row.length ∧ ∀ k (h : k < (splice row j ds).length), Rd w' S (if j ≤ k ∧ k < j + vs.length then vs.getD (k - j) undef else cv k) ((splice row j ds)[k]) := by
  have hl : (splice row j ds).length = row.length := by simp [splice]; omega
  refine ⟨hl, fun k hk => ?_⟩
  rw [hl] at hk
  by_cases h : j ≤ k ∧ k < j + vs.length
  · rw [if_pos h]
    have hk' : k - j < ds.length := by omega
    have e : (splice row j ds)[k]'(by omega) = ds[k - j] := by
      simp only [splice]
      rw [List.getElem_append_left (by simp; omega), List.getElem_append_right (by simp; omega)]
      congr 1
      simp; omega
    rw [e]; exact hv _ hk'
  · rw [if_neg h]
    have e : (splice row j ds)[k]'(by omega) = row[k] := by
      simp only [splice]
      by_cases hlt : k < j
      · rw [List.getElem_append_left (by simp; omega), List.getElem_append_left (by simp; omega)]
        simp
      · rw [List.getElem_append_right (by simp; omega)]
        simp
        congr 1
        omega
    rw [e]; exact hr k hk

theorem row_cell {a i sz j q k : Nat} (hj : j + q ≤ sz) (hk : k < sz) : (i * sz + j ≤ a * sz + k ∧ a * sz + k < i * sz + j + q) ↔ (a = i ∧ j ≤ k ∧ k < j + q) := by
  constructor
  · rintro ⟨h1, h2⟩
    have : a = i := by
      rcases Nat.lt_trichotomy a i with h | h | h
      · have := row_lt (i := a) (n := i) h hk; omega
      · exact h
      · have h4 := Nat.mul_le_mul_right sz (show i + 1 ≤ a from h)
        rw [Nat.add_mul, Nat.one_mul] at h4
        omega
    subst this
    exact ⟨rfl, by omega, by omega⟩
  · rintro ⟨rfl, h1, h2⟩
    omega

/-- A store into a row. -/
theorem set_row (R : HR w S ι H) {t sz n b base i j : Nat} {ds : List DV} {vs : List Value} (ht : H.tg t = some (sz, n)) (hι : ι.tg t = some (b, base)) (hi : i < n) (hj : j + ds.length ≤ sz) (hlen : vs.length = ds.length)
    (hv : ∀ k (h : k < ds.length), Rd w S (vs.getD k undef) (ds[k])) (W : Wrote w w' b (base + i * sz + j) vs) :
    (∀ v x, VL w S ι H v x → VL w' S ι (H.map (setE t i j ds)) v (setE t i j ds x)) ∧ HR w' S ι (H.map (setE t i j ds)) ∧ Fr w S ι H w' S ι (H.map (setE t i j ds)) := by
  have hob : Owned ι H b := .inr ⟨t, base, by rw [ht]; simp, hι⟩
  have hst := R.wrote_stable hob W
  have rdk : ∀ {v d}, Rd w S v d → Rd w' S v d := fun h => h.keep (fun _ h => h) hst
  obtain ⟨cs, T, lo, hi', g1, g2, g3⟩ := ((R.rows t sz n ht).1 b base hι).blk
  have hin : i * sz + sz ≤ n * sz := by rw [← Nat.succ_mul]; exact Nat.mul_le_mul_right sz hi
  have hle : base + i * sz + j + vs.length ≤ cs.size := by omega
  have leaf : ∀ v x, VL w S ι H v x → VL w' S ι (H.map (setE t i j ds)) v (setL t i j ds x) := by
    intro v x h
    cases x with
    | own u s off rows =>
      simp only [setL]
      by_cases hu : u = t
      · subst hu
        cases h with
        | onil h h2 => rw [hι] at h2; cases h2
        | oemp h h1 h2 =>
          by_cases hc : u = u ∧ off ≤ i
          · rw [if_pos hc]; simp only [List.modify_nil]; exact .oemp h h1 h2
          · rw [if_neg hc]; exact .oemp h h1 h2
        | @own _ _ m c p _ cap _ h hι' hn hsz cv hc hr hcap hroom =>
          rw [hι] at hι'; cases hι'
          rw [ht] at h; cases h
          obtain ⟨cs0, T0, fz0, r1, r2⟩ := hroom
          obtain ⟨cs', k1, k2, _⟩ := W.at_ cs T (lo, hi') g1 hle
          have hroom' : ∃ cs T fz, w'.heap[b]? = some (.cells cs T fz) ∧ base + (off + cap) * sz ≤ cs.size := by
            rw [g1] at r1; cases r1
            exact ⟨cs', T, (lo, hi'), k1, by omega⟩
          have hcell : ∀ a k, a < rows.length → k < sz → w'.cell? ⟨b, base + (off + a) * sz + k, none⟩ = some (if off + a = i ∧ j ≤ k ∧ k < j + vs.length then vs.getD (k - j) undef else cv a k) := by
            intro a k ha hk
            have h1 := wrote_cell W g1 hle (hc a k ha hk)
            have h2 := row_cell (a := off + a) (i := i) (q := vs.length) (by omega : j + vs.length ≤ sz) hk
            rw [h1]
            congr 1
            by_cases hh : off + a = i ∧ j ≤ k ∧ k < j + vs.length
            · rw [if_pos hh, if_pos (by have := h2.2 hh; omega)]
              congr 1
              have := hh.1
              subst this
              omega
            · rw [if_neg hh, if_neg (fun h3 => hh (h2.1 (by omega)))]
          by_cases hoff : off ≤ i
          · rw [if_pos ⟨rfl, hoff⟩]
            have hml : (rows.modify (i - off) (splice · j ds)).length = rows.length := List.length_modify ..
            have hrow : ∀ a (ha : a < rows.length), (rows.modify (i - off) (splice · j ds))[a]'(by omega) = if i - off = a then splice rows[a] j ds else rows[a] := fun a ha => List.getElem_modify ..
            have := VL.own (w := w') (S := S) (ι := ι) (H := H.map (setE u i j ds)) (t := u) (off := off) (cap := cap) (rows := rows.modify (i - off) (splice · j ds)) ht hι (by omega)
              (fun r hr' => by
                obtain ⟨a, ha, rfl⟩ := List.mem_iff_getElem.1 hr'
                rw [hml] at ha
                rw [hrow a ha]
                split
                · have := hsz _ (List.getElem_mem ha)
                  simp [splice]; omega
                · exact hsz _ (List.getElem_mem ha))
              (fun a k => if off + a = i ∧ j ≤ k ∧ k < j + vs.length then vs.getD (k - j) undef else cv a k)
              (fun a k ha hk => hcell a k (by omega) hk)
              (fun a k ha hk => by
                rw [hml] at ha
                have hra := hrow a ha
                have hsa := hsz _ (List.getElem_mem ha)
                by_cases hai : i - off = a
                · have hai' : off + a = i := by omega
                  rw [if_pos hai] at hra
                  simp only [hra] at hk ⊢
                  obtain ⟨s1, s2⟩ := splice_row (w' := w') (S := S) (ds := ds) (j := j) (row := rows[a]) (fun k => cv a k) vs hlen (by omega) (fun k hk => rdk (hr a k ha hk)) (fun k hk => rdk (hv k hk))
                  have := s2 k hk
                  simpa only [hai', true_and] using this
                · have hai' : ¬ off + a = i := by omega
                  rw [if_neg hai] at hra
                  simp only [hra] at hk ⊢
                  rw [if_neg (fun h => hai' h.1)]
                  exact rdk (hr a k ha hk))
              (by omega) hroom'
            rw [hml] at this
            exact this
          · rw [if_neg (fun h => hoff h.2)]
            exact VL.own (w := w') ht hι hn hsz (fun a k => if off + a = i ∧ j ≤ k ∧ k < j + vs.length then vs.getD (k - j) undef else cv a k) (fun a k ha hk => hcell a k ha hk)
              (fun a k ha hk => by rw [if_neg (by omega)]; exact rdk (hr a k ha hk)) hcap hroom'
      · rw [if_neg (fun h => hu h.1)]
        exact h.leaf R ht hι W hu
    | optr u s i' j' row =>
      simp only [setL]
      by_cases hu : u = t
      · subst hu
        cases h with
        | @optr _ _ m c p _ _ _ h hι' hi0 hsz cv hc hr =>
          rw [hι] at hι'; cases hι'
          rw [ht] at h; cases h
          have hcell : ∀ k, k < sz → w'.cell? ⟨b, base + i' * sz + k, none⟩ = some (if i' = i ∧ j ≤ k ∧ k < j + vs.length then vs.getD (k - j) undef else cv k) := by
            intro k hk
            have h1 := wrote_cell W g1 hle (hc k hk)
            have h2 := row_cell (a := i') (i := i) (q := vs.length) (by omega : j + vs.length ≤ sz) hk
            rw [h1]
            congr 1
            by_cases hh : i' = i ∧ j ≤ k ∧ k < j + vs.length
            · rw [if_pos hh, if_pos (by have := h2.2 hh; omega)]
              congr 1
              have := hh.1
              subst this
              omega
            · rw [if_neg hh, if_neg (fun h3 => hh (h2.1 (by omega)))]
          by_cases hii : i' = i
          · subst hii
            rw [if_pos ⟨rfl, rfl⟩]
            obtain ⟨s1, s2⟩ := splice_row (w' := w') (S := S) (ds := ds) (j := j) (row := row) cv vs hlen (by omega) (fun k hk => rdk (hr k hk)) (fun k hk => rdk (hv k hk))
            exact VL.optr ht hι hi0 (by omega) (fun k => if j ≤ k ∧ k < j + vs.length then vs.getD (k - j) undef else cv k) (fun k hk => by have := hcell k hk; simpa only [true_and] using this) s2
          · rw [if_neg (fun h => hii h.2)]
            exact VL.optr ht hι hi0 hsz cv (fun k hk => by have := hcell k hk; rw [if_neg (fun h => hii h.1)] at this; exact this) (fun k hk => rdk (hr k hk))
      · rw [if_neg (fun h => hu h.1)]
        exact h.leaf R ht hι W hu
    | agg cs => exact .any _
    | tup vs => exact .any _
    | clos fn a b => exact .any _
    | any => exact .any _
    | d x => exact h.leaf R ht hι W trivial
    | nils s => exact h.leaf R ht hι W trivial
    | ptr l o => exact h.leaf R ht hι W trivial
    | rptr row => exact h.leaf R ht hι W trivial
  have all : ∀ v x, VL w S ι H v x → VL w' S ι (H.map (setE t i j ds)) v (setE t i j ds x) := fun v x h => VL.m2 leaf h
  refine ⟨all, R.told ht hι W (fun cs0 T0 fz0 h0 => by rw [g1] at h0; cases h0; exact hle) all⟩

end
end Go.Proofs.YtchmoleeajkioaaDoor.V
