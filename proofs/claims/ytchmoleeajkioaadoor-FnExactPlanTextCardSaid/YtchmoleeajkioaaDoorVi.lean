/-
  THE LOGIC V, PART i: append.
-/
import Derived.Test.YtchmoleeajkioaaDoorVh
namespace Go.Proofs.YtchmoleeajkioaaDoor.V
open Go Go.RowKit
set_option linter.unusedSimpArgs false
set_option linter.unusedVariables false

section
variable {P : Program} {w : World} {S : Nat → Prop} {ι : Io} {H : Hp}

/-- A tag for a row that is nil as yet. -/
theorem seed (R : HR w S ι H) {d sz : Nat} (hd : H.tg d = none) :
    Ext w S ι H w S ⟨ι.bx, upd ι.tg d none⟩ ⟨H.bx, upd H.tg d (some (sz, 0))⟩ ∧ HR w S ⟨ι.bx, upd ι.tg d none⟩ ⟨H.bx, upd H.tg d (some (sz, 0))⟩ ∧ Fr w S ι H w S ⟨ι.bx, upd ι.tg d none⟩ ⟨H.bx, upd H.tg d (some (sz, 0))⟩ := by
  have hne : ∀ t, H.tg t ≠ none → t ≠ d := fun t h e => h (e ▸ hd)
  have hown : ∀ b, Owned (⟨ι.bx, upd ι.tg d none⟩ : Io) ⟨H.bx, upd H.tg d (some (sz, 0))⟩ b → Owned ι H b := by
    rintro b (⟨l, h1, h2⟩ | ⟨t, base, h1, h2⟩)
    · exact .inl ⟨l, h1, h2⟩
    · by_cases ht : t = d
      · subst ht; simp [upd_same] at h2
      · exact .inr ⟨t, base, by simpa [upd_ne _ _ ht] using h1, by simpa [upd_ne _ _ ht] using h2⟩
  have E : Ext w S ι H w S ⟨ι.bx, upd ι.tg d none⟩ ⟨H.bx, upd H.tg d (some (sz, 0))⟩ :=
    { st := fun _ h => h
      keep := fun _ _ => rfl
      bx := fun l h => ⟨h, rfl⟩
      tg := fun t s n h => by
        have := hne t (by rw [h]; simp)
        exact ⟨upd_ne _ _ this, n, Nat.le_refl _, by simpa [upd_ne _ _ this] using h⟩
      row := fun t s n b base h hι cs T fz hb => ⟨cs, T, fz, hb, Nat.le_refl _, fun _ _ => rfl⟩ }
  refine ⟨E, ?_, ?_⟩
  · exact
    { stable := fun b h => ⟨(R.stable b h).1, fun h' => (R.stable b h).2 (hown b h')⟩
      boxes := fun l c h => by
        obtain ⟨cs, T, h1, h2, h3⟩ := R.boxes l c h
        exact ⟨cs, T, h1, h2, fun j hj => (h3 j hj).ext E R⟩
      rows := fun t s n h => by
        by_cases ht : t = d
        · subst ht
          simp only [upd_same, Option.some.injEq, Prod.mk.injEq] at h
          obtain ⟨rfl, rfl⟩ := h
          exact ⟨fun b base hι => by simp [upd_same] at hι, fun _ => rfl⟩
        · simp only [upd_ne _ _ ht] at h
          have := R.rows t s n h
          simpa only [upd_ne _ _ ht] using this
      injB := R.injB
      injT := fun t u b p q ht hu e1 e2 => by
        have h1 : t ≠ d := by intro e; subst e; simp [upd_same] at e1
        have h2 : u ≠ d := by intro e; subst e; simp [upd_same] at e2
        simp only [upd_ne _ _ h1] at ht e1
        simp only [upd_ne _ _ h2] at hu e2
        exact R.injT t u b p q ht hu e1 e2
      injBT := fun l t b p hl ht hι => by
        have h1 : t ≠ d := by intro e; subst e; simp [upd_same] at hι
        simp only [upd_ne _ _ h1] at ht hι
        exact R.injBT l t b p hl ht hι }
  · exact { os := rfl, tape := rfl, output := rfl, size := Nat.le_refl _, keep := fun _ _ _ => rfl, st := fun _ h => h,
            new := fun b h => by
              rcases h with h | h
              · exact .inl h
              · exact .inr (.inl (hown b h)),
            par := fun _ _ _ => rfl }

/-- The cells of rows, one behind the other, in a block. -/
theorem rows_cells {w' : World} {b base sz : Nat} {rows ys : List (List DV)} {cv : Nat → Nat → Value} {news : List Value} (hold : ∀ i j, i < rows.length → j < sz → w'.cell? ⟨b, base + i * sz + j, none⟩ = some (cv i j))
    (hnew : ∀ k, k < ys.length * sz → w'.cell? ⟨b, base + rows.length * sz + k, none⟩ = some (news.getD k undef)) :
    ∀ i j, i < (rows ++ ys).length → j < sz → w'.cell? ⟨b, base + (0 + i) * sz + j, none⟩ = some (if i < rows.length then cv i j else news.getD ((i - rows.length) * sz + j) undef) := by
  intro i j hi hj
  rw [Nat.zero_add]
  by_cases h : i < rows.length
  · rw [if_pos h]; exact hold i j h hj
  · rw [if_neg h]
    simp only [List.length_append] at hi
    have hk : (i - rows.length) * sz + j < ys.length * sz := row_lt (by omega) hj
    have e : base + i * sz + j = base + rows.length * sz + ((i - rows.length) * sz + j) := by
      have : i * sz = rows.length * sz + (i - rows.length) * sz := by rw [← Nat.add_mul]; congr 1; omega
      omega
    rw [e]; exact hnew _ hk

theorem rows_rd {w' : World} {sz : Nat} {rows ys : List (List DV)} {cv : Nat → Nat → Value} {news : List Value} (h1 : ∀ i j (hi : i < rows.length) (hj : j < (rows[i]).length), Rd w' S (cv i j) ((rows[i])[j]))
    (h2 : ∀ i j (hi : i < ys.length) (hj : j < (ys[i]).length), Rd w' S (news.getD (i * sz + j) undef) ((ys[i])[j])) :
    ∀ i j (hi : i < (rows ++ ys).length) (hj : j < ((rows ++ ys)[i]).length), Rd w' S (if i < rows.length then cv i j else news.getD ((i - rows.length) * sz + j) undef) (((rows ++ ys)[i])[j]) := by
  intro i j hi hj
  by_cases h : i < rows.length
  · rw [if_pos h]
    simp only [List.getElem_append_left h] at hj ⊢
    exact h1 i j h hj
  · rw [if_neg h]
    have h' : rows.length ≤ i := by omega
    simp only [List.getElem_append_right h'] at hj ⊢
    exact h2 _ j (by simp only [List.length_append] at hi; omega) hj

theorem Src.keep {w' : World} {sz : Nat} {v : Value} {ys : List (List DV)} {news : List Value} (h : Src P w S sz v ys news) (hw : ∀ k, S k → w'.heap[k]? = w.heap[k]?) :
    ∀ i j (hi : i < ys.length) (hj : j < (ys[i]).length), Rd w' S (news.getD (i * sz + j) undef) ((ys[i])[j]) := fun i j hi hj => (h.rd i j hi hj).keep (fun _ h => h) hw

theorem Src.one {sz : Nat} {v : Value} {ys : List (List DV)} {news : List Value} (h : Src P w S sz v ys news) (h0 : 0 < sz) : ∀ u ∈ news, cellB u = true := by
  intro u hu
  obtain ⟨k, hk, rfl⟩ := List.mem_iff_getElem.1 hu
  rw [h.len] at hk
  have hd : k / sz < ys.length := (Nat.div_lt_iff_lt_mul h0).2 hk
  have hm : k % sz < sz := Nat.mod_lt _ h0
  have := h.rd (k / sz) (k % sz) hd (by rw [h.row _ (List.getElem_mem hd)]; exact hm)
  have e : k / sz * sz + k % sz = k := by rw [Nat.mul_comm]; exact Nat.div_add_mod ..
  rw [e] at this
  have e2 : news.getD k undef = news[k] := by simp [List.getD, hk, h.len]
  rw [e2] at this
  exact this.cellB

set_option maxHeartbeats 1000000 in
/-- Append to a row of this call's own. -/
theorem app_go {t u ty e : TypeId} {i : TypeInfo} {z : Value} (ht : P.underlying t = some (.slice e)) (hu : (∃ e', P.underlying u = some (.slice e')) ∨ P.underlying u = some .string)
    (hi : P.info? e = some i) (hz : i.zero = some z) (hb : i.bytes ≤ 128) (hzs : z.cells.size = i.size) (h0 : 0 < i.size) (R : HR w S ι H) {v x : Value} {y : AV} {g : Nat} {rows ys : List (List DV)}
    (hv : VL w S ι H v (.own g i.size 0 rows)) (hg : H.tg g = some (i.size, rows.length)) (hx : VL w S ι H x y) (hys : srcRows i.size y = some ys) (hbig : rows.length + ys.length ≤ 1099511627776) :
    ∃ r w' ι', (Builtin.append_ #[t, u] ty #[v, x]).run P w = .ok r w' ∧ (∀ v x, VL w S ι H v x → VL w' S ι' (H.app g i.size (rows.length + ys.length)) v (kill g x)) ∧
      HR w' S ι' (H.app g i.size (rows.length + ys.length)) ∧ Fr w S ι H w' S ι' (H.app g i.size (rows.length + ys.length)) ∧
      VL w' S ι' (H.app g i.size (rows.length + ys.length)) r (.own g i.size 0 (rows ++ ys)) := by
  obtain ⟨news, hs⟩ := src_ok (P := P) h0 hys hx
  have hgn : H.tg g ≠ none := by rw [hg]; simp
  have htg' : (H.app g i.size (rows.length + ys.length)).tg g = some (i.size, (rows ++ ys).length) := by simp [Hp.app, upd_same]
  have hszall : ∀ (hr : ∀ r ∈ rows, r.length = i.size), ∀ r ∈ rows ++ ys, r.length = i.size := by
    intro hr r h
    rcases List.mem_append.1 h with h | h
    · exact hr r h
    · exact hs.row r h
  -- a new block
  have grow : ∀ {base : Option Addr} {cap : Nat} {olds : List Value} {cv : Nat → Nat → Value}, olds.length = rows.length * i.size → (∀ r ∈ rows, r.length = i.size) →
      (∀ a j, a < rows.length → j < i.size → olds.getD (a * i.size + j) undef = cv a j) → (∀ a j (ha : a < rows.length) (hj : j < (rows[a]).length), Rd w S (cv a j) ((rows[a])[j])) →
      (Builtin.append_ #[t, u] ty #[v, x]).run P w = .ok (.slice (some ⟨w.heap.size, 0, none⟩) (rows.length + ys.length) (grownCap w (rows.length + ys.length) cap e))
        (w.drew.alloc (.cells (olds.toArray ++ news.toArray ++ Builtin.zeroCells z.cells (grownCap w (rows.length + ys.length) cap e - (rows.length + ys.length))) e)) →
      ∃ r w' ι', (Builtin.append_ #[t, u] ty #[v, x]).run P w = .ok r w' ∧ (∀ v x, VL w S ι H v x → VL w' S ι' (H.app g i.size (rows.length + ys.length)) v (kill g x)) ∧
        HR w' S ι' (H.app g i.size (rows.length + ys.length)) ∧ Fr w S ι H w' S ι' (H.app g i.size (rows.length + ys.length)) ∧
        VL w' S ι' (H.app g i.size (rows.length + ys.length)) r (.own g i.size 0 (rows ++ ys)) := by
    intro base cap olds cv hol hrs hoc hrd hrun
    let arr := olds.toArray ++ news.toArray ++ Builtin.zeroCells z.cells (grownCap w (rows.length + ys.length) cap e - (rows.length + ys.length))
    let w' := w.drew.alloc (.cells arr e)
    let ι' : Io := ⟨ι.bx, upd ι.tg g (some (w.heap.size, 0))⟩
    have hcap : rows.length + ys.length ≤ grownCap w (rows.length + ys.length) cap e := grownCap_ge _ _ _ _
    have harr : arr.size = grownCap w (rows.length + ys.length) cap e * i.size := by
      simp only [arr, Array.size_append, List.size_toArray, hol, hs.len, size_zeroCells, hzs]
      rw [← Nat.add_mul, ← Nat.add_mul]
      congr 1; omega
    have hheap : w'.heap = w.heap.push (.cells arr e) := rfl
    have hat : w'.heap[w.heap.size]? = some (.cells arr e (0, 0)) := by rw [hheap]; simp
    have hold' : ∀ k, k < w.heap.size → w'.heap[k]? = w.heap[k]? := fun k hk => by rw [hheap]; simp [Array.getElem?_push, Nat.ne_of_lt hk]
    have M : Moved w S ι H g w' ι' :=
      { os := rfl, tape := rfl, output := rfl, size := by rw [hheap]; simp, bx := rfl, tg := fun u hu => upd_ne _ _ hu, old := fun k hk _ => hold' k hk,
        at_ := fun b base h => by
          simp only [ι', upd_same, Option.some.injEq, Prod.mk.injEq] at h
          right; omega }
    have hle : (rows.length + ys.length) * i.size ≤ arr.size := by rw [harr]; exact Nat.mul_le_mul_right _ hcap
    obtain ⟨k1, k2, k3⟩ := moved (n := rows.length) (m := rows.length + ys.length) R hg M (fun b base h => by
      simp only [ι', upd_same, Option.some.injEq, Prod.mk.injEq] at h
      obtain ⟨rfl, rfl⟩ := h
      exact ⟨arr, e, 0, 0, hat, by omega, by omega⟩) (fun h => by simp [ι', upd_same] at h)
    refine ⟨_, w', ι', hrun, k1, k2, k3, ?_⟩
    have hst : ∀ k, S k → w'.heap[k]? = w.heap[k]? := fun k hk => hold' k (R.stable k hk).1
    have cell : ∀ k, k < arr.size → w'.cell? ⟨w.heap.size, k, none⟩ = some (arr.getD k undef) := fun k hk => by
      simp [World.cell?, hat, Array.getD, hk]
    have hlen : (rows ++ ys).length = rows.length + ys.length := List.length_append
    have := VL.own (w := w') (S := S) (ι := ι') (H := H.app g i.size (rows.length + ys.length)) (t := g) (sz := i.size) (n := (rows ++ ys).length) (b := w.heap.size) (base := 0) (off := 0)
      (cap := grownCap w (rows.length + ys.length) cap e) (rows := rows ++ ys) htg' (by simp [ι', upd_same]) (by omega) (hszall hrs)
      (fun a j => if a < rows.length then cv a j else news.getD ((a - rows.length) * i.size + j) undef)
      (rows_cells (fun a j ha hj => by
        have h1 := row_lt ha hj
        have h2 : rows.length * i.size ≤ arr.size := by rw [Nat.add_mul] at hle; omega
        rw [Nat.zero_add, cell _ (by omega), ← hoc a j ha hj]
        simp only [arr, Array.getD_eq_getD_getElem?, List.getD]
        rw [Array.getElem?_append_left (by simp; omega), Array.getElem?_append_left (by simp; omega)]
        simp) (fun k hk => by
        rw [Nat.add_mul] at hle
        rw [Nat.zero_add, cell _ (by omega)]
        simp only [arr, Array.getD_eq_getD_getElem?, List.getD]
        rw [Array.getElem?_append_left (by simp [hs.len]; omega), Array.getElem?_append_right (by simp; omega)]
        simp [hol]))
      (rows_rd (fun a j ha hj => (hrd a j ha hj).keep (fun _ h => h) hst) (hs.keep hst)) (by omega)
      ⟨arr, e, (0, 0), hat, by rw [harr]; simp⟩
    rw [hlen] at this
    simpa using this
  cases hv with
  | oemp h h1 h2 => omega
  | @onil _ _ n h hι =>
    have R1 := run_app (P := P) (w := w) (ty := ty) ht hu hi hz hb (base := none) (sLen := 0) (sCap := 0) (m := ys.length) (x := x) (olds := []) (news := news) hs.cells hs.lenOf
      (fun w1 _ => by simp [Builtin.firstCells, loadCells, loadCellsFrom]) (by simpa using hbig)
    by_cases hy0 : ys.length = 0
    · have hrun := R1.1 (by omega) w rfl
      have hys0 : ys = [] := List.length_eq_zero_iff.1 hy0
      subst hys0
      have M : Moved w S ι H g w ι :=
        { os := rfl, tape := rfl, output := rfl, size := Nat.le_refl _, bx := rfl, tg := fun _ _ => rfl, old := fun _ _ _ => rfl, at_ := fun b base h => .inl ⟨base, h⟩ }
      obtain ⟨k1, k2, k3⟩ := moved (n := 0) (m := 0) R hg M (fun b base h => by rw [hι] at h; cases h) (fun _ => rfl)
      exact ⟨_, w, ι, hrun, k1, k2, k3, by
        have := VL.onil (w := w) (S := S) (ι := ι) (H := H.app g i.size 0) (t := g) (sz := i.size) (n := 0) (by simp [Hp.app, upd_same]) hι
        simpa using this⟩
    · have hrun := R1.2 (by omega)
      have := grow (base := none) (cap := 0) (olds := []) (cv := fun _ _ => undef) (by simp) (by simp) (fun a j ha => by simp at ha) (fun a j ha => by simp at ha)
      simp only [List.length_nil] at this hrun
      exact this hrun
  | @own _ _ n b base _ cap _ h hι hn hsz cv hc hr hcap hroom =>
    obtain ⟨cs, T, fz, hb1, hb2⟩ := hroom
    have hco : ∀ a j, a < rows.length → j < i.size → w.cell? ⟨b, base + 0 * i.size + a * i.size + j, none⟩ = some (cv a j) := fun a j ha hj => by
      have := hc a j ha hj
      rw [Nat.zero_add] at this
      rw [Nat.zero_mul, Nat.add_zero]; exact this
    have R1 := run_app (P := P) (w := w) (ty := ty) ht hu hi hz hb (base := some ⟨b, base + 0 * i.size, none⟩) (sLen := rows.length) (sCap := cap) (m := ys.length) (x := x)
      (olds := (List.range (rows.length * i.size)).map fun k => cv (k / i.size) (k % i.size)) (news := news) hs.cells hs.lenOf
      (fun w1 h1 => first_cells cv h0 hco w1 h1) hbig
    by_cases hfit : rows.length + ys.length ≤ cap
    · obtain ⟨⟨cs', T', lo, hi', g1, g2, g3⟩⟩ := (R.rows g i.size rows.length hg).1 b base hι
      rw [hb1] at g1; cases g1
      rw [Nat.zero_add] at hb2
      have hml : (rows.length + ys.length) * i.size ≤ cap * i.size := Nat.mul_le_mul_right _ hfit
      rw [Nat.add_mul] at hml
      have hlen := hs.len
      have hstore : (storeCells (Addr.add ⟨b, base + 0 * i.size, none⟩ (rows.length * i.size)) news).run P w = .ok () (w.setCells b (base + rows.length * i.size) news) := by
        rw [add_addr]
        have e : base + 0 * i.size + rows.length * i.size = base + rows.length * i.size := by omega
        rw [e]
        exact run_store_cells hb1 (by omega) (by intro k hk hh; omega) (hs.one h0)
      have hrun := R1.1 hfit _ hstore
      have W := wrote b news (base + rows.length * i.size) w
      obtain ⟨cs', q1, q2, q3⟩ := W.at_ cs T (lo, hi') hb1 (by omega)
      have M : Moved w S ι H g (w.setCells b (base + rows.length * i.size) news) ι :=
        { os := W.os, tape := W.tape, output := W.output, size := by rw [W.size]; exact Nat.le_refl _, bx := rfl, tg := fun _ _ => rfl,
          old := fun k _ hk => W.old k (fun e => hk base (by rw [e]; exact hι)), at_ := fun b base h => .inl ⟨base, h⟩ }
      obtain ⟨k1, k2, k3⟩ := moved (n := rows.length) (m := rows.length + ys.length) R hg M (fun b' base' h => by
        rw [hι] at h; cases h
        exact ⟨cs', T, lo, hi', q1, by rw [q2, Nat.add_mul]; omega, by rw [q2]; exact g3⟩) (fun h => by rw [hι] at h; cases h)
      refine ⟨_, _, ι, hrun, k1, k2, k3, ?_⟩
      have hst : ∀ k, S k → (w.setCells b (base + rows.length * i.size) news).heap[k]? = w.heap[k]? := fun k hk =>
        W.old k (fun e => (R.stable k hk).2 (.inr ⟨g, base, hgn, by rw [e]; exact hι⟩))
      have hlen' : (rows ++ ys).length = rows.length + ys.length := List.length_append
      have := VL.own (w := w.setCells b (base + rows.length * i.size) news) (S := S) (ι := ι) (H := H.app g i.size (rows.length + ys.length)) (t := g) (sz := i.size) (n := (rows ++ ys).length) (b := b) (base := base) (off := 0)
        (cap := cap) (rows := rows ++ ys) htg' hι (by omega) (hszall hsz)
        (fun a j => if a < rows.length then cv a j else news.getD ((a - rows.length) * i.size + j) undef)
        (rows_cells (fun a j ha hj => by
          have h1 := row_lt ha hj
          have h2 := hc a j ha hj
          rw [Nat.zero_add] at h2
          rw [wrote_cell W hb1 (by omega) h2, if_neg (by omega)]) (fun k hk => by
          have hlt : base + rows.length * i.size + k < cs'.size := by omega
          have := q3 (base + rows.length * i.size + k)
          rw [if_pos (by omega)] at this
          have e : base + rows.length * i.size + k - (base + rows.length * i.size) = k := by omega
          rw [e] at this
          simp only [World.cell?, q1, Option.isSome_none, Bool.false_eq_true, if_false]
          rw [← this]
          simp [Array.getD, hlt]))
        (rows_rd (fun a j ha hj => (hr a j ha hj).keep (fun _ h => h) hst) (hs.keep hst)) (by omega)
        ⟨cs', T, (lo, hi'), q1, by rw [q2, Nat.zero_add]; exact hb2⟩
      rw [hlen'] at this
      exact this
    · have hrun := R1.2 hfit
      exact grow (base := some ⟨b, base + 0 * i.size, none⟩) (cap := cap) (olds := (List.range (rows.length * i.size)).map fun k => cv (k / i.size) (k % i.size)) (cv := cv) (by simp) hsz
        (fun a j ha hj => range_row cv ha hj) hr hrun

end
end Go.Proofs.YtchmoleeajkioaaDoor.V
