/-
  THE LOGIC V, PART h: append.
-/
import Derived.Test.YtchmoleeajkioaaDoorVg
namespace Go.Proofs.YtchmoleeajkioaaDoor.V
open Go Go.RowKit
set_option linter.unusedSimpArgs false
set_option linter.unusedVariables false

/-- The rows that are appended. -/
def srcRows (sz : Nat) : AV → Option (List (List DV))
  | .d (.sl sz' rows) => if sz' = sz then some rows else none
  | .own _ sz' _ rows => if sz' = sz then some rows else none
  | .nils _ => some []
  | .d (.str s) => if sz = 1 then some (s.map fun b => [.int .u8 b.toNat]) else none
  | _ => none

section
variable {P : Program} {w : World} {S : Nat → Prop} {ι : Io} {H : Hp}

/-- Cells that are read in one go. -/
theorem first_cells {b o sz m cap : Nat} (cv : Nat → Nat → Value) (h0 : 0 < sz) (hc : ∀ i j, i < m → j < sz → w.cell? ⟨b, o + i * sz + j, none⟩ = some (cv i j)) (w1 : World) (h1 : w1.heap = w.heap) :
    (Builtin.firstCells sz m (.slice (some ⟨b, o, none⟩) m cap)).run P w1 = .ok ((List.range (m * sz)).map fun k => cv (k / sz) (k % sz)).toArray w1 := by
  have := run_loadCells (P := P) w1 ⟨b, o, none⟩ (m * sz) (fun k => cv (k / sz) (k % sz)) (fun k hk => by
    rw [add_addr]
    have hd : k / sz < m := (Nat.div_lt_iff_lt_mul h0).2 hk
    have := hc (k / sz) (k % sz) hd (Nat.mod_lt _ h0)
    rw [← this]
    have e : o + k / sz * sz + k % sz = o + k := by rw [Nat.add_assoc, Nat.mul_comm, Nat.div_add_mod]
    rw [e]
    simp [World.cell?, h1])
  simp [Builtin.firstCells, this]

theorem range_row {sz m i j : Nat} (cv : Nat → Nat → Value) (hi : i < m) (hj : j < sz) : ((List.range (m * sz)).map fun k => cv (k / sz) (k % sz)).getD (i * sz + j) undef = cv i j := by
  have hlt := row_lt hi hj
  have e1 : (i * sz + j) / sz = i := by
    rw [Nat.mul_comm, Nat.mul_add_div (by omega), Nat.div_eq_of_lt hj, Nat.add_zero]
  have e2 : (i * sz + j) % sz = j := by rw [Nat.mul_comm, Nat.mul_add_mod]; exact Nat.mod_eq_of_lt hj
  simp [List.getD, hlt, e1, e2]

structure Src (P : Program) (w : World) (S : Nat → Prop) (sz : Nat) (v : Value) (ys : List (List DV)) (news : List Value) : Prop where
  len : news.length = ys.length * sz
  cells : ∀ w1, w1.heap = w.heap → (Builtin.firstCells sz ys.length v).run P w1 = .ok news.toArray w1
  lenOf : ∀ w1, (Builtin.lenOf v).run P w1 = .ok ys.length w1
  row : ∀ r ∈ ys, r.length = sz
  rd : ∀ i j (hi : i < ys.length) (hj : j < (ys[i]).length), Rd w S (news.getD (i * sz + j) undef) ((ys[i])[j])

theorem src_zero {sz : Nat} {a : Option Addr} {cap : Nat} : Src P w S sz (.slice a 0 cap) [] [] where
  len := by simp
  cells w1 _ := by cases a <;> simp [Builtin.firstCells, loadCells, loadCellsFrom]
  lenOf w1 := rfl
  row := by simp
  rd i j hi := absurd hi (by simp)

theorem src_rows {b o sz cap : Nat} {rows : List (List DV)} (h0 : 0 < sz) (cv : Nat → Nat → Value) (hsz : ∀ r ∈ rows, r.length = sz)
    (hc : ∀ i j, i < rows.length → j < sz → w.cell? ⟨b, o + i * sz + j, none⟩ = some (cv i j)) (hr : ∀ i j (hi : i < rows.length) (hj : j < (rows[i]).length), Rd w S (cv i j) ((rows[i])[j])) :
    Src P w S sz (.slice (some ⟨b, o, none⟩) rows.length cap) rows ((List.range (rows.length * sz)).map fun k => cv (k / sz) (k % sz)) where
  len := by simp
  cells w1 h1 := first_cells cv h0 hc w1 h1
  lenOf w1 := rfl
  row := hsz
  rd i j hi hj := by
    rw [range_row cv hi (by rw [← hsz _ (List.getElem_mem hi)]; exact hj)]
    exact hr i j hi hj

theorem src_ok {sz : Nat} {y : AV} {ys : List (List DV)} {v : Value} (h0 : 0 < sz) (h : srcRows sz y = some ys) (hy : VL w S ι H v y) : ∃ news, Src P w S sz v ys news := by
  unfold srcRows at h
  split at h
  · split at h
    · rename_i e; subst e
      simp at h; subst h
      cases hy with
      | d hy => cases hy with
        | nil a cap => exact ⟨[], src_zero⟩
        | sl cv hcap hS hsz hc hr => exact ⟨_, src_rows h0 cv hsz hc hr⟩
    · cases h
  · split at h
    · rename_i e; subst e
      simp at h; subst h
      cases hy with
      | onil => exact ⟨[], src_zero⟩
      | oemp => exact ⟨[], src_zero⟩
      | @own t _ n b base off cap rows ht hι hn hsz cv hc hr hcap hroom =>
        exact ⟨_, src_rows h0 cv hsz (fun i j hi hj => by rw [← hc i j hi hj, Nat.add_mul]; congr 2; omega) hr⟩
    · cases h
  · simp at h; subst h
    rw [hy.nils_inv]; exact ⟨[], src_zero⟩
  · rename_i s
    split at h
    · rename_i e; subst e
      simp at h; subst h
      rw [hy.str_inv]
      have hs : (⟨s.toArray⟩ : ByteArray).size = s.length := rfl
      refine ⟨s.map fun b => .int .u8 b.toNat, ⟨by simp, fun w1 _ => ?_, fun w1 => by simp [Builtin.lenOf, hs], by simp, fun i j hi hj => ?_⟩⟩
      · have : (⟨s.toArray⟩ : ByteArray).extract 0 s.length = ⟨s.toArray⟩ := by
          rw [extract_bytes]; simp
        simp [Builtin.firstCells, this]
      · obtain rfl : j = 0 := by simpa using hj
        simp only [List.length_map] at hi
        simp [List.getD, hi]
        exact .int _ _
    · cases h
  · cases h

theorem grown_le {need old : Nat} (h : old < need) : Builtin.nextslicecap need old ≤ 2 * need := nextslicecap_le h

/-- How append runs. -/
theorem run_app {t u ty e : TypeId} {i : TypeInfo} {z : Value} (ht : P.underlying t = some (.slice e)) (hu : (∃ e', P.underlying u = some (.slice e')) ∨ P.underlying u = some .string)
    (hi : P.info? e = some i) (hz : i.zero = some z) (hb : i.bytes ≤ 128) {base : Option Addr} {sLen sCap m : Nat} {x : Value} {olds news : List Value}
    (hx : ∀ w1, w1.heap = w.heap → (Builtin.firstCells i.size m x).run P w1 = .ok news.toArray w1) (hl : ∀ w1, (Builtin.lenOf x).run P w1 = .ok m w1)
    (ho : ∀ w1, w1.heap = w.heap → (Builtin.firstCells i.size sLen (.slice base sLen sCap)).run P w1 = .ok olds.toArray w1) (hbig : sLen + m ≤ 1099511627776) :
    (sLen + m ≤ sCap → ∀ w', (match base with | some a => (storeCells (a.add (sLen * i.size)) news).run P w = .ok () w' | none => w' = w) →
      (Builtin.append_ #[t, u] ty #[.slice base sLen sCap, x]).run P w = .ok (.slice base (sLen + m) sCap) w') ∧
    (¬ sLen + m ≤ sCap → (Builtin.append_ #[t, u] ty #[.slice base sLen sCap, x]).run P w = .ok (.slice (some ⟨w.heap.size, 0, none⟩) (sLen + m) (grownCap w (sLen + m) sCap e))
        (w.drew.alloc (.cells (olds.toArray ++ news.toArray ++ Builtin.zeroCells z.cells (grownCap w (sLen + m) sCap e - (sLen + m))) e))) := by
  have hsize : (sizeOf e).run P w = .ok i.size w := by simp [sizeOf, typeInfo, hi]
  have hzeros : ∃ d, P.underlying u = some d ∧ (match d with | .int _ => true | _ => false) = false := by
    rcases hu with ⟨e', hu⟩ | hu
    · exact ⟨_, hu, rfl⟩
    · exact ⟨_, hu, rfl⟩
  obtain ⟨d, hd, hdz⟩ := hzeros
  refine ⟨fun hroom w' hw' => ?_, fun hroom => ?_⟩
  · cases base with
    | none =>
      simp only at hw'
      subst hw'
      rcases hu with ⟨e', hu⟩ | hu <;>
        simp [Builtin.append_, run_underlying ht, run_underlying hu, sizeOf, typeInfo, hi, hl, hroom, hx w' rfl]
    | some a =>
      simp only at hw'
      rcases hu with ⟨e', hu⟩ | hu <;>
        simp [Builtin.append_, run_underlying ht, run_underlying hu, sizeOf, typeInfo, hi, hl, hroom, hx w rfl, hw']
  · have h63 : ¬ (9223372036854775807 < (sLen : Int) + (m : Int)) := by omega
    have h48 : ¬ (281474976710656 < Builtin.nextslicecap (sLen + m) sCap * i.bytes) := by
      have h1 := grown_le (need := sLen + m) (old := sCap) (by omega)
      have h2 : Builtin.nextslicecap (sLen + m) sCap * i.bytes ≤ (2 * (sLen + m)) * 128 := Nat.mul_le_mul h1 hb
      omega
    have hxd := hx w.drew rfl
    have hod := ho w.drew rfl
    rcases hu with ⟨e', hu⟩ | hu <;>
      (simp [Builtin.append_, run_underlying ht, run_underlying hu, sizeOf, typeInfo, zeroValue, hi, hz, hl, hroom, h63, h48, Question.forced, hxd, hod, newRow, grownCap]
       try (congr 2; apply Array.ext'; simp [List.append_assoc]))

/-- The abstract heap behind an append to the row t. -/
def Hp.app (H : Hp) (t sz n : Nat) : Hp := ⟨(H.map (kill t)).bx, upd H.tg t (some (sz, n))⟩

/-- A row goes on, where it was or elsewhere; its copies are told no more. -/
structure Moved (w : World) (S : Nat → Prop) (ι : Io) (H : Hp) (t : Nat) (w' : World) (ι' : Io) : Prop where
  os : w'.os = w.os
  tape : w'.tape = w.tape
  output : w'.output = w.output
  size : w.heap.size ≤ w'.heap.size
  bx : ι'.bx = ι.bx
  tg : ∀ u, u ≠ t → ι'.tg u = ι.tg u
  old : ∀ k, k < w.heap.size → (∀ base, ι.tg t ≠ some (k, base)) → w'.heap[k]? = w.heap[k]?
  at_ : ∀ b base, ι'.tg t = some (b, base) → (∃ base', ι.tg t = some (b, base')) ∨ w.heap.size ≤ b

theorem moved {t sz n m : Nat} {w' : World} {ι' : Io} (R : HR w S ι H) (ht : H.tg t = some (sz, n)) (M : Moved w S ι H t w' ι') (hrow : ∀ b base, ι'.tg t = some (b, base) → RowAt w' b base sz m) (hnil : ι'.tg t = none → m = 0) :
    (∀ v x, VL w S ι H v x → VL w' S ι' (H.app t sz m) v (kill t x)) ∧ HR w' S ι' (H.app t sz m) ∧ Fr w S ι H w' S ι' (H.app t sz m) := by
  have htn : H.tg t ≠ none := by rw [ht]; simp
  have hbxn : ∀ l, (H.app t sz m).bx l ≠ none ↔ H.bx l ≠ none := fun l => Hp.map_bx l
  have htgn : ∀ u, (H.app t sz m).tg u ≠ none ↔ H.tg u ≠ none := by
    intro u
    by_cases hu : u = t
    · subst hu; simp [Hp.app, upd_same, ht]
    · simp [Hp.app, upd_ne _ _ hu]
  have htge : ∀ u, u ≠ t → (H.app t sz m).tg u = H.tg u := fun u hu => upd_ne _ _ hu
  have hst : ∀ k, S k → w'.heap[k]? = w.heap[k]? := fun k hk => M.old k (R.stable k hk).1 (fun base e => (R.stable k hk).2 (.inr ⟨t, base, htn, e⟩))
  have hboxk : ∀ l, H.bx l ≠ none → w'.heap[ι.bx l]? = w.heap[ι.bx l]? := fun l hl => M.old _ (R.bx_lt hl) (fun base e => R.injBT l t _ base hl htn e rfl)
  have hrowk : ∀ u b base, u ≠ t → H.tg u ≠ none → ι.tg u = some (b, base) → w'.heap[b]? = w.heap[b]? := fun u b base hu hn hι =>
    M.old b (R.tg_lt hn hι) (fun base' e => hu (R.injT u t b base base' hn htn hι e))
  have rdk : ∀ {v d}, Rd w S v d → Rd w' S v d := fun h => h.keep (fun _ h => h) hst
  have hfresh : ∀ k, k < w.heap.size → (∃ base, ι'.tg t = some (k, base)) → ∃ base', ι.tg t = some (k, base') := by
    rintro k hk ⟨base, hb⟩
    rcases M.at_ k base hb with h | h
    · exact h
    · omega
  have hown : ∀ b, Owned ι' (H.app t sz m) b → Owned ι H b ∨ w.heap.size ≤ b := by
    rintro b (⟨l, h1, h2⟩ | ⟨u, base, h1, h2⟩)
    · exact .inl (.inl ⟨l, (hbxn l).1 h1, by rw [← M.bx]; exact h2⟩)
    · by_cases hu : u = t
      · subst hu
        rcases M.at_ b base h2 with ⟨base', h⟩ | h
        · exact .inl (.inr ⟨u, base', htn, h⟩)
        · exact .inr h
      · exact .inl (.inr ⟨u, base, (htgn u).1 h1, by rw [← M.tg u hu]; exact h2⟩)
  have leaf : ∀ v x, VL w S ι H v x → VL w' S ι' (H.app t sz m) v (killL t x) := by
    intro v x h
    cases h with
    | any v => exact .any v
    | d h => exact .d (rdk h)
    | nils sz => exact .nils sz
    | @ptr l off h =>
      have := VL.ptr (w := w') (S := S) (ι := ι') (H := H.app t sz m) (l := l) (off := off) ((hbxn _).2 h)
      rw [M.bx] at this; exact this
    | @onil u s n' h h2 =>
      simp only [killL]
      by_cases hu : u = t
      · rw [if_pos hu]; exact .any _
      · rw [if_neg hu]; exact .onil (by rw [htge u hu]; exact h) (by rw [M.tg u hu]; exact h2)
    | @oemp u s off n' cap a h h2 h3 =>
      simp only [killL]
      by_cases hu : u = t
      · rw [if_pos hu]; exact .any _
      · rw [if_neg hu]; exact .oemp (by rw [htge u hu]; exact h) h2 h3
    | @own u s n' c p off cap rows h hι hn hsz cv hc hr hcap hroom =>
      simp only [killL]
      by_cases hu : u = t
      · rw [if_pos hu]; exact .any _
      · rw [if_neg hu]
        have hk := hrowk u c p hu (by rw [h]; simp) hι
        exact .own (by rw [htge u hu]; exact h) (by rw [M.tg u hu]; exact hι) hn hsz cv (fun i j hi hj => by rw [cell_of_block hk]; exact hc i j hi hj) (fun i j hi hj => rdk (hr i j hi hj)) hcap (by rw [hk]; exact hroom)
    | rptr cv hS hc hr => exact .rptr cv hS (fun j hj => by rw [cell_of_block (hst _ hS)]; exact hc j hj) (fun j hj => rdk (hr j hj))
    | @optr u s n' c p i j row h hι hi hsz cv hc hr =>
      simp only [killL]
      by_cases hu : u = t
      · rw [if_pos hu]; exact .any _
      · rw [if_neg hu]
        have hk := hrowk u c p hu (by rw [h]; simp) hι
        exact .optr (by rw [htge u hu]; exact h) (by rw [M.tg u hu]; exact hι) hi hsz cv (fun j hj => by rw [cell_of_block hk]; exact hc j hj) (fun j hj => rdk (hr j hj))
    | agg _ _ => exact .any _
    | tup _ _ => exact .any _
    | clos _ _ _ _ => exact .any _
  have all : ∀ v x, VL w S ι H v x → VL w' S ι' (H.app t sz m) v (kill t x) := fun v x h => VL.m2 leaf h
  refine ⟨all, ?_, ?_⟩
  · exact
    { stable := fun b h => ⟨Nat.lt_of_lt_of_le (R.stable b h).1 M.size, fun h' => by
        rcases hown b h' with h1 | h1
        · exact (R.stable b h).2 h1
        · have := (R.stable b h).1; omega⟩
      boxes := fun l c h => by
        simp only [Hp.app, Hp.map] at h
        obtain ⟨c0, hc0, rfl⟩ := map_some h
        obtain ⟨cs, T, q1, q2, q3⟩ := R.boxes l c0 hc0
        refine ⟨cs, T, by rw [M.bx, hboxk l (by rw [hc0]; simp)]; exact q1, by simpa using q2, fun j hj => ?_⟩
        simp only [List.getElem_map]
        exact all _ _ (q3 j (by simpa using hj))
      rows := fun u s k h => by
        by_cases hu : u = t
        · subst hu
          obtain ⟨rfl, rfl⟩ : sz = s ∧ m = k := by simpa [Hp.app, upd_same] using h
          exact ⟨hrow, hnil⟩
        · rw [htge u hu] at h
          obtain ⟨h1, h2⟩ := R.rows u s k h
          refine ⟨fun b base hι => ?_, fun hι => h2 (by rw [← M.tg u hu]; exact hι)⟩
          rw [M.tg u hu] at hι
          obtain ⟨c, T0, lo, hi, q1, q2, q3⟩ := (h1 b base hι).blk
          exact ⟨c, T0, lo, hi, by rw [hrowk u b base hu (by rw [h]; simp) hι]; exact q1, q2, q3⟩
      injB := fun l k hl hk e => R.injB l k ((hbxn l).1 hl) ((hbxn k).1 hk) (by rw [← M.bx]; exact e)
      injT := fun u x b p q hu hx e1 e2 => by
        by_cases h1 : u = t <;> by_cases h2 : x = t
        · rw [h1, h2]
        · subst h1
          rw [M.tg x h2] at e2
          have hlt := R.tg_lt ((htgn x).1 hx) e2
          obtain ⟨base', hb⟩ := hfresh b hlt ⟨p, e1⟩
          exact R.injT u x b base' q htn ((htgn x).1 hx) hb e2
        · subst h2
          rw [M.tg u h1] at e1
          have hlt := R.tg_lt ((htgn u).1 hu) e1
          obtain ⟨base', hb⟩ := hfresh b hlt ⟨q, e2⟩
          exact R.injT u x b p base' ((htgn u).1 hu) htn e1 hb
        · rw [M.tg u h1] at e1
          rw [M.tg x h2] at e2
          exact R.injT u x b p q ((htgn u).1 hu) ((htgn x).1 hx) e1 e2
      injBT := fun l u b p hl hu hι e => by
        rw [M.bx] at e
        have hl' := (hbxn l).1 hl
        by_cases h1 : u = t
        · subst h1
          have hlt := R.bx_lt hl'
          obtain ⟨base', hb⟩ := hfresh b (by omega) ⟨p, hι⟩
          exact R.injBT l u b base' hl' htn hb e
        · rw [M.tg u h1] at hι
          exact R.injBT l u b p hl' ((htgn u).1 hu) hι e }
  · exact { os := M.os, tape := M.tape, output := M.output, size := M.size,
            keep := fun b hb ho => M.old b hb (fun base e => ho (.inr ⟨t, base, htn, e⟩)), st := fun _ h => h,
            new := fun b h => by
              rcases h with h | h
              · exact .inl h
              · rcases hown b h with h' | h'
                · exact .inr (.inl h')
                · exact .inr (.inr h'),
            par := fun l _ _ => by rw [M.bx] }

end
end Go.Proofs.YtchmoleeajkioaaDoor.V
