/-
  The program's look at tables is the reference's.
-/
import Derived.Test.YtchmoleeajkioaaDoorPm
namespace Go.Proofs.YtchmoleeajkioaaDoor.V
open Go Go.RowKit
set_option linter.unusedSimpArgs false
set_option linter.unusedVariables false
noncomputable section
set_option maxRecDepth 100000

theorem fidx_pos {α : Type} {p : α → Bool} {l : List α} : 0 ≤ fidx p l ↔ ∃ y ∈ l, p y = true := by
  constructor
  · intro h
    apply Classical.byContradiction
    intro hn
    rw [fidx_no (fun y hy => by
      cases hp : p y with
      | false => rfl
      | true => exact absurd ⟨y, hy, hp⟩ hn)] at h
    omega
  · rintro ⟨y, hy, hp⟩
    unfold fidx
    cases hf : l.findIdx? p with
    | some i => simp
    | none =>
      rw [List.findIdx?_eq_none_iff] at hf
      have := hf y hy
      rw [hp] at this; cases this
theorem fidx_is {α : Type} {p : α → Bool} {l : List α} {i : Nat} (d : α) (hi : i < l.length) (hp : p (l.getD i d) = true) : decide (fidx p l = (i : Int)) = !decide (0 ≤ fidx p (l.take i)) := by
  by_cases h : 0 ≤ fidx p (l.take i)
  · have ne : ¬ fidx p l = (i : Int) := by
      intro e
      obtain ⟨y, hy, hpy⟩ := fidx_pos.1 h
      unfold fidx at e
      cases hf : l.findIdx? p with
      | none => rw [hf] at e; simp only at e; omega
      | some k =>
        rw [hf] at e
        simp only at e
        have : k = i := by omega
        subst this
        rw [List.findIdx?_eq_some_iff_getElem] at hf
        obtain ⟨_, _, h3⟩ := hf
        rw [List.mem_take_iff_getElem] at hy
        obtain ⟨j, hj, rfl⟩ := hy
        have := h3 j (by omega)
        rw [hpy] at this
        exact this rfl
    simp [ne, h]
  · have e := fidx_at (p := p) (l := l) (i := i) (d := d) (fun y hy => by
      cases hq : p y with
      | false => rfl
      | true => exact absurd (fidx_pos.2 ⟨y, hy, hq⟩) h) hi hp
    simp [e, h]

theorem php (n : Nat) : ∀ l : List Int, l.Nodup → (∀ y ∈ l, 0 ≤ y ∧ y < (n : Int)) → l.length ≤ n := by
  induction n with
  | zero =>
    intro l _ h
    cases l with
    | nil => simp
    | cons a l => have := h a (by simp); omega
  | succ n ih =>
    intro l hd h
    by_cases hm : (n : Int) ∈ l
    · have := ih (l.erase n) (hd.erase _) (fun y hy => by
        have h1 := (hd.mem_erase_iff).1 hy
        have h2 := h y h1.2
        have := h1.1
        omega)
      rw [List.length_erase_of_mem hm] at this
      omega
    · have := ih l hd (fun y hy => by
        have h2 := h y hy
        have : y ≠ n := fun e => hm (e ▸ hy)
        omega)
      omega
theorem once_nodup {l : List Int} (h : once l = true) : l.Nodup := by
  rw [List.Nodup, List.pairwise_iff_getElem]
  intro i j hi hj hij e
  have := allTo_out h j hj
  simp only [onceAt, Bool.not_eq_eq_eq_not, Bool.not_true] at this
  rw [Bool.eq_false_iff] at this
  apply this
  rw [List.contains_iff_mem, List.mem_take_iff_getElem]
  refine ⟨i, by omega, ?_⟩
  rw [e, List.getD, List.getElem?_eq_getElem hj]
  rfl

theorem idx_same (t : Tbl) (x : Idx) : iIdxOK t x = sIdxOK t x := by
  have hat : ∀ k, k < x.cols.length → sIdxAt t x k = (inR (x.cols.getD k 0) 0 ((t.cols.length : Int) - 1) && onceAt x.cols k) := fun k hk => by
    simp only [sIdxAt, onceAt]
    congr 2
    rw [Bool.eq_iff_iff]
    simp only [List.any_eq_true, List.contains_iff_mem, beq_iff_eq]
    exact ⟨fun ⟨y, h, e⟩ => e ▸ h, fun h => ⟨_, h, rfl⟩⟩
  rw [Bool.eq_iff_iff]
  simp only [iIdxOK, sIdxOK, Bool.and_eq_true, decide_eq_true_eq, Bool.not_eq_eq_eq_not, Bool.not_true, decide_eq_false_iff_not, fidx_pos]
  constructor
  · rintro ⟨⟨⟨h1, h2⟩, h3⟩, h4⟩
    have hr : ∀ y ∈ x.cols, inR y 0 ((t.cols.length : Int) - 1) = true := fun y hy => by
      cases hq : inR y 0 ((t.cols.length : Int) - 1) with
      | true => rfl
      | false => exact absurd ⟨y, hy, by simp [hq]⟩ h4
    refine ⟨⟨⟨h1, by omega⟩, ?_⟩, allTo_yes (fun k hk => ?_)⟩
    · refine php _ _ (once_nodup h3) (fun y hy => ?_)
      have := hr y hy
      simp only [inR, Bool.and_eq_true, decide_eq_true_eq] at this
      omega
    · rw [hat k hk, allTo_out h3 k hk, hr _ (getD_mem hk)]; rfl
  · rintro ⟨⟨⟨h1, h2⟩, h3⟩, h4⟩
    have h4 := allTo_out h4
    refine ⟨⟨⟨h1, by omega⟩, allTo_yes (fun k hk => ?_)⟩, ?_⟩
    · have := h4 k hk
      rw [hat k hk, Bool.and_eq_true] at this
      exact this.2
    · rintro ⟨y, hy, hq⟩
      rw [List.mem_iff_getElem] at hy
      obtain ⟨k, hk, rfl⟩ := hy
      have := h4 k hk
      rw [hat k hk, Bool.and_eq_true, List.getD, List.getElem?_eq_getElem hk] at this
      rw [show inR x.cols[k] 0 ((t.cols.length : Int) - 1) = true from this.1] at hq
      cases hq

theorem tbl_same (t : Tbl) : iTblOK t = sTblOK t := by
  rw [sTblOK_eq, iTblOK, sTblOK']
  congr 1
  congr 1
  · refine allTo_congr (fun k hk => ?_)
    simp only [iColAt, sColAt]
    rw [fidx_is col0 hk (by simp)]
    simp only [Bool.and_assoc]
    congr 2
    rw [Bool.and_comm]
  · refine allTo_congr (fun k hk => ?_)
    simp only [iIxAt, sIxAt]
    rw [idx_same, fidx_is idx0 hk (by simp)]

theorem c_iTblOK2 (t : Tbl) (hs : SmTbl t) : Fn Tryd.prog 28 [aTbl t] none (bv (sTblOK t)) none none none := by
  simp only [SmTbl, SmCol, SmIdx] at hs
  rw [← tbl_same]
  exact c_iTblOK _ (by omega) (by omega) (by omega) (fun y hy => by have := hs.2.1.2 y hy; omega) (fun y hy => by have := hs.2.2.2 y hy; omega)
theorem bl_le (a b : Txt) : (Op.bytesLess a b || a == b) = !Op.bytesLess b a := by
  cases h : Op.bytesLess b a with
  | true =>
    cases h' : Op.bytesLess a b with
    | true => have := bl_trans _ _ _ h h'; rw [bl_irr] at this; cases this
    | false =>
      have : a ≠ b := fun e => by subst e; rw [bl_irr] at h; cases h
      simp [this]
  | false =>
    cases h' : Op.bytesLess a b with
    | true => rfl
    | false => rw [bl_tri a b h' h]; simp
theorem sCat_rises {l : List Tbl} (h : sCatOK l = true) : Rises l := by
  intro i j
  induction j with
  | zero => intro h; omega
  | succ j ih =>
    intro hij hj
    simp only [sCatOK, Bool.and_eq_true] at h
    have hs : Op.bytesLess (l.getD j tbl0).name (l.getD (j + 1) tbl0).name = true := by
      have := allTo_out h.2 (j + 1) hj
      simp only [sCatAt, Bool.and_eq_true, Bool.not_eq_eq_eq_not, Bool.not_true, Bool.and_eq_false_iff, decide_eq_false_iff_not, Bool.not_false] at this
      rcases this.2 with h | h
      · omega
      · simpa using h
    by_cases e : i = j
    · subst e; exact hs
    · exact bl_trans _ _ _ (ih (by omega) (by omega)) hs
theorem c_iCatOK (l : List Tbl) (hl : l.length ≤ 140737488355328) (hs : ∀ y ∈ l, SmTbl y) : Fn Tryd.prog 17 [.d (dTbls l)] none (bv (sCatOK l)) none none none := by
  refine fn_ok' r17 (sc := s17) (loud := loudF) (fn := Tryd.f17) (by kernel_rfl) k17 (by decide) mixed (Nat.le_of_ble_eq_true rfl) (by kernel_rfl) (bigN _ _) ?_
  simp only [go_sem, Nat.reduceEqDiff, reduceCtorEq, Nat.reduceAdd, Nat.reduceLT, Nat.reduceLeDiff, Nat.reduceSub, s17, r17]
  repeat' (first | (refine grdL_split ?_ ?_ <;> intro h <;> (try simp only [go_sem, Nat.reduceEqDiff, reduceCtorEq, Nat.reduceAdd, Nat.reduceLT, Nat.reduceLeDiff, Nat.reduceSub, h]) <;> (try simp only [decide_eq_true_eq, decide_eq_false_iff_not, beq_iff_eq, bne_iff_ne, ne_eq, beq_eq_false_iff_ne, bne_eq_false_iff_eq, Bool.not_eq_true, Bool.not_eq_false, Bool.or_eq_true, Bool.and_eq_true, Bool.not_eq_eq_eq_not, Bool.not_true, Bool.not_false, Int.ofNat_lt, Int.ofNat_le, gt_iff_lt, ge_iff_le, Int.ofNat_inj, Int.natCast_pos, Int.toNat_natCast, Decidable.not_not] at h)) | (refine brkL_split ?_ ?_ <;> intro h <;> (try simp only [go_sem, Nat.reduceEqDiff, reduceCtorEq, Nat.reduceAdd, Nat.reduceLT, Nat.reduceLeDiff, Nat.reduceSub, h]) <;> (try simp only [decide_eq_true_eq, decide_eq_false_iff_not, beq_iff_eq, bne_iff_ne, ne_eq, beq_eq_false_iff_ne, bne_eq_false_iff_eq, Bool.not_eq_true, Bool.not_eq_false, Bool.or_eq_true, Bool.and_eq_true, Bool.not_eq_eq_eq_not, Bool.not_true, Bool.not_false, Int.ofNat_lt, Int.ofNat_le, gt_iff_lt, ge_iff_le, Int.ofNat_inj, Int.natCast_pos, Int.toNat_natCast, Decidable.not_not] at h)) | (with_reducible refine And.intro ?_ ?_) | (refine useV (c_iTblOK2 _ ?_) rfl rfl rfl (by first | exact .inl rfl | exact .inr rfl | (right; simp [flatA, flat1, flatL, flatD])) ?_; rotate_right; (try simp only [go_sem, Nat.reduceEqDiff, reduceCtorEq, Nat.reduceAdd, Nat.reduceLT, Nat.reduceLeDiff, Nat.reduceSub])) | (refine useV (c_iTblOK _ ?_ ?_ ?_ ?_ ?_) rfl rfl rfl (by first | exact .inl rfl | exact .inr rfl | (right; simp [flatA, flat1, flatL, flatD])) ?_; rotate_right; (try simp only [go_sem, Nat.reduceEqDiff, reduceCtorEq, Nat.reduceAdd, Nat.reduceLT, Nat.reduceLeDiff, Nat.reduceSub])))
  all_goals (try (first | exact True.intro | with_reducible rfl | contradiction | omega | (simp only [inK, List.length_take, List.length_drop, List.length_map, List.length_modify, List.length_replicate, List.length_append, length_fillT]; omega) | exact rfl))
  refine loop_inv (fun i : Nat => i ≤ l.length ∧ ∀ k, k < i → sCatAt l k = true) (fun i => l.length - i) (fun i => St.of [(0, .d (dTbls l)), (5, .d (dTbls l)), (6, iv .i64 l.length), (7, iv .i64 i)] [] []) (0) ?_ ?_ ?_
  rotate_left
  · refine weak_of _ _ _ ?_ ?_ ?_ ?_
    · (try simp only [go_sem, Nat.reduceEqDiff, reduceCtorEq, Nat.reduceAdd, Nat.reduceLT, Nat.reduceLeDiff, Nat.reduceSub, allLe, St.H, Hp.of]); repeat' (first | exact trivial | with_reducible refine And.intro ?_ ?_ | with_reducible exact Le.d _ | exact Le.any _ | refine Le.dI ?_ | refine Le.dS ?_ | refine Le.dB ?_ | refine Le.dL ?_ | exact Le.nild _ | exact Le.nils _ | refine Le.ow ?_ ?_ | exact Le.rptr _ | (refine Le.ptr ?_; simp [ofB]; done) | refine Le.cl ?_ ?_ | apply LeA.nil | apply LeA.cons); all_goals (try (first | rfl | omega | exact (fillT_zero _ _ _).symm | exact modify_fillT _ _ _ _ rfl | (congr 1; omega) | (simp only [go_sem, Nat.reduceEqDiff, reduceCtorEq, Nat.reduceAdd, Nat.reduceLT, Nat.reduceLeDiff, Nat.reduceSub]; done) | (simp [upd_at, ofT]; done)))
    · (try simp only [go_sem, Nat.reduceEqDiff, reduceCtorEq, Nat.reduceAdd, Nat.reduceLT, Nat.reduceLeDiff, Nat.reduceSub, allLeB, St.H, Hp.of]); repeat' (first | exact trivial | with_reducible refine And.intro ?_ ?_ | (refine ⟨_, rfl, ?_⟩) | exact stb_le (by assumption) | with_reducible exact Le.d _ | exact Le.any _ | refine Le.dI ?_ | refine Le.dS ?_ | refine Le.dB ?_ | refine Le.dL ?_ | exact Le.nild _ | exact Le.nils _ | refine Le.ow ?_ ?_ | exact Le.rptr _ | apply LeA.nil | apply LeA.cons); all_goals (try (first | rfl | omega | exact (fillT_zero _ _ _).symm | exact modify_fillT _ _ _ _ rfl | (congr 1; omega) | (simp only [go_sem, Nat.reduceEqDiff, reduceCtorEq, Nat.reduceAdd, Nat.reduceLT, Nat.reduceLeDiff, Nat.reduceSub]; done) | (simp [upd_at, ofT]; done)))
    · (try simp only [go_sem, Nat.reduceEqDiff, reduceCtorEq, Nat.reduceAdd, Nat.reduceLT, Nat.reduceLeDiff, Nat.reduceSub, allT]); all_goals (first | trivial | (simp [upd_at]; done) | (simp [upd_at]; omega))
    · intro l hl h; have h' : ∀ k, k < 1000000 → l ≠ k := fun k hk => (by omega); (first | exact absurd rfl h | (simp [upd_at, h', of_b, ofB] at h; done) | exact hkM (by intro l hl; have h2 : l ≠ 0 := (by omega); have h3 : l ≠ 1000000 := (by omega); have h4 : ∀ k, k < 1000000 → l ≠ k := fun k hk => (by omega); simp [upd_at, h2, h3, h4, of_b, ofB]) (by simp [ofB]) l hl h | (simp [upd_at, ofB, h'] at h ⊢; done))
  rotate_left
  rotate_left
  · rintro i ⟨g1, g2⟩
    simp only [go_sem, Nat.reduceEqDiff, reduceCtorEq, Nat.reduceAdd, Nat.reduceLT, Nat.reduceLeDiff, Nat.reduceSub, bl_le]
    repeat' (first | (refine grdL_split ?_ ?_ <;> intro h <;> (try simp only [go_sem, Nat.reduceEqDiff, reduceCtorEq, Nat.reduceAdd, Nat.reduceLT, Nat.reduceLeDiff, Nat.reduceSub, h, bl_le]) <;> (try simp only [decide_eq_true_eq, decide_eq_false_iff_not, beq_iff_eq, bne_iff_ne, ne_eq, beq_eq_false_iff_ne, bne_eq_false_iff_eq, Bool.not_eq_true, Bool.not_eq_false, Bool.or_eq_true, Bool.and_eq_true, Bool.not_eq_eq_eq_not, Bool.not_true, Bool.not_false, Int.ofNat_lt, Int.ofNat_le, gt_iff_lt, ge_iff_le, Int.ofNat_inj, Int.natCast_pos, Int.toNat_natCast, Decidable.not_not] at h)) | (refine brkL_split ?_ ?_ <;> intro h <;> (try simp only [go_sem, Nat.reduceEqDiff, reduceCtorEq, Nat.reduceAdd, Nat.reduceLT, Nat.reduceLeDiff, Nat.reduceSub, h, bl_le]) <;> (try simp only [decide_eq_true_eq, decide_eq_false_iff_not, beq_iff_eq, bne_iff_ne, ne_eq, beq_eq_false_iff_ne, bne_eq_false_iff_eq, Bool.not_eq_true, Bool.not_eq_false, Bool.or_eq_true, Bool.and_eq_true, Bool.not_eq_eq_eq_not, Bool.not_true, Bool.not_false, Int.ofNat_lt, Int.ofNat_le, gt_iff_lt, ge_iff_le, Int.ofNat_inj, Int.natCast_pos, Int.toNat_natCast, Decidable.not_not] at h)) | (with_reducible refine And.intro ?_ ?_) | (refine useV (c_iTblOK2 _ ?_) rfl rfl rfl (by first | exact .inl rfl | exact .inr rfl | (right; simp [flatA, flat1, flatL, flatD])) ?_; rotate_right; (try simp only [go_sem, Nat.reduceEqDiff, reduceCtorEq, Nat.reduceAdd, Nat.reduceLT, Nat.reduceLeDiff, Nat.reduceSub, bl_le])) | (refine useV (c_iTblOK _ ?_ ?_ ?_ ?_ ?_) rfl rfl rfl (by first | exact .inl rfl | exact .inr rfl | (right; simp [flatA, flat1, flatL, flatD])) ?_; rotate_right; (try simp only [go_sem, Nat.reduceEqDiff, reduceCtorEq, Nat.reduceAdd, Nat.reduceLT, Nat.reduceLeDiff, Nat.reduceSub, bl_le])))
    all_goals (try (first | exact True.intro | with_reducible rfl | contradiction | omega | (simp only [inK, List.length_take, List.length_drop, List.length_map, List.length_modify, List.length_replicate, List.length_append, length_fillT]; omega) | exact rfl))
    all_goals (try (exact all_get hs _ (by assumption)))
    all_goals (try (refine endV (by simp only [go_sem, Nat.reduceEqDiff, reduceCtorEq, Nat.reduceAdd, Nat.reduceLT, Nat.reduceLeDiff, Nat.reduceSub, resP, RV.q]) (by intro l hl; have h' : ∀ k, k < 1000000 → l ≠ k := fun k hk => (by omega); simp [upd_at, h', of_b, ofB]) rfl ?_; (try simp only [go_sem, Nat.reduceEqDiff, reduceCtorEq, Nat.reduceAdd, Nat.reduceLT, Nat.reduceLeDiff, Nat.reduceSub, resA, RV.q, finA, fin1, finL, AV.d.injEq, AV.tup.injEq, AV.agg.injEq, DV.bool.injEq, DV.int.injEq, DV.str.injEq, DV.sl.injEq, List.cons.injEq]); rw [sCatOK, allTo_no (p := sCatAt l) (i := i) (by omega) (by first | (simp only [sCatAt, *]; rfl) | (simp [-List.getD_eq_getElem?_getD, sCatAt, *]; done))]; simp; done))
    all_goals (try (refine backQ_intro (i + 1) (⟨by omega, below_succ g2 (by simp [-List.getD_eq_getElem?_getD, sCatAt, *])⟩) (by omega) (weak_of _ _ _ (by (try simp only [go_sem, Nat.reduceEqDiff, reduceCtorEq, Nat.reduceAdd, Nat.reduceLT, Nat.reduceLeDiff, Nat.reduceSub, allLe, St.H, Hp.of]); repeat' (first | exact trivial | with_reducible refine And.intro ?_ ?_ | with_reducible exact Le.d _ | exact Le.any _ | refine Le.dI ?_ | refine Le.dS ?_ | refine Le.dB ?_ | refine Le.dL ?_ | exact Le.nild _ | exact Le.nils _ | refine Le.ow ?_ ?_ | exact Le.rptr _ | (refine Le.ptr ?_; simp [ofB]; done) | refine Le.cl ?_ ?_ | apply LeA.nil | apply LeA.cons); all_goals (try (first | rfl | omega | exact (fillT_zero _ _ _).symm | exact modify_fillT _ _ _ _ rfl | (congr 1; omega) | (simp only [go_sem, Nat.reduceEqDiff, reduceCtorEq, Nat.reduceAdd, Nat.reduceLT, Nat.reduceLeDiff, Nat.reduceSub]; done) | (simp [upd_at, ofT]; done)))) (by (try simp only [go_sem, Nat.reduceEqDiff, reduceCtorEq, Nat.reduceAdd, Nat.reduceLT, Nat.reduceLeDiff, Nat.reduceSub, allLeB, St.H, Hp.of]); repeat' (first | exact trivial | with_reducible refine And.intro ?_ ?_ | (refine ⟨_, rfl, ?_⟩) | exact stb_le (by assumption) | with_reducible exact Le.d _ | exact Le.any _ | refine Le.dI ?_ | refine Le.dS ?_ | refine Le.dB ?_ | refine Le.dL ?_ | exact Le.nild _ | exact Le.nils _ | refine Le.ow ?_ ?_ | exact Le.rptr _ | apply LeA.nil | apply LeA.cons); all_goals (try (first | rfl | omega | exact (fillT_zero _ _ _).symm | exact modify_fillT _ _ _ _ rfl | (congr 1; omega) | (simp only [go_sem, Nat.reduceEqDiff, reduceCtorEq, Nat.reduceAdd, Nat.reduceLT, Nat.reduceLeDiff, Nat.reduceSub]; done) | (simp [upd_at, ofT]; done)))) (by (try simp only [go_sem, Nat.reduceEqDiff, reduceCtorEq, Nat.reduceAdd, Nat.reduceLT, Nat.reduceLeDiff, Nat.reduceSub, allT]); all_goals (first | trivial | (simp [upd_at]; done) | (simp [upd_at]; omega))) (by intro l hl h; have h' : ∀ k, k < 1000000 → l ≠ k := fun k hk => (by omega); (first | exact absurd rfl h | (simp [upd_at, h', of_b, ofB] at h; done) | exact hkM (by intro l hl; have h2 : l ≠ 0 := (by omega); have h3 : l ≠ 1000000 := (by omega); have h4 : ∀ k, k < 1000000 → l ≠ k := fun k hk => (by omega); simp [upd_at, h2, h3, h4, of_b, ofB]) (by simp [ofB]) l hl h | (simp [upd_at, ofB, h'] at h ⊢; done)))); done))
    refine endV (by simp only [go_sem, Nat.reduceEqDiff, reduceCtorEq, Nat.reduceAdd, Nat.reduceLT, Nat.reduceLeDiff, Nat.reduceSub, resP, RV.q]) (by intro l hl; have h' : ∀ k, k < 1000000 → l ≠ k := fun k hk => (by omega); simp [upd_at, h', of_b, ofB]) rfl ?_
    (try simp only [go_sem, Nat.reduceEqDiff, reduceCtorEq, Nat.reduceAdd, Nat.reduceLT, Nat.reduceLeDiff, Nat.reduceSub, resA, RV.q, finA, fin1, finL, AV.d.injEq, AV.tup.injEq, AV.agg.injEq, DV.bool.injEq, DV.int.injEq, DV.str.injEq, DV.sl.injEq, List.cons.injEq])
    (first | done | (simp_all []; done) | (simp_all []; omega) | skip)
    rw [sCatOK, allTo_yes (fun k hk => g2 k (by omega)), Bool.and_true]
    exact decide_eq_decide.2 (by omega)
  · exact ⟨by omega, by omega⟩
/-- The place that the search finds. -/
theorem first_at {l : List Tbl} (hr : Rises l) {t : Txt} {k : Nat} (h : FirstAt l t k) : fidx (fun y => y.name == t) l = if (decide (k < l.length) && (cmpT (l.getD k tbl0).name t == 0)) = true then (k : Int) else -1 := by
  obtain ⟨h1, h2, h3⟩ := h
  split
  · rename_i e
    simp only [Bool.and_eq_true, decide_eq_true_eq, beq_iff_eq] at e
    have hn : (l.getD k tbl0).name = t := by
      have := e.2
      unfold cmpT at this
      split at this
      · omega
      · split at this
        · assumption
        · omega
    refine fidx_at (d := tbl0) (fun y hy => ?_) e.1 (by simpa using hn)
    rw [List.mem_take_iff_getElem] at hy
    obtain ⟨j, hj, rfl⟩ := hy
    have := h2 j (by omega)
    rw [List.getD, List.getElem?_eq_getElem (by omega)] at this
    simp only [Option.getD_some] at this
    rw [Bool.eq_false_iff]
    intro e'
    simp only [beq_iff_eq] at e'
    rw [e', bl_irr] at this
    cases this
  · rename_i e
    refine fidx_no (fun y hy => ?_)
    rw [List.mem_iff_getElem] at hy
    obtain ⟨j, hj, rfl⟩ := hy
    rw [Bool.eq_false_iff]
    intro e'
    simp only [beq_iff_eq] at e'
    apply e
    have hk : j = k := by
      rcases Nat.lt_trichotomy j k with h | h | h
      · have := h2 j h
        rw [List.getD, List.getElem?_eq_getElem hj] at this
        simp only [Option.getD_some, e', bl_irr] at this
        cases this
      · exact h
      · have := hr k j h hj
        rw [show l.getD j tbl0 = l[j] by rw [List.getD, List.getElem?_eq_getElem hj]; rfl, e', h3 k (Nat.le_refl _) (by omega)] at this
        cases this
    subst hk
    simp only [hj, decide_true, Bool.true_and, beq_iff_eq]
    rw [List.getD, List.getElem?_eq_getElem hj]
    simp [cmpT, e', bl_irr]

theorem fa_found {l : List Tbl} (hr : Rises l) {t : Txt} {k : Nat} (h : FirstAt l t k) (h' : k < l.length ∧ cmpT (l.getD k tbl0).name t = 0) : fidx (fun y => y.name == t) l = (k : Int) := by
  rw [first_at hr h, if_pos (by simp [-List.getD_eq_getElem?_getD, h'])]
theorem fa_none {l : List Tbl} (hr : Rises l) {t : Txt} {k : Nat} (h : FirstAt l t k) (h' : (decide (k < l.length) && cmpT (l.getD k tbl0).name t == 0) = false) : fidx (fun y => y.name == t) l = -1 := by
  rw [first_at hr h, h', if_neg (by decide)]
end
end Go.Proofs.YtchmoleeajkioaaDoor.V
