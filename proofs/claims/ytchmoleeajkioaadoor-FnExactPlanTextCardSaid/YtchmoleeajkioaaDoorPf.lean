/-
  The reference's look at catalogs.
-/
import Derived.Test.YtchmoleeajkioaaDoorPe
namespace Go.Proofs.YtchmoleeajkioaaDoor.V
open Go Go.RowKit
set_option linter.unusedSimpArgs false
set_option linter.unusedVariables false
noncomputable section
set_option maxRecDepth 100000

/-- The reference: a catalog is right. -/
def sCatAt (l : List Tbl) (i : Nat) : Bool := sTblOK (l.getD i tbl0) && !(decide (0 < i) && !Op.bytesLess (l.getD (i - 1) tbl0).name (l.getD i tbl0).name)
def sCatOK (l : List Tbl) : Bool := decide (l.length ≤ 6) && allTo l.length (sCatAt l)
theorem c_sCatOK (l : List Tbl) : Fn Tryd.prog 12 [.d (dTbls l)] none (bv (sCatOK l)) none none none := by
  refine fn_ok' r12 (sc := s12) (loud := loudF) (fn := Tryd.f12) (by kernel_rfl) k12 (by decide) mixed (Nat.le_of_ble_eq_true rfl) (by kernel_rfl) (bigN _ _) ?_
  simp only [go_sem, Nat.reduceEqDiff, reduceCtorEq, Nat.reduceAdd, Nat.reduceLT, Nat.reduceLeDiff, Nat.reduceSub, s12, r12]
  repeat' (first | (refine grdL_split ?_ ?_ <;> intro h <;> (try simp only [go_sem, Nat.reduceEqDiff, reduceCtorEq, Nat.reduceAdd, Nat.reduceLT, Nat.reduceLeDiff, Nat.reduceSub, h]) <;> (try simp only [decide_eq_true_eq, decide_eq_false_iff_not, beq_iff_eq, bne_iff_ne, ne_eq, beq_eq_false_iff_ne, bne_eq_false_iff_eq, Bool.not_eq_true, Bool.not_eq_false, Bool.or_eq_true, Bool.and_eq_true, Bool.not_eq_eq_eq_not, Bool.not_true, Bool.not_false, Int.ofNat_lt, Int.ofNat_le, gt_iff_lt, ge_iff_le, Int.ofNat_inj, Int.natCast_pos, Int.toNat_natCast, Decidable.not_not] at h)) | (refine brkL_split ?_ ?_ <;> intro h <;> (try simp only [go_sem, Nat.reduceEqDiff, reduceCtorEq, Nat.reduceAdd, Nat.reduceLT, Nat.reduceLeDiff, Nat.reduceSub, h]) <;> (try simp only [decide_eq_true_eq, decide_eq_false_iff_not, beq_iff_eq, bne_iff_ne, ne_eq, beq_eq_false_iff_ne, bne_eq_false_iff_eq, Bool.not_eq_true, Bool.not_eq_false, Bool.or_eq_true, Bool.and_eq_true, Bool.not_eq_eq_eq_not, Bool.not_true, Bool.not_false, Int.ofNat_lt, Int.ofNat_le, gt_iff_lt, ge_iff_le, Int.ofNat_inj, Int.natCast_pos, Int.toNat_natCast, Decidable.not_not] at h)) | (with_reducible refine And.intro ?_ ?_) | (refine useV (c_sTblOK _) rfl rfl rfl (by first | exact .inl rfl | exact .inr rfl | (right; simp [flatA, flat1, flatL, flatD])) ?_; rotate_right; (try simp only [go_sem, Nat.reduceEqDiff, reduceCtorEq, Nat.reduceAdd, Nat.reduceLT, Nat.reduceLeDiff, Nat.reduceSub])))
  all_goals (try (first | exact True.intro | with_reducible rfl | contradiction | omega | (simp only [inK, List.length_take, List.length_drop, List.length_map, List.length_modify, List.length_replicate, List.length_append, length_fillT]; omega) | exact rfl))
  · refine endV (by simp only [go_sem, Nat.reduceEqDiff, reduceCtorEq, Nat.reduceAdd, Nat.reduceLT, Nat.reduceLeDiff, Nat.reduceSub, resP, RV.q]) (by intro l hl; have h' : ∀ k, k < 1000000 → l ≠ k := fun k hk => (by omega); simp [upd_at, h', of_b, ofB]) rfl ?_
    (try simp only [go_sem, Nat.reduceEqDiff, reduceCtorEq, Nat.reduceAdd, Nat.reduceLT, Nat.reduceLeDiff, Nat.reduceSub, resA, RV.q, finA, fin1, finL, AV.d.injEq, AV.tup.injEq, AV.agg.injEq, DV.bool.injEq, DV.int.injEq, DV.str.injEq, DV.sl.injEq, List.cons.injEq])
    (first | done | (simp_all []; done) | (simp_all []; omega) | skip)
    have : ¬ l.length ≤ 6 := by omega
    simp [sCatOK, this]
  · refine endV (by simp only [go_sem, Nat.reduceEqDiff, reduceCtorEq, Nat.reduceAdd, Nat.reduceLT, Nat.reduceLeDiff, Nat.reduceSub, resP, RV.q]) (by intro l hl; have h' : ∀ k, k < 1000000 → l ≠ k := fun k hk => (by omega); simp [upd_at, h', of_b, ofB]) rfl ?_
    (try simp only [go_sem, Nat.reduceEqDiff, reduceCtorEq, Nat.reduceAdd, Nat.reduceLT, Nat.reduceLeDiff, Nat.reduceSub, resA, RV.q, finA, fin1, finL, AV.d.injEq, AV.tup.injEq, AV.agg.injEq, DV.bool.injEq, DV.int.injEq, DV.str.injEq, DV.sl.injEq, List.cons.injEq])
    (first | done | (simp_all []; done) | (simp_all []; omega) | skip)
    have : ¬ l.length ≤ 6 := by omega
    simp [sCatOK, this]
  · refine loop_inv (fun i : Nat => i ≤ l.length ∧ ∀ k, k < i → sCatAt l k = true) (fun i => l.length - i) (fun i => St.of [(0, .d (dTbls l)), (3, iv .i64 i)] [] []) (0) ?_ ?_ ?_
    rotate_left
    · refine weak_of _ _ _ ?_ ?_ ?_ ?_
      · (try simp only [go_sem, Nat.reduceEqDiff, reduceCtorEq, Nat.reduceAdd, Nat.reduceLT, Nat.reduceLeDiff, Nat.reduceSub, allLe, St.H, Hp.of]); repeat' (first | exact trivial | with_reducible refine And.intro ?_ ?_ | with_reducible exact Le.d _ | exact Le.any _ | refine Le.dI ?_ | refine Le.dS ?_ | refine Le.dB ?_ | refine Le.dL ?_ | exact Le.nild _ | exact Le.nils _ | refine Le.ow ?_ ?_ | exact Le.rptr _ | (refine Le.ptr ?_; simp [ofB]; done) | refine Le.cl ?_ ?_ | apply LeA.nil | apply LeA.cons); all_goals (try (first | rfl | omega | exact (fillT_zero _ _ _).symm | exact modify_fillT _ _ _ _ rfl | (congr 1; omega) | (simp only [go_sem, Nat.reduceEqDiff, reduceCtorEq, Nat.reduceAdd, Nat.reduceLT, Nat.reduceLeDiff, Nat.reduceSub]; done) | (simp [upd_at, ofT]; done)))
      · (try simp only [go_sem, Nat.reduceEqDiff, reduceCtorEq, Nat.reduceAdd, Nat.reduceLT, Nat.reduceLeDiff, Nat.reduceSub, allLeB, St.H, Hp.of]); repeat' (first | exact trivial | with_reducible refine And.intro ?_ ?_ | (refine ⟨_, rfl, ?_⟩) | exact stb_le (by assumption) | with_reducible exact Le.d _ | exact Le.any _ | refine Le.dI ?_ | refine Le.dS ?_ | refine Le.dB ?_ | refine Le.dL ?_ | exact Le.nild _ | exact Le.nils _ | refine Le.ow ?_ ?_ | exact Le.rptr _ | apply LeA.nil | apply LeA.cons); all_goals (try (first | rfl | omega | exact (fillT_zero _ _ _).symm | exact modify_fillT _ _ _ _ rfl | (congr 1; omega) | (simp only [go_sem, Nat.reduceEqDiff, reduceCtorEq, Nat.reduceAdd, Nat.reduceLT, Nat.reduceLeDiff, Nat.reduceSub]; done) | (simp [upd_at, ofT]; done)))
      · (try simp only [go_sem, Nat.reduceEqDiff, reduceCtorEq, Nat.reduceAdd, Nat.reduceLT, Nat.reduceLeDiff, Nat.reduceSub, allT]); all_goals (first | trivial | (simp [upd_at]; done) | (simp [upd_at]; omega))
      · intro l hl h; have h' : ∀ k, k < 1000000 → l ≠ k := fun k hk => (by omega); (first | exact absurd rfl h | (simp [upd_at, h', of_b, ofB] at h; done) | exact hkM (by intro l hl; have h2 : l ≠ 0 := (by omega); have h3 : l ≠ 1000000 := (by omega); have h4 : ∀ k, k < 1000000 → l ≠ k := fun k hk => (by omega); simp [upd_at, h2, h3, h4, of_b, ofB]) (by simp [ofB]) l hl h | (simp [upd_at, ofB, h'] at h ⊢; done))
    rotate_left
    rotate_left
    · rintro i ⟨g1, g2⟩
      simp only [go_sem, Nat.reduceEqDiff, reduceCtorEq, Nat.reduceAdd, Nat.reduceLT, Nat.reduceLeDiff, Nat.reduceSub]
      repeat' (first | (refine grdL_split ?_ ?_ <;> intro h <;> (try simp only [go_sem, Nat.reduceEqDiff, reduceCtorEq, Nat.reduceAdd, Nat.reduceLT, Nat.reduceLeDiff, Nat.reduceSub, h]) <;> (try simp only [decide_eq_true_eq, decide_eq_false_iff_not, beq_iff_eq, bne_iff_ne, ne_eq, beq_eq_false_iff_ne, bne_eq_false_iff_eq, Bool.not_eq_true, Bool.not_eq_false, Bool.or_eq_true, Bool.and_eq_true, Bool.not_eq_eq_eq_not, Bool.not_true, Bool.not_false, Int.ofNat_lt, Int.ofNat_le, gt_iff_lt, ge_iff_le, Int.ofNat_inj, Int.natCast_pos, Int.toNat_natCast, Decidable.not_not] at h)) | (refine brkL_split ?_ ?_ <;> intro h <;> (try simp only [go_sem, Nat.reduceEqDiff, reduceCtorEq, Nat.reduceAdd, Nat.reduceLT, Nat.reduceLeDiff, Nat.reduceSub, h]) <;> (try simp only [decide_eq_true_eq, decide_eq_false_iff_not, beq_iff_eq, bne_iff_ne, ne_eq, beq_eq_false_iff_ne, bne_eq_false_iff_eq, Bool.not_eq_true, Bool.not_eq_false, Bool.or_eq_true, Bool.and_eq_true, Bool.not_eq_eq_eq_not, Bool.not_true, Bool.not_false, Int.ofNat_lt, Int.ofNat_le, gt_iff_lt, ge_iff_le, Int.ofNat_inj, Int.natCast_pos, Int.toNat_natCast, Decidable.not_not] at h)) | (with_reducible refine And.intro ?_ ?_) | (refine useV (c_sTblOK _) rfl rfl rfl (by first | exact .inl rfl | exact .inr rfl | (right; simp [flatA, flat1, flatL, flatD])) ?_; rotate_right; (try simp only [go_sem, Nat.reduceEqDiff, reduceCtorEq, Nat.reduceAdd, Nat.reduceLT, Nat.reduceLeDiff, Nat.reduceSub])))
      all_goals (try (first | exact True.intro | with_reducible rfl | contradiction | omega | (simp only [inK, List.length_take, List.length_drop, List.length_map, List.length_modify, List.length_replicate, List.length_append, length_fillT]; omega) | exact rfl))
      all_goals (try (refine endV (by simp only [go_sem, Nat.reduceEqDiff, reduceCtorEq, Nat.reduceAdd, Nat.reduceLT, Nat.reduceLeDiff, Nat.reduceSub, resP, RV.q]) (by intro l hl; have h' : ∀ k, k < 1000000 → l ≠ k := fun k hk => (by omega); simp [upd_at, h', of_b, ofB]) rfl ?_; (try simp only [go_sem, Nat.reduceEqDiff, reduceCtorEq, Nat.reduceAdd, Nat.reduceLT, Nat.reduceLeDiff, Nat.reduceSub, resA, RV.q, finA, fin1, finL, AV.d.injEq, AV.tup.injEq, AV.agg.injEq, DV.bool.injEq, DV.int.injEq, DV.str.injEq, DV.sl.injEq, List.cons.injEq]); rw [sCatOK, allTo_no (p := sCatAt l) (i := i) (by omega) (by first | (simp only [sCatAt, *]; rfl) | (simp [-List.getD_eq_getElem?_getD, sCatAt, *]; done))]; simp; done))
      all_goals (try (refine backQ_intro (i + 1) (⟨by omega, below_succ g2 (by simp [-List.getD_eq_getElem?_getD, sCatAt, *])⟩) (by omega) (weak_of _ _ _ (by (try simp only [go_sem, Nat.reduceEqDiff, reduceCtorEq, Nat.reduceAdd, Nat.reduceLT, Nat.reduceLeDiff, Nat.reduceSub, allLe, St.H, Hp.of]); repeat' (first | exact trivial | with_reducible refine And.intro ?_ ?_ | with_reducible exact Le.d _ | exact Le.any _ | refine Le.dI ?_ | refine Le.dS ?_ | refine Le.dB ?_ | refine Le.dL ?_ | exact Le.nild _ | exact Le.nils _ | refine Le.ow ?_ ?_ | exact Le.rptr _ | (refine Le.ptr ?_; simp [ofB]; done) | refine Le.cl ?_ ?_ | apply LeA.nil | apply LeA.cons); all_goals (try (first | rfl | omega | exact (fillT_zero _ _ _).symm | exact modify_fillT _ _ _ _ rfl | (congr 1; omega) | (simp only [go_sem, Nat.reduceEqDiff, reduceCtorEq, Nat.reduceAdd, Nat.reduceLT, Nat.reduceLeDiff, Nat.reduceSub]; done) | (simp [upd_at, ofT]; done)))) (by (try simp only [go_sem, Nat.reduceEqDiff, reduceCtorEq, Nat.reduceAdd, Nat.reduceLT, Nat.reduceLeDiff, Nat.reduceSub, allLeB, St.H, Hp.of]); repeat' (first | exact trivial | with_reducible refine And.intro ?_ ?_ | (refine ⟨_, rfl, ?_⟩) | exact stb_le (by assumption) | with_reducible exact Le.d _ | exact Le.any _ | refine Le.dI ?_ | refine Le.dS ?_ | refine Le.dB ?_ | refine Le.dL ?_ | exact Le.nild _ | exact Le.nils _ | refine Le.ow ?_ ?_ | exact Le.rptr _ | apply LeA.nil | apply LeA.cons); all_goals (try (first | rfl | omega | exact (fillT_zero _ _ _).symm | exact modify_fillT _ _ _ _ rfl | (congr 1; omega) | (simp only [go_sem, Nat.reduceEqDiff, reduceCtorEq, Nat.reduceAdd, Nat.reduceLT, Nat.reduceLeDiff, Nat.reduceSub]; done) | (simp [upd_at, ofT]; done)))) (by (try simp only [go_sem, Nat.reduceEqDiff, reduceCtorEq, Nat.reduceAdd, Nat.reduceLT, Nat.reduceLeDiff, Nat.reduceSub, allT]); all_goals (first | trivial | (simp [upd_at]; done) | (simp [upd_at]; omega))) (by intro l hl h; have h' : ∀ k, k < 1000000 → l ≠ k := fun k hk => (by omega); (first | exact absurd rfl h | (simp [upd_at, h', of_b, ofB] at h; done) | exact hkM (by intro l hl; have h2 : l ≠ 0 := (by omega); have h3 : l ≠ 1000000 := (by omega); have h4 : ∀ k, k < 1000000 → l ≠ k := fun k hk => (by omega); simp [upd_at, h2, h3, h4, of_b, ofB]) (by simp [ofB]) l hl h | (simp [upd_at, ofB, h'] at h ⊢; done)))); done))
      refine endV (by simp only [go_sem, Nat.reduceEqDiff, reduceCtorEq, Nat.reduceAdd, Nat.reduceLT, Nat.reduceLeDiff, Nat.reduceSub, resP, RV.q]) (by intro l hl; have h' : ∀ k, k < 1000000 → l ≠ k := fun k hk => (by omega); simp [upd_at, h', of_b, ofB]) rfl ?_
      (try simp only [go_sem, Nat.reduceEqDiff, reduceCtorEq, Nat.reduceAdd, Nat.reduceLT, Nat.reduceLeDiff, Nat.reduceSub, resA, RV.q, finA, fin1, finL, AV.d.injEq, AV.tup.injEq, AV.agg.injEq, DV.bool.injEq, DV.int.injEq, DV.str.injEq, DV.sl.injEq, List.cons.injEq])
      (first | done | (simp_all []; done) | (simp_all []; omega) | skip)
      rw [sCatOK, allTo_yes (fun k hk => g2 k (by omega))]
      have : l.length ≤ 6 := by omega
      simp [*]
    · exact ⟨by omega, by omega⟩

theorem allTo_out {n : Nat} {p : Nat → Bool} (h : allTo n p = true) : ∀ k, k < n → p k = true := by
  simpa [allTo] using h
theorem sTbl_cols {t : Tbl} (h : sTblOK t = true) : 1 ≤ t.cols.length ∧ t.cols.length ≤ 8 ∧ 1 ≤ t.key ∧ t.key ≤ t.cols.length ∧ t.idx.length ≤ 4 := by
  rw [sTblOK_eq] at h
  simp only [sTblOK', inR, Bool.and_eq_true, decide_eq_true_eq] at h
  omega
theorem sCat_len {l : List Tbl} (h : sCatOK l = true) : l.length ≤ 6 := by
  simp only [sCatOK, Bool.and_eq_true, decide_eq_true_eq] at h
  exact h.1
theorem sCat_at {l : List Tbl} (h : sCatOK l = true) {i : Nat} (hi : i < l.length) : sTblOK (l.getD i tbl0) = true := by
  simp only [sCatOK, Bool.and_eq_true] at h
  have := allTo_out h.2 i hi
  simp only [sCatAt, Bool.and_eq_true] at this
  exact this.1
theorem sCat_cols {l : List Tbl} (h : sCatOK l = true) (i : Nat) : (l.getD i tbl0).cols.length ≤ 8 := by
  by_cases hi : i < l.length
  · exact (sTbl_cols (sCat_at h hi)).2.1
  · rw [List.getD, List.getElem?_eq_none (by omega)]; decide
end
end Go.Proofs.YtchmoleeajkioaaDoor.V
