/-
  The laws' own helpers, of guards.
-/
-- FOR: guard
import Derived.Test.YthipieoadfbohaaDoorPc
namespace Go.Proofs.YthipieoadfbohaaDoor.V
open Go Go.RowKit
set_option linter.unusedSimpArgs false
set_option linter.unusedVariables false
set_option maxRecDepth 100000
theorem c_szGrd (x : Grd) (left : Int) (h0 : 0 ≤ left) (h1 : left ≤ 1048576) (hf : FitGrd x) : FnV Tryd.prog 4 [aGrd x, iv .i64 left] (SzOk left (SmGrd x)) (fun r => iv .i64 r) := by
  simp only [FitGrd] at hf
  refine fn_ok' r4 (sc := s4) (loud := loudF) (fn := Tryd.f4) (by kernel_rfl) k4 (by decide) mixed (Nat.le_of_ble_eq_true rfl) (by kernel_rfl) (bigN _ _) ?_
  simp only [go_sem, Nat.reduceEqDiff, reduceCtorEq, Nat.reduceAdd, Nat.reduceLT, Nat.reduceLeDiff, Nat.reduceSub, s4, r4]
  repeat' (first | (refine grdL_split ?_ ?_ <;> intro h <;> (try simp only [go_sem, Nat.reduceEqDiff, reduceCtorEq, Nat.reduceAdd, Nat.reduceLT, Nat.reduceLeDiff, Nat.reduceSub, h]) <;> (try simp only [decide_eq_true_eq, decide_eq_false_iff_not, beq_iff_eq, bne_iff_ne, ne_eq, beq_eq_false_iff_ne, bne_eq_false_iff_eq, Bool.not_eq_true, Bool.not_eq_false, Bool.or_eq_true, Bool.and_eq_true, Bool.not_eq_eq_eq_not, Bool.not_true, Bool.not_false, Int.ofNat_lt, Int.ofNat_le, gt_iff_lt, ge_iff_le, Int.ofNat_inj, Int.natCast_pos, Int.toNat_natCast, Decidable.not_not] at h)) | (refine brkL_split ?_ ?_ <;> intro h <;> (try simp only [go_sem, Nat.reduceEqDiff, reduceCtorEq, Nat.reduceAdd, Nat.reduceLT, Nat.reduceLeDiff, Nat.reduceSub, h]) <;> (try simp only [decide_eq_true_eq, decide_eq_false_iff_not, beq_iff_eq, bne_iff_ne, ne_eq, beq_eq_false_iff_ne, bne_eq_false_iff_eq, Bool.not_eq_true, Bool.not_eq_false, Bool.or_eq_true, Bool.and_eq_true, Bool.not_eq_eq_eq_not, Bool.not_true, Bool.not_false, Int.ofNat_lt, Int.ofNat_le, gt_iff_lt, ge_iff_le, Int.ofNat_inj, Int.natCast_pos, Int.toNat_natCast, Decidable.not_not] at h)) | (with_reducible refine And.intro ?_ ?_) | (refine useVX (c_szEntS _ _ ?_ ?_ ?_ ?_) rfl rfl (fun _ _ => rfl) (by first | exact .inl rfl | exact .inr (fun _ _ => rfl)) ?_; rotate_right; rintro x hx; (try simp only [go_sem, Nat.reduceEqDiff, reduceCtorEq, Nat.reduceAdd, Nat.reduceLT, Nat.reduceLeDiff, Nat.reduceSub])))
  all_goals (try (first | exact True.intro | with_reducible rfl | contradiction | omega | (simp only [inK, List.length_take, List.length_drop, List.length_map, List.length_modify, List.length_replicate, List.length_append, length_fillT]; omega) | exact rfl))
  all_goals (try (first | exact hf.1 | exact hf.2 | exact hf.2.1 | exact hf.2.2 | exact hf.2.1.1 | exact hf.2.1.2 | exact hf.2.2.1 | exact hf.2.2.2 | exact hf.2.2.1.1 | exact hf.2.2.1.2))
  all_goals (try (simp only [SzOk] at *; omega))
  all_goals
    refine endVX _ (by simp only [go_sem, Nat.reduceEqDiff, reduceCtorEq, Nat.reduceAdd, Nat.reduceLT, Nat.reduceLeDiff, Nat.reduceSub, resP, RV.q]) (by intro l hl; have h' : ∀ k, k < 1000000 → l ≠ k := fun k hk => (by omega); simp [upd_at, h', of_b, ofB]) rfl rfl ?_
    simp only [SzOk, SmGrd] at *
    (first | (left; omega) | (right; simp_all; omega) | (right; simp_all; done))
theorem c_toGrd (x : Grd) (hs : SmGrd x) : Fn Tryd.prog 7 [aGrd x] none (aGrd x) none none none := by
  simp only [SmGrd] at hs
  refine fn_ok' r7 (sc := s7) (loud := loudF) (fn := Tryd.f7) (by kernel_rfl) k7 (by decide) mixed (Nat.le_of_ble_eq_true rfl) (by kernel_rfl) (bigN _ _) ?_
  simp only [go_sem, Nat.reduceEqDiff, reduceCtorEq, Nat.reduceAdd, Nat.reduceLT, Nat.reduceLeDiff, Nat.reduceSub, s7, r7]
  repeat' (first | (refine grdL_split ?_ ?_ <;> intro h <;> (try simp only [go_sem, Nat.reduceEqDiff, reduceCtorEq, Nat.reduceAdd, Nat.reduceLT, Nat.reduceLeDiff, Nat.reduceSub, h]) <;> (try simp only [decide_eq_true_eq, decide_eq_false_iff_not, beq_iff_eq, bne_iff_ne, ne_eq, beq_eq_false_iff_ne, bne_eq_false_iff_eq, Bool.not_eq_true, Bool.not_eq_false, Bool.or_eq_true, Bool.and_eq_true, Bool.not_eq_eq_eq_not, Bool.not_true, Bool.not_false, Int.ofNat_lt, Int.ofNat_le, gt_iff_lt, ge_iff_le, Int.ofNat_inj, Int.natCast_pos, Int.toNat_natCast, Decidable.not_not] at h)) | (refine brkL_split ?_ ?_ <;> intro h <;> (try simp only [go_sem, Nat.reduceEqDiff, reduceCtorEq, Nat.reduceAdd, Nat.reduceLT, Nat.reduceLeDiff, Nat.reduceSub, h]) <;> (try simp only [decide_eq_true_eq, decide_eq_false_iff_not, beq_iff_eq, bne_iff_ne, ne_eq, beq_eq_false_iff_ne, bne_eq_false_iff_eq, Bool.not_eq_true, Bool.not_eq_false, Bool.or_eq_true, Bool.and_eq_true, Bool.not_eq_eq_eq_not, Bool.not_true, Bool.not_false, Int.ofNat_lt, Int.ofNat_le, gt_iff_lt, ge_iff_le, Int.ofNat_inj, Int.natCast_pos, Int.toNat_natCast, Decidable.not_not] at h)) | (with_reducible refine And.intro ?_ ?_) | (refine useV (c_toEntS _ ?_ ?_) rfl rfl rfl (by first | exact .inl rfl | exact .inr rfl | (right; simp [flatA, flat1, flatL, flatD])) ?_; rotate_right; (try simp only [go_sem, Nat.reduceEqDiff, reduceCtorEq, Nat.reduceAdd, Nat.reduceLT, Nat.reduceLeDiff, Nat.reduceSub])))
  all_goals (try (first | exact True.intro | with_reducible rfl | contradiction | omega | (simp only [inK, List.length_take, List.length_drop, List.length_map, List.length_modify, List.length_replicate, List.length_append, length_fillT]; omega) | exact rfl))
  all_goals (try (first | exact hs.1 | exact hs.2 | exact hs.2.1 | exact hs.2.2 | exact hs.2.1.1 | exact hs.2.1.2 | exact hs.2.2.1 | exact hs.2.2.2 | exact hs.2.2.1.1 | exact hs.2.2.1.2))
  all_goals
    refine endV (by simp only [go_sem, Nat.reduceEqDiff, reduceCtorEq, Nat.reduceAdd, Nat.reduceLT, Nat.reduceLeDiff, Nat.reduceSub, resP, RV.q]) (by intro l hl; have h' : ∀ k, k < 1000000 → l ≠ k := fun k hk => (by omega); simp [upd_at, h', of_b, ofB]) rfl ?_
    (try simp only [go_sem, Nat.reduceEqDiff, reduceCtorEq, Nat.reduceAdd, Nat.reduceLT, Nat.reduceLeDiff, Nat.reduceSub, resA, RV.q, finA, fin1, finL, AV.d.injEq, AV.tup.injEq, AV.agg.injEq, DV.bool.injEq, DV.int.injEq, DV.str.injEq, DV.sl.injEq, List.cons.injEq])
    (first | done | (simp_all []; done) | (simp_all []; omega) | skip)
theorem c_eqGrd (x : Grd) (hs : SmGrd x) : Fn Tryd.prog 10 [aGrd x, aGrd x] none (bv true) none none none := by
  simp only [SmGrd] at hs
  refine fn_ok' r10 (sc := s10) (loud := loudF) (fn := Tryd.f10) (by kernel_rfl) k10 (by decide) mixed (Nat.le_of_ble_eq_true rfl) (by kernel_rfl) (bigN _ _) ?_
  simp only [go_sem, Nat.reduceEqDiff, reduceCtorEq, Nat.reduceAdd, Nat.reduceLT, Nat.reduceLeDiff, Nat.reduceSub, s10, r10]
  repeat' (first | (refine grdL_split ?_ ?_ <;> intro h <;> (try simp only [go_sem, Nat.reduceEqDiff, reduceCtorEq, Nat.reduceAdd, Nat.reduceLT, Nat.reduceLeDiff, Nat.reduceSub, h]) <;> (try simp only [decide_eq_true_eq, decide_eq_false_iff_not, beq_iff_eq, bne_iff_ne, ne_eq, beq_eq_false_iff_ne, bne_eq_false_iff_eq, Bool.not_eq_true, Bool.not_eq_false, Bool.or_eq_true, Bool.and_eq_true, Bool.not_eq_eq_eq_not, Bool.not_true, Bool.not_false, Int.ofNat_lt, Int.ofNat_le, gt_iff_lt, ge_iff_le, Int.ofNat_inj, Int.natCast_pos, Int.toNat_natCast, Decidable.not_not] at h)) | (refine brkL_split ?_ ?_ <;> intro h <;> (try simp only [go_sem, Nat.reduceEqDiff, reduceCtorEq, Nat.reduceAdd, Nat.reduceLT, Nat.reduceLeDiff, Nat.reduceSub, h]) <;> (try simp only [decide_eq_true_eq, decide_eq_false_iff_not, beq_iff_eq, bne_iff_ne, ne_eq, beq_eq_false_iff_ne, bne_eq_false_iff_eq, Bool.not_eq_true, Bool.not_eq_false, Bool.or_eq_true, Bool.and_eq_true, Bool.not_eq_eq_eq_not, Bool.not_true, Bool.not_false, Int.ofNat_lt, Int.ofNat_le, gt_iff_lt, ge_iff_le, Int.ofNat_inj, Int.natCast_pos, Int.toNat_natCast, Decidable.not_not] at h)) | (with_reducible refine And.intro ?_ ?_) | (refine useV (c_eqEntS _ ?_ ?_) rfl rfl rfl (by first | exact .inl rfl | exact .inr rfl | (right; simp [flatA, flat1, flatL, flatD])) ?_; rotate_right; (try simp only [go_sem, Nat.reduceEqDiff, reduceCtorEq, Nat.reduceAdd, Nat.reduceLT, Nat.reduceLeDiff, Nat.reduceSub])))
  all_goals (try (first | exact True.intro | with_reducible rfl | contradiction | omega | (simp only [inK, List.length_take, List.length_drop, List.length_map, List.length_modify, List.length_replicate, List.length_append, length_fillT]; omega) | exact rfl))
  all_goals (try (first | exact hs.1 | exact hs.2 | exact hs.2.1 | exact hs.2.2 | exact hs.2.1.1 | exact hs.2.1.2 | exact hs.2.2.1 | exact hs.2.2.2 | exact hs.2.2.1.1 | exact hs.2.2.1.2))
  all_goals
    refine endV (by simp only [go_sem, Nat.reduceEqDiff, reduceCtorEq, Nat.reduceAdd, Nat.reduceLT, Nat.reduceLeDiff, Nat.reduceSub, resP, RV.q]) (by intro l hl; have h' : ∀ k, k < 1000000 → l ≠ k := fun k hk => (by omega); simp [upd_at, h', of_b, ofB]) rfl ?_
    (try simp only [go_sem, Nat.reduceEqDiff, reduceCtorEq, Nat.reduceAdd, Nat.reduceLT, Nat.reduceLeDiff, Nat.reduceSub, resA, RV.q, finA, fin1, finL, AV.d.injEq, AV.tup.injEq, AV.agg.injEq, DV.bool.injEq, DV.int.injEq, DV.str.injEq, DV.sl.injEq, List.cons.injEq])
    (first | done | (simp_all []; done) | (simp_all []; omega) | skip)

end Go.Proofs.YthipieoadfbohaaDoor.V
