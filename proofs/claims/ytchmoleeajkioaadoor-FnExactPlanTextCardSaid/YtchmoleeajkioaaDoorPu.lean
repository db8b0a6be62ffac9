/-
  Plans told as texts: the reference and the program.
-/
-- FOR: plantext
import Derived.Test.YtchmoleeajkioaaDoorPt
namespace Go.Proofs.YtchmoleeajkioaaDoor.V
open Go Go.RowKit
set_option linter.unusedSimpArgs false
set_option linter.unusedVariables false
noncomputable section
set_option maxRecDepth 100000

/-- The reference: a plan is right. -/
def plnAt (p : Pln) (l : List Tbl) : Tbl := l.getD (fidx (fun y => y.name == p.table) l).toNat tbl0
def sPlnOK (p : Pln) (l : List Tbl) : Bool := decide (0 ≤ fidx (fun y => y.name == p.table) l) && inR p.index (-1) (((plnAt p l).idx.length : Int) - 1) && decide (p.lo.length ≤ 200) && decide (p.hi.length ≤ 200) && inR p.limit 0 1000
theorem idx_small {l : List Tbl} (hs : ∀ y ∈ l, SmTbl y) (k : Nat) : (l.getD k tbl0).idx.length ≤ 1048576 := by
  by_cases h : k < l.length
  · have := all_get (d := tbl0) hs k h
    simp only [SmTbl] at this
    omega
  · rw [List.getD, List.getElem?_eq_none (by omega)]; decide
theorem c_sPlnOK (p : Pln) (l : List Tbl) (hl : l.length ≤ 140737488355328) (hs : ∀ y ∈ l, SmTbl y) (hp : SmPln p) : Fn Tryd.prog 13 [aPln p, .d (dTbls l)] none (bv (sPlnOK p l)) none none none := by
  have hk := fidx_lt (fun y : Tbl => y.name == p.table) l
  have hn := idx_small hs (fidx (fun y : Tbl => y.name == p.table) l).toNat
  simp only [SmPln] at hp
  refine fn_ok' r13 (sc := s13) (loud := loudF) (fn := Tryd.f13) (by kernel_rfl) k13 (by decide) mixed (Nat.le_of_ble_eq_true rfl) (by kernel_rfl) (bigN _ _) ?_
  simp only [go_sem, Nat.reduceEqDiff, reduceCtorEq, Nat.reduceAdd, Nat.reduceLT, Nat.reduceLeDiff, Nat.reduceSub, s13, r13]
  repeat' (first | (refine grdL_split ?_ ?_ <;> intro h <;> (try simp only [go_sem, Nat.reduceEqDiff, reduceCtorEq, Nat.reduceAdd, Nat.reduceLT, Nat.reduceLeDiff, Nat.reduceSub, h]) <;> (try simp only [decide_eq_true_eq, decide_eq_false_iff_not, beq_iff_eq, bne_iff_ne, ne_eq, beq_eq_false_iff_ne, bne_eq_false_iff_eq, Bool.not_eq_true, Bool.not_eq_false, Bool.or_eq_true, Bool.and_eq_true, Bool.not_eq_eq_eq_not, Bool.not_true, Bool.not_false, Int.ofNat_lt, Int.ofNat_le, gt_iff_lt, ge_iff_le, Int.ofNat_inj, Int.natCast_pos, Int.toNat_natCast, Decidable.not_not] at h)) | (refine brkL_split ?_ ?_ <;> intro h <;> (try simp only [go_sem, Nat.reduceEqDiff, reduceCtorEq, Nat.reduceAdd, Nat.reduceLT, Nat.reduceLeDiff, Nat.reduceSub, h]) <;> (try simp only [decide_eq_true_eq, decide_eq_false_iff_not, beq_iff_eq, bne_iff_ne, ne_eq, beq_eq_false_iff_ne, bne_eq_false_iff_eq, Bool.not_eq_true, Bool.not_eq_false, Bool.or_eq_true, Bool.and_eq_true, Bool.not_eq_eq_eq_not, Bool.not_true, Bool.not_false, Int.ofNat_lt, Int.ofNat_le, gt_iff_lt, ge_iff_le, Int.ofNat_inj, Int.natCast_pos, Int.toNat_natCast, Decidable.not_not] at h)) | (with_reducible refine And.intro ?_ ?_) | (refine useV (c_sFind _ _ ?_) rfl rfl rfl (by first | exact .inl rfl | exact .inr rfl | (right; simp [flatA, flat1, flatL, flatD])) ?_; rotate_right; (try simp only [go_sem, Nat.reduceEqDiff, reduceCtorEq, Nat.reduceAdd, Nat.reduceLT, Nat.reduceLeDiff, Nat.reduceSub])) | (refine useV (c_In _ _ _) rfl rfl rfl (by first | exact .inl rfl | exact .inr rfl | (right; simp [flatA, flat1, flatL, flatD])) ?_; rotate_right; (try simp only [go_sem, Nat.reduceEqDiff, reduceCtorEq, Nat.reduceAdd, Nat.reduceLT, Nat.reduceLeDiff, Nat.reduceSub])))
  all_goals (try (first | exact True.intro | with_reducible rfl | contradiction | omega | (simp only [inK, List.length_take, List.length_drop, List.length_map, List.length_modify, List.length_replicate, List.length_append, length_fillT]; omega) | exact rfl))
  · refine endV (by simp only [go_sem, Nat.reduceEqDiff, reduceCtorEq, Nat.reduceAdd, Nat.reduceLT, Nat.reduceLeDiff, Nat.reduceSub, resP, RV.q]) (by intro l hl; have h' : ∀ k, k < 1000000 → l ≠ k := fun k hk => (by omega); simp [upd_at, h', of_b, ofB]) rfl ?_
    (try simp only [go_sem, Nat.reduceEqDiff, reduceCtorEq, Nat.reduceAdd, Nat.reduceLT, Nat.reduceLeDiff, Nat.reduceSub, resA, RV.q, finA, fin1, finL, AV.d.injEq, AV.tup.injEq, AV.agg.injEq, DV.bool.injEq, DV.int.injEq, DV.str.injEq, DV.sl.injEq, List.cons.injEq])
    (first | done | (simp_all []; done) | (simp_all []; omega) | skip)
    have h1 : p.lo.length ≤ 200 := by omega
    have h2 : p.hi.length ≤ 200 := by omega
    simp [-List.getD_eq_getElem?_getD, sPlnOK, plnAt, *]
  · refine endV (by simp only [go_sem, Nat.reduceEqDiff, reduceCtorEq, Nat.reduceAdd, Nat.reduceLT, Nat.reduceLeDiff, Nat.reduceSub, resP, RV.q]) (by intro l hl; have h' : ∀ k, k < 1000000 → l ≠ k := fun k hk => (by omega); simp [upd_at, h', of_b, ofB]) rfl ?_
    (try simp only [go_sem, Nat.reduceEqDiff, reduceCtorEq, Nat.reduceAdd, Nat.reduceLT, Nat.reduceLeDiff, Nat.reduceSub, resA, RV.q, finA, fin1, finL, AV.d.injEq, AV.tup.injEq, AV.agg.injEq, DV.bool.injEq, DV.int.injEq, DV.str.injEq, DV.sl.injEq, List.cons.injEq])
    (first | done | (simp_all []; done) | (simp_all []; omega) | skip)
    have h1 : ¬ p.hi.length ≤ 200 := by omega
    simp [-List.getD_eq_getElem?_getD, sPlnOK, plnAt, h1]
  · refine endV (by simp only [go_sem, Nat.reduceEqDiff, reduceCtorEq, Nat.reduceAdd, Nat.reduceLT, Nat.reduceLeDiff, Nat.reduceSub, resP, RV.q]) (by intro l hl; have h' : ∀ k, k < 1000000 → l ≠ k := fun k hk => (by omega); simp [upd_at, h', of_b, ofB]) rfl ?_
    (try simp only [go_sem, Nat.reduceEqDiff, reduceCtorEq, Nat.reduceAdd, Nat.reduceLT, Nat.reduceLeDiff, Nat.reduceSub, resA, RV.q, finA, fin1, finL, AV.d.injEq, AV.tup.injEq, AV.agg.injEq, DV.bool.injEq, DV.int.injEq, DV.str.injEq, DV.sl.injEq, List.cons.injEq])
    (first | done | (simp_all []; done) | (simp_all []; omega) | skip)
    have h1 : ¬ p.lo.length ≤ 200 := by omega
    simp [-List.getD_eq_getElem?_getD, sPlnOK, plnAt, h1]
  · refine endV (by simp only [go_sem, Nat.reduceEqDiff, reduceCtorEq, Nat.reduceAdd, Nat.reduceLT, Nat.reduceLeDiff, Nat.reduceSub, resP, RV.q]) (by intro l hl; have h' : ∀ k, k < 1000000 → l ≠ k := fun k hk => (by omega); simp [upd_at, h', of_b, ofB]) rfl ?_
    (try simp only [go_sem, Nat.reduceEqDiff, reduceCtorEq, Nat.reduceAdd, Nat.reduceLT, Nat.reduceLeDiff, Nat.reduceSub, resA, RV.q, finA, fin1, finL, AV.d.injEq, AV.tup.injEq, AV.agg.injEq, DV.bool.injEq, DV.int.injEq, DV.str.injEq, DV.sl.injEq, List.cons.injEq])
    (first | done | (simp_all []; done) | (simp_all []; omega) | skip)
    simp [-List.getD_eq_getElem?_getD, sPlnOK, plnAt, *]
  · refine endV (by simp only [go_sem, Nat.reduceEqDiff, reduceCtorEq, Nat.reduceAdd, Nat.reduceLT, Nat.reduceLeDiff, Nat.reduceSub, resP, RV.q]) (by intro l hl; have h' : ∀ k, k < 1000000 → l ≠ k := fun k hk => (by omega); simp [upd_at, h', of_b, ofB]) rfl ?_
    (try simp only [go_sem, Nat.reduceEqDiff, reduceCtorEq, Nat.reduceAdd, Nat.reduceLT, Nat.reduceLeDiff, Nat.reduceSub, resA, RV.q, finA, fin1, finL, AV.d.injEq, AV.tup.injEq, AV.agg.injEq, DV.bool.injEq, DV.int.injEq, DV.str.injEq, DV.sl.injEq, List.cons.injEq])
    (first | done | (simp_all []; done) | (simp_all []; omega) | skip)
    simp [-List.getD_eq_getElem?_getD, sPlnOK, plnAt, *]
theorem c_iPlnOK (p : Pln) (l : List Tbl) (hc : sCatOK l = true) (hs : ∀ y ∈ l, SmTbl y) (hp : SmPln p) : Fn Tryd.prog 18 [aPln p, .d (dTbls l)] none (bv (sPlnOK p l)) none none none := by
  have hr := sCat_rises hc
  have hlen := sCat_len hc
  simp only [SmPln] at hp
  refine fn_ok' r18 (sc := s18) (loud := loudF) (fn := Tryd.f18) (by kernel_rfl) k18 (by decide) mixed (Nat.le_of_ble_eq_true rfl) (by kernel_rfl) (bigN _ _) ?_
  have hn := idx_small hs
  simp only [go_sem, Nat.reduceEqDiff, reduceCtorEq, Nat.reduceAdd, Nat.reduceLT, Nat.reduceLeDiff, Nat.reduceSub, s18, r18]
  repeat' (first | (refine grdL_split ?_ ?_ <;> intro h <;> (try simp only [go_sem, Nat.reduceEqDiff, reduceCtorEq, Nat.reduceAdd, Nat.reduceLT, Nat.reduceLeDiff, Nat.reduceSub, h]) <;> (try simp only [decide_eq_true_eq, decide_eq_false_iff_not, beq_iff_eq, bne_iff_ne, ne_eq, beq_eq_false_iff_ne, bne_eq_false_iff_eq, Bool.not_eq_true, Bool.not_eq_false, Bool.or_eq_true, Bool.and_eq_true, Bool.not_eq_eq_eq_not, Bool.not_true, Bool.not_false, Int.ofNat_lt, Int.ofNat_le, gt_iff_lt, ge_iff_le, Int.ofNat_inj, Int.natCast_pos, Int.toNat_natCast, Decidable.not_not] at h)) | (refine brkL_split ?_ ?_ <;> intro h <;> (try simp only [go_sem, Nat.reduceEqDiff, reduceCtorEq, Nat.reduceAdd, Nat.reduceLT, Nat.reduceLeDiff, Nat.reduceSub, h]) <;> (try simp only [decide_eq_true_eq, decide_eq_false_iff_not, beq_iff_eq, bne_iff_ne, ne_eq, beq_eq_false_iff_ne, bne_eq_false_iff_eq, Bool.not_eq_true, Bool.not_eq_false, Bool.or_eq_true, Bool.and_eq_true, Bool.not_eq_eq_eq_not, Bool.not_true, Bool.not_false, Int.ofNat_lt, Int.ofNat_le, gt_iff_lt, ge_iff_le, Int.ofNat_inj, Int.natCast_pos, Int.toNat_natCast, Decidable.not_not] at h)) | (with_reducible refine And.intro ?_ ?_) | (refine useVX (c_tableAt _ _ ?_ ?_) rfl rfl (fun _ _ => rfl) (by first | exact .inl rfl | exact .inr (fun _ _ => rfl)) ?_; rotate_right; rintro x hx; (try simp only [go_sem, Nat.reduceEqDiff, reduceCtorEq, Nat.reduceAdd, Nat.reduceLT, Nat.reduceLeDiff, Nat.reduceSub])) | (refine useV (c_within _ _ _) rfl rfl rfl (by first | exact .inl rfl | exact .inr rfl | (right; simp [flatA, flat1, flatL, flatD])) ?_; rotate_right; (try simp only [go_sem, Nat.reduceEqDiff, reduceCtorEq, Nat.reduceAdd, Nat.reduceLT, Nat.reduceLeDiff, Nat.reduceSub])))
  all_goals (try (first | exact True.intro | with_reducible rfl | contradiction | omega | (simp only [inK, List.length_take, List.length_drop, List.length_map, List.length_modify, List.length_replicate, List.length_append, length_fillT]; omega) | exact rfl))
  all_goals (try (have hn := hn x; simp only [inK]; omega))
  · refine endV (by simp only [go_sem, Nat.reduceEqDiff, reduceCtorEq, Nat.reduceAdd, Nat.reduceLT, Nat.reduceLeDiff, Nat.reduceSub, resP, RV.q]) (by intro l hl; have h' : ∀ k, k < 1000000 → l ≠ k := fun k hk => (by omega); simp [upd_at, h', of_b, ofB]) rfl ?_
    (try simp only [go_sem, Nat.reduceEqDiff, reduceCtorEq, Nat.reduceAdd, Nat.reduceLT, Nat.reduceLeDiff, Nat.reduceSub, resA, RV.q, finA, fin1, finL, AV.d.injEq, AV.tup.injEq, AV.agg.injEq, DV.bool.injEq, DV.int.injEq, DV.str.injEq, DV.sl.injEq, List.cons.injEq])
    (first | done | (simp_all []; done) | (simp_all []; omega) | skip)
    have h1 : p.lo.length ≤ 200 := by omega
    have h2 : p.hi.length ≤ 200 := by omega
    simp [-List.getD_eq_getElem?_getD, sPlnOK, plnAt, fa_found hr hx ‹_ ∧ _›, *]
  · refine endV (by simp only [go_sem, Nat.reduceEqDiff, reduceCtorEq, Nat.reduceAdd, Nat.reduceLT, Nat.reduceLeDiff, Nat.reduceSub, resP, RV.q]) (by intro l hl; have h' : ∀ k, k < 1000000 → l ≠ k := fun k hk => (by omega); simp [upd_at, h', of_b, ofB]) rfl ?_
    (try simp only [go_sem, Nat.reduceEqDiff, reduceCtorEq, Nat.reduceAdd, Nat.reduceLT, Nat.reduceLeDiff, Nat.reduceSub, resA, RV.q, finA, fin1, finL, AV.d.injEq, AV.tup.injEq, AV.agg.injEq, DV.bool.injEq, DV.int.injEq, DV.str.injEq, DV.sl.injEq, List.cons.injEq])
    (first | done | (simp_all []; done) | (simp_all []; omega) | skip)
    have h1 : ¬ p.hi.length ≤ 200 := by omega
    simp [-List.getD_eq_getElem?_getD, sPlnOK, plnAt, h1]
  · refine endV (by simp only [go_sem, Nat.reduceEqDiff, reduceCtorEq, Nat.reduceAdd, Nat.reduceLT, Nat.reduceLeDiff, Nat.reduceSub, resP, RV.q]) (by intro l hl; have h' : ∀ k, k < 1000000 → l ≠ k := fun k hk => (by omega); simp [upd_at, h', of_b, ofB]) rfl ?_
    (try simp only [go_sem, Nat.reduceEqDiff, reduceCtorEq, Nat.reduceAdd, Nat.reduceLT, Nat.reduceLeDiff, Nat.reduceSub, resA, RV.q, finA, fin1, finL, AV.d.injEq, AV.tup.injEq, AV.agg.injEq, DV.bool.injEq, DV.int.injEq, DV.str.injEq, DV.sl.injEq, List.cons.injEq])
    (first | done | (simp_all []; done) | (simp_all []; omega) | skip)
    have h1 : ¬ p.lo.length ≤ 200 := by omega
    simp [-List.getD_eq_getElem?_getD, sPlnOK, plnAt, h1]
  · refine endV (by simp only [go_sem, Nat.reduceEqDiff, reduceCtorEq, Nat.reduceAdd, Nat.reduceLT, Nat.reduceLeDiff, Nat.reduceSub, resP, RV.q]) (by intro l hl; have h' : ∀ k, k < 1000000 → l ≠ k := fun k hk => (by omega); simp [upd_at, h', of_b, ofB]) rfl ?_
    (try simp only [go_sem, Nat.reduceEqDiff, reduceCtorEq, Nat.reduceAdd, Nat.reduceLT, Nat.reduceLeDiff, Nat.reduceSub, resA, RV.q, finA, fin1, finL, AV.d.injEq, AV.tup.injEq, AV.agg.injEq, DV.bool.injEq, DV.int.injEq, DV.str.injEq, DV.sl.injEq, List.cons.injEq])
    (first | done | (simp_all []; done) | (simp_all []; omega) | skip)
    simp [-List.getD_eq_getElem?_getD, sPlnOK, plnAt, fa_found hr hx ‹x < _ ∧ _›, *]
  · refine endV (by simp only [go_sem, Nat.reduceEqDiff, reduceCtorEq, Nat.reduceAdd, Nat.reduceLT, Nat.reduceLeDiff, Nat.reduceSub, resP, RV.q]) (by intro l hl; have h' : ∀ k, k < 1000000 → l ≠ k := fun k hk => (by omega); simp [upd_at, h', of_b, ofB]) rfl ?_
    (try simp only [go_sem, Nat.reduceEqDiff, reduceCtorEq, Nat.reduceAdd, Nat.reduceLT, Nat.reduceLeDiff, Nat.reduceSub, resA, RV.q, finA, fin1, finL, AV.d.injEq, AV.tup.injEq, AV.agg.injEq, DV.bool.injEq, DV.int.injEq, DV.str.injEq, DV.sl.injEq, List.cons.injEq])
    (first | done | (simp_all []; done) | (simp_all []; omega) | skip)
    simp [-List.getD_eq_getElem?_getD, sPlnOK, plnAt, fa_none hr hx ‹_›]

/-- The text of a plan, and its code. -/
def tAll : Txt := [32, 97, 108, 108]
def tFrom : Txt := [32, 102, 114, 111, 109, 32]
def tBelow : Txt := [32, 98, 101, 108, 111, 119, 32]
def tIdx : Txt := [32, 105, 110, 100, 101, 120, 32]
def tKey : Txt := [32, 107, 101, 121]
def planT (p : Pln) (l : List Tbl) : Txt × Int :=
  if 4096 < l.length then ([], 2) else if !(sCatOK l && sPlnOK p l) then ([], 1) else if p.limit = 0 then (p.table ++ tAll, 0)
  else (p.table ++ (if p.index < 0 then tKey else tIdx ++ ((plnAt p l).idx.getD p.index.toNat idx0).name) ++ tFrom ++ hexT p.lo ++ tBelow ++ hexT p.hi, 0)
theorem pln_out {p : Pln} {l : List Tbl} (h : sPlnOK p l = true) : 0 ≤ fidx (fun y => y.name == p.table) l ∧ p.index < (((l.getD (fidx (fun y => y.name == p.table) l).toNat tbl0).idx.length : Nat) : Int) := by
  simp only [sPlnOK, inR, Bool.and_eq_true, decide_eq_true_eq] at h
  obtain ⟨⟨⟨⟨h1, _, h2⟩, _⟩, _⟩, _⟩ := h
  exact ⟨h1, show p.index < ((plnAt p l).idx.length : Int) by omega⟩
theorem fa_lt {l : List Tbl} (hr : Rises l) {t : Txt} {k : Nat} (h : FirstAt l t k) (h0 : 0 ≤ fidx (fun y => y.name == t) l) : k < l.length ∧ fidx (fun y => y.name == t) l = (k : Int) := by
  cases h' : (decide (k < l.length) && cmpT (l.getD k tbl0).name t == 0) with
  | false => rw [fa_none hr h h'] at h0; omega
  | true =>
    simp only [Bool.and_eq_true, decide_eq_true_eq, beq_iff_eq] at h'
    exact ⟨h'.1, fa_found hr h h'⟩
theorem nm_small {l : List Tbl} (hs : ∀ y ∈ l, SmTbl y) (k j : Nat) : ((l.getD k tbl0).idx.getD j idx0).name.length ≤ 1048576 := by
  by_cases h : k < l.length
  · have h1 := all_get (d := tbl0) hs k h
    simp only [SmTbl] at h1
    by_cases h' : j < (l.getD k tbl0).idx.length
    · have := all_get (d := idx0) h1.2.2.2 j h'
      simp only [SmIdx] at this
      exact this.1
    · rw [List.getD, List.getElem?_eq_none (Nat.le_of_not_lt h')]; decide
  · have : (l.getD k tbl0) = tbl0 := by rw [List.getD, List.getElem?_eq_none (by omega)]; rfl
    rw [this]
    simp [tbl0, idx0]
theorem c_sPlanText (p : Pln) (l : List Tbl) (hl : l.length ≤ 1048576) (hs : ∀ y ∈ l, SmTbl y) (hp : SmPln p) : Fn Tryd.prog 6 [aPln p, .d (dTbls l)] none (.tup [sv (planT p l).1, iv .i64 (planT p l).2]) none none none := by
  have hp' := hp
  simp only [SmPln] at hp
  refine fn_ok' r6 (sc := s6) (loud := loudF) (fn := Tryd.f6) (by kernel_rfl) k6 (by decide) mixed (Nat.le_of_ble_eq_true rfl) (by kernel_rfl) (bigN _ _) ?_
  have hlo := hexT_len p.lo
  have hhi := hexT_len p.hi
  have hnm := nm_small hs (fidx (fun y => y.name == p.table) l).toNat p.index.toNat
  have hk := fidx_lt (fun y : Tbl => y.name == p.table) l
  simp only [go_sem, Nat.reduceEqDiff, reduceCtorEq, Nat.reduceAdd, Nat.reduceLT, Nat.reduceLeDiff, Nat.reduceSub, s6, r6]
  repeat' (first | (refine grdL_split ?_ ?_ <;> intro h <;> (try simp only [go_sem, Nat.reduceEqDiff, reduceCtorEq, Nat.reduceAdd, Nat.reduceLT, Nat.reduceLeDiff, Nat.reduceSub, h]) <;> (try simp only [decide_eq_true_eq, decide_eq_false_iff_not, beq_iff_eq, bne_iff_ne, ne_eq, beq_eq_false_iff_ne, bne_eq_false_iff_eq, Bool.not_eq_true, Bool.not_eq_false, Bool.or_eq_true, Bool.and_eq_true, Bool.not_eq_eq_eq_not, Bool.not_true, Bool.not_false, Int.ofNat_lt, Int.ofNat_le, gt_iff_lt, ge_iff_le, Int.ofNat_inj, Int.natCast_pos, Int.toNat_natCast, Decidable.not_not] at h)) | (refine brkL_split ?_ ?_ <;> intro h <;> (try simp only [go_sem, Nat.reduceEqDiff, reduceCtorEq, Nat.reduceAdd, Nat.reduceLT, Nat.reduceLeDiff, Nat.reduceSub, h]) <;> (try simp only [decide_eq_true_eq, decide_eq_false_iff_not, beq_iff_eq, bne_iff_ne, ne_eq, beq_eq_false_iff_ne, bne_eq_false_iff_eq, Bool.not_eq_true, Bool.not_eq_false, Bool.or_eq_true, Bool.and_eq_true, Bool.not_eq_eq_eq_not, Bool.not_true, Bool.not_false, Int.ofNat_lt, Int.ofNat_le, gt_iff_lt, ge_iff_le, Int.ofNat_inj, Int.natCast_pos, Int.toNat_natCast, Decidable.not_not] at h)) | (with_reducible refine And.intro ?_ ?_) | (refine useV (c_sCatOK _) rfl rfl rfl (by first | exact .inl rfl | exact .inr rfl | (right; simp [flatA, flat1, flatL, flatD])) ?_; rotate_right; (try simp only [go_sem, Nat.reduceEqDiff, reduceCtorEq, Nat.reduceAdd, Nat.reduceLT, Nat.reduceLeDiff, Nat.reduceSub])) | (refine useV (c_sPlnOK _ _ ?_ ?_ ?_) rfl rfl rfl (by first | exact .inl rfl | exact .inr rfl | (right; simp [flatA, flat1, flatL, flatD])) ?_; rotate_right; (try simp only [go_sem, Nat.reduceEqDiff, reduceCtorEq, Nat.reduceAdd, Nat.reduceLT, Nat.reduceLeDiff, Nat.reduceSub])) | (refine useV (c_sHex _ ?_) rfl rfl rfl (by first | exact .inl rfl | exact .inr rfl | (right; simp [flatA, flat1, flatL, flatD])) ?_; rotate_right; (try simp only [go_sem, Nat.reduceEqDiff, reduceCtorEq, Nat.reduceAdd, Nat.reduceLT, Nat.reduceLeDiff, Nat.reduceSub])) | (refine useV (c_sFind _ _ ?_) rfl rfl rfl (by first | exact .inl rfl | exact .inr rfl | (right; simp [flatA, flat1, flatL, flatD])) ?_; rotate_right; (try simp only [go_sem, Nat.reduceEqDiff, reduceCtorEq, Nat.reduceAdd, Nat.reduceLT, Nat.reduceLeDiff, Nat.reduceSub])))
  all_goals (try (first | exact True.intro | with_reducible rfl | contradiction | omega | (simp only [inK, List.length_take, List.length_drop, List.length_map, List.length_modify, List.length_replicate, List.length_append, length_fillT]; omega) | exact rfl))
  all_goals (try (simp only [List.length_append, List.length_cons, List.length_nil]; omega))
  all_goals (try (have ho := pln_out ‹sPlnOK p l = true›; omega))
  · refine endV (by simp only [go_sem, Nat.reduceEqDiff, reduceCtorEq, Nat.reduceAdd, Nat.reduceLT, Nat.reduceLeDiff, Nat.reduceSub, resP, RV.q]) (by intro l hl; have h' : ∀ k, k < 1000000 → l ≠ k := fun k hk => (by omega); simp [upd_at, h', of_b, ofB]) rfl ?_
    (try simp only [go_sem, Nat.reduceEqDiff, reduceCtorEq, Nat.reduceAdd, Nat.reduceLT, Nat.reduceLeDiff, Nat.reduceSub, resA, RV.q, finA, fin1, finL, AV.d.injEq, AV.tup.injEq, AV.agg.injEq, DV.bool.injEq, DV.int.injEq, DV.str.injEq, DV.sl.injEq, List.cons.injEq])
    (first | done | (simp_all []; done) | (simp_all []; omega) | skip)
    have h1 : 4096 < l.length := by omega
    simp [planT, h1]
  · refine endV (by simp only [go_sem, Nat.reduceEqDiff, reduceCtorEq, Nat.reduceAdd, Nat.reduceLT, Nat.reduceLeDiff, Nat.reduceSub, resP, RV.q]) (by intro l hl; have h' : ∀ k, k < 1000000 → l ≠ k := fun k hk => (by omega); simp [upd_at, h', of_b, ofB]) rfl ?_
    (try simp only [go_sem, Nat.reduceEqDiff, reduceCtorEq, Nat.reduceAdd, Nat.reduceLT, Nat.reduceLeDiff, Nat.reduceSub, resA, RV.q, finA, fin1, finL, AV.d.injEq, AV.tup.injEq, AV.agg.injEq, DV.bool.injEq, DV.int.injEq, DV.str.injEq, DV.sl.injEq, List.cons.injEq])
    (first | done | (simp_all []; done) | (simp_all []; omega) | skip)
    have h1 : ¬ 4096 < l.length := by omega
    simp [planT, h1, *]
  · refine endV (by simp only [go_sem, Nat.reduceEqDiff, reduceCtorEq, Nat.reduceAdd, Nat.reduceLT, Nat.reduceLeDiff, Nat.reduceSub, resP, RV.q]) (by intro l hl; have h' : ∀ k, k < 1000000 → l ≠ k := fun k hk => (by omega); simp [upd_at, h', of_b, ofB]) rfl ?_
    (try simp only [go_sem, Nat.reduceEqDiff, reduceCtorEq, Nat.reduceAdd, Nat.reduceLT, Nat.reduceLeDiff, Nat.reduceSub, resA, RV.q, finA, fin1, finL, AV.d.injEq, AV.tup.injEq, AV.agg.injEq, DV.bool.injEq, DV.int.injEq, DV.str.injEq, DV.sl.injEq, List.cons.injEq])
    (first | done | (simp_all []; done) | (simp_all []; omega) | skip)
    have h1 : ¬ 4096 < l.length := by omega
    simp [planT, h1, *]
  · refine endV (by simp only [go_sem, Nat.reduceEqDiff, reduceCtorEq, Nat.reduceAdd, Nat.reduceLT, Nat.reduceLeDiff, Nat.reduceSub, resP, RV.q]) (by intro l hl; have h' : ∀ k, k < 1000000 → l ≠ k := fun k hk => (by omega); simp [upd_at, h', of_b, ofB]) rfl ?_
    (try simp only [go_sem, Nat.reduceEqDiff, reduceCtorEq, Nat.reduceAdd, Nat.reduceLT, Nat.reduceLeDiff, Nat.reduceSub, resA, RV.q, finA, fin1, finL, AV.d.injEq, AV.tup.injEq, AV.agg.injEq, DV.bool.injEq, DV.int.injEq, DV.str.injEq, DV.sl.injEq, List.cons.injEq])
    (first | done | (simp_all []; done) | (simp_all []; omega) | skip)
    have h1 : ¬ 4096 < l.length := by omega
    simp [planT, h1, tAll, *]
  · refine endV (by simp only [go_sem, Nat.reduceEqDiff, reduceCtorEq, Nat.reduceAdd, Nat.reduceLT, Nat.reduceLeDiff, Nat.reduceSub, resP, RV.q]) (by intro l hl; have h' : ∀ k, k < 1000000 → l ≠ k := fun k hk => (by omega); simp [upd_at, h', of_b, ofB]) rfl ?_
    (try simp only [go_sem, Nat.reduceEqDiff, reduceCtorEq, Nat.reduceAdd, Nat.reduceLT, Nat.reduceLeDiff, Nat.reduceSub, resA, RV.q, finA, fin1, finL, AV.d.injEq, AV.tup.injEq, AV.agg.injEq, DV.bool.injEq, DV.int.injEq, DV.str.injEq, DV.sl.injEq, List.cons.injEq])
    (first | done | (simp_all []; done) | (simp_all []; omega) | skip)
    have h1 : ¬ 4096 < l.length := by omega
    simp [planT, h1, tKey, tFrom, tBelow, *]
  · refine endV (by simp only [go_sem, Nat.reduceEqDiff, reduceCtorEq, Nat.reduceAdd, Nat.reduceLT, Nat.reduceLeDiff, Nat.reduceSub, resP, RV.q]) (by intro l hl; have h' : ∀ k, k < 1000000 → l ≠ k := fun k hk => (by omega); simp [upd_at, h', of_b, ofB]) rfl ?_
    (try simp only [go_sem, Nat.reduceEqDiff, reduceCtorEq, Nat.reduceAdd, Nat.reduceLT, Nat.reduceLeDiff, Nat.reduceSub, resA, RV.q, finA, fin1, finL, AV.d.injEq, AV.tup.injEq, AV.agg.injEq, DV.bool.injEq, DV.int.injEq, DV.str.injEq, DV.sl.injEq, List.cons.injEq])
    (first | done | (simp_all []; done) | (simp_all []; omega) | skip)
    have h1 : ¬ 4096 < l.length := by omega
    have h2 : ¬ p.index < 0 := by omega
    simp [-List.getD_eq_getElem?_getD, planT, plnAt, h1, h2, tIdx, tFrom, tBelow, *]
theorem c_iPlanText (p : Pln) (l : List Tbl) (hl : l.length ≤ 1048576) (hs : ∀ y ∈ l, SmTbl y) (hp : SmPln p) : Fn Tryd.prog 9 [aPln p, .d (dTbls l)] none (.tup [sv (planT p l).1, iv .i64 (planT p l).2]) none none none := by
  have hp' := hp
  simp only [SmPln] at hp
  refine fn_ok' r9 (sc := s9) (loud := loudF) (fn := Tryd.f9) (by kernel_rfl) k9 (by decide) mixed (Nat.le_of_ble_eq_true rfl) (by kernel_rfl) (bigN _ _) ?_
  have hlo := hexT_len p.lo
  have hhi := hexT_len p.hi
  have hnm := fun k => nm_small hs k p.index.toNat
  simp only [go_sem, Nat.reduceEqDiff, reduceCtorEq, Nat.reduceAdd, Nat.reduceLT, Nat.reduceLeDiff, Nat.reduceSub, s9, r9]
  repeat' (first | (refine grdL_split ?_ ?_ <;> intro h <;> (try simp only [go_sem, Nat.reduceEqDiff, reduceCtorEq, Nat.reduceAdd, Nat.reduceLT, Nat.reduceLeDiff, Nat.reduceSub, h]) <;> (try simp only [decide_eq_true_eq, decide_eq_false_iff_not, beq_iff_eq, bne_iff_ne, ne_eq, beq_eq_false_iff_ne, bne_eq_false_iff_eq, Bool.not_eq_true, Bool.not_eq_false, Bool.or_eq_true, Bool.and_eq_true, Bool.not_eq_eq_eq_not, Bool.not_true, Bool.not_false, Int.ofNat_lt, Int.ofNat_le, gt_iff_lt, ge_iff_le, Int.ofNat_inj, Int.natCast_pos, Int.toNat_natCast, Decidable.not_not] at h)) | (refine brkL_split ?_ ?_ <;> intro h <;> (try simp only [go_sem, Nat.reduceEqDiff, reduceCtorEq, Nat.reduceAdd, Nat.reduceLT, Nat.reduceLeDiff, Nat.reduceSub, h]) <;> (try simp only [decide_eq_true_eq, decide_eq_false_iff_not, beq_iff_eq, bne_iff_ne, ne_eq, beq_eq_false_iff_ne, bne_eq_false_iff_eq, Bool.not_eq_true, Bool.not_eq_false, Bool.or_eq_true, Bool.and_eq_true, Bool.not_eq_eq_eq_not, Bool.not_true, Bool.not_false, Int.ofNat_lt, Int.ofNat_le, gt_iff_lt, ge_iff_le, Int.ofNat_inj, Int.natCast_pos, Int.toNat_natCast, Decidable.not_not] at h)) | (with_reducible refine And.intro ?_ ?_) | (refine useV (c_iCatOK _ ?_ ?_) rfl rfl rfl (by first | exact .inl rfl | exact .inr rfl | (right; simp [flatA, flat1, flatL, flatD])) ?_; rotate_right; (try simp only [go_sem, Nat.reduceEqDiff, reduceCtorEq, Nat.reduceAdd, Nat.reduceLT, Nat.reduceLeDiff, Nat.reduceSub])) | (refine useV (c_iPlnOK _ _ ?_ ?_ ?_) rfl rfl rfl (by first | exact .inl rfl | exact .inr rfl | (right; simp [flatA, flat1, flatL, flatD])) ?_; rotate_right; (try simp only [go_sem, Nat.reduceEqDiff, reduceCtorEq, Nat.reduceAdd, Nat.reduceLT, Nat.reduceLeDiff, Nat.reduceSub])) | (refine useVX (c_tableAt _ _ ?_ ?_) rfl rfl (fun _ _ => rfl) (by first | exact .inl rfl | exact .inr (fun _ _ => rfl)) ?_; rotate_right; rintro x hx; (try simp only [go_sem, Nat.reduceEqDiff, reduceCtorEq, Nat.reduceAdd, Nat.reduceLT, Nat.reduceLeDiff, Nat.reduceSub])) | (refine useV (c_iHex _ ?_) rfl rfl rfl (by first | exact .inl rfl | exact .inr rfl | (right; simp [flatA, flat1, flatL, flatD])) ?_; rotate_right; (try simp only [go_sem, Nat.reduceEqDiff, reduceCtorEq, Nat.reduceAdd, Nat.reduceLT, Nat.reduceLeDiff, Nat.reduceSub])))
  all_goals (try (first | exact True.intro | with_reducible rfl | contradiction | omega | (simp only [inK, List.length_take, List.length_drop, List.length_map, List.length_modify, List.length_replicate, List.length_append, length_fillT]; omega) | exact rfl))
  all_goals (try (simp only [List.length_append, List.length_cons, List.length_nil]; omega))
  all_goals (try (exact sCat_rises ‹sCatOK l = true›))
  all_goals (try (have hn := hnm x; (try simp only [List.length_append, List.length_cons, List.length_nil]); omega))
  all_goals (try (have ho := pln_out ‹sPlnOK p l = true›; have hf := fa_lt (sCat_rises ‹sCatOK l = true›) hx ho.1; rw [hf.2, Int.toNat_natCast] at ho; omega))
  · refine endV (by simp only [go_sem, Nat.reduceEqDiff, reduceCtorEq, Nat.reduceAdd, Nat.reduceLT, Nat.reduceLeDiff, Nat.reduceSub, resP, RV.q]) (by intro l hl; have h' : ∀ k, k < 1000000 → l ≠ k := fun k hk => (by omega); simp [upd_at, h', of_b, ofB]) rfl ?_
    (try simp only [go_sem, Nat.reduceEqDiff, reduceCtorEq, Nat.reduceAdd, Nat.reduceLT, Nat.reduceLeDiff, Nat.reduceSub, resA, RV.q, finA, fin1, finL, AV.d.injEq, AV.tup.injEq, AV.agg.injEq, DV.bool.injEq, DV.int.injEq, DV.str.injEq, DV.sl.injEq, List.cons.injEq])
    (first | done | (simp_all []; done) | (simp_all []; omega) | skip)
    have h1 : 4096 < l.length := by omega
    simp [planT, h1]
  · refine endV (by simp only [go_sem, Nat.reduceEqDiff, reduceCtorEq, Nat.reduceAdd, Nat.reduceLT, Nat.reduceLeDiff, Nat.reduceSub, resP, RV.q]) (by intro l hl; have h' : ∀ k, k < 1000000 → l ≠ k := fun k hk => (by omega); simp [upd_at, h', of_b, ofB]) rfl ?_
    (try simp only [go_sem, Nat.reduceEqDiff, reduceCtorEq, Nat.reduceAdd, Nat.reduceLT, Nat.reduceLeDiff, Nat.reduceSub, resA, RV.q, finA, fin1, finL, AV.d.injEq, AV.tup.injEq, AV.agg.injEq, DV.bool.injEq, DV.int.injEq, DV.str.injEq, DV.sl.injEq, List.cons.injEq])
    (first | done | (simp_all []; done) | (simp_all []; omega) | skip)
    have h1 : ¬ 4096 < l.length := by omega
    simp [planT, h1, *]
  · refine endV (by simp only [go_sem, Nat.reduceEqDiff, reduceCtorEq, Nat.reduceAdd, Nat.reduceLT, Nat.reduceLeDiff, Nat.reduceSub, resP, RV.q]) (by intro l hl; have h' : ∀ k, k < 1000000 → l ≠ k := fun k hk => (by omega); simp [upd_at, h', of_b, ofB]) rfl ?_
    (try simp only [go_sem, Nat.reduceEqDiff, reduceCtorEq, Nat.reduceAdd, Nat.reduceLT, Nat.reduceLeDiff, Nat.reduceSub, resA, RV.q, finA, fin1, finL, AV.d.injEq, AV.tup.injEq, AV.agg.injEq, DV.bool.injEq, DV.int.injEq, DV.str.injEq, DV.sl.injEq, List.cons.injEq])
    (first | done | (simp_all []; done) | (simp_all []; omega) | skip)
    have h1 : ¬ 4096 < l.length := by omega
    simp [planT, h1, *]
  · refine endV (by simp only [go_sem, Nat.reduceEqDiff, reduceCtorEq, Nat.reduceAdd, Nat.reduceLT, Nat.reduceLeDiff, Nat.reduceSub, resP, RV.q]) (by intro l hl; have h' : ∀ k, k < 1000000 → l ≠ k := fun k hk => (by omega); simp [upd_at, h', of_b, ofB]) rfl ?_
    (try simp only [go_sem, Nat.reduceEqDiff, reduceCtorEq, Nat.reduceAdd, Nat.reduceLT, Nat.reduceLeDiff, Nat.reduceSub, resA, RV.q, finA, fin1, finL, AV.d.injEq, AV.tup.injEq, AV.agg.injEq, DV.bool.injEq, DV.int.injEq, DV.str.injEq, DV.sl.injEq, List.cons.injEq])
    (first | done | (simp_all []; done) | (simp_all []; omega) | skip)
    have h1 : ¬ 4096 < l.length := by omega
    simp [planT, h1, tAll, *]
  · refine endV (by simp only [go_sem, Nat.reduceEqDiff, reduceCtorEq, Nat.reduceAdd, Nat.reduceLT, Nat.reduceLeDiff, Nat.reduceSub, resP, RV.q]) (by intro l hl; have h' : ∀ k, k < 1000000 → l ≠ k := fun k hk => (by omega); simp [upd_at, h', of_b, ofB]) rfl ?_
    (try simp only [go_sem, Nat.reduceEqDiff, reduceCtorEq, Nat.reduceAdd, Nat.reduceLT, Nat.reduceLeDiff, Nat.reduceSub, resA, RV.q, finA, fin1, finL, AV.d.injEq, AV.tup.injEq, AV.agg.injEq, DV.bool.injEq, DV.int.injEq, DV.str.injEq, DV.sl.injEq, List.cons.injEq])
    (first | done | (simp_all []; done) | (simp_all []; omega) | skip)
    have ho := pln_out ‹sPlnOK p l = true›
    have hf := fa_lt (sCat_rises ‹sCatOK l = true›) hx ho.1
    have h1 : ¬ 4096 < l.length := by omega
    have h2 : ¬ p.index < 0 := by omega
    simp [-List.getD_eq_getElem?_getD, planT, plnAt, h1, h2, hf.2, tIdx, tFrom, tBelow, *]
  · refine endV (by simp only [go_sem, Nat.reduceEqDiff, reduceCtorEq, Nat.reduceAdd, Nat.reduceLT, Nat.reduceLeDiff, Nat.reduceSub, resP, RV.q]) (by intro l hl; have h' : ∀ k, k < 1000000 → l ≠ k := fun k hk => (by omega); simp [upd_at, h', of_b, ofB]) rfl ?_
    (try simp only [go_sem, Nat.reduceEqDiff, reduceCtorEq, Nat.reduceAdd, Nat.reduceLT, Nat.reduceLeDiff, Nat.reduceSub, resA, RV.q, finA, fin1, finL, AV.d.injEq, AV.tup.injEq, AV.agg.injEq, DV.bool.injEq, DV.int.injEq, DV.str.injEq, DV.sl.injEq, List.cons.injEq])
    (first | done | (simp_all []; done) | (simp_all []; omega) | skip)
    have h1 : ¬ 4096 < l.length := by omega
    have h2 : p.index < 0 := by omega
    simp [-List.getD_eq_getElem?_getD, planT, h1, h2, tKey, tFrom, tBelow, *]
end
end Go.Proofs.YtchmoleeajkioaaDoor.V
