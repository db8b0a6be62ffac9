/-
  Go's library: a search in tables that rise by their names.
-/
import Derived.Test.YtchmoleeajkioaaDoorPj
import Derived.IntWalk
namespace Go.Proofs.YtchmoleeajkioaaDoor.V
open Go Go.RowKit
set_option linter.unusedSimpArgs false
set_option linter.unusedVariables false
set_option maxRecDepth 100000

theorem bl_irr : ∀ a : Txt, Op.bytesLess a a = false
  | [] => rfl
  | b :: a => by
    have := bl_irr a
    simp [Op.bytesLess, this]
theorem bl_trans : ∀ a b c : Txt, Op.bytesLess a b = true → Op.bytesLess b c = true → Op.bytesLess a c = true
  | _, [], _, h, _ => by simp [Op.bytesLess] at h
  | _, _ :: _, [], _, h => by simp [Op.bytesLess] at h
  | [], _ :: _, _ :: _, _, _ => rfl
  | x :: a, y :: b, z :: c, h, h' => by
    simp only [Op.bytesLess, Bool.or_eq_true, Bool.and_eq_true, decide_eq_true_eq, beq_iff_eq] at h h' ⊢
    rcases h with h | ⟨rfl, h⟩
    · rcases h' with h' | ⟨rfl, h'⟩
      · exact .inl (UInt8.lt_trans h h')
      · exact .inl h
    · rcases h' with h' | ⟨rfl, h'⟩
      · exact .inl h'
      · exact .inr ⟨rfl, bl_trans a b c h h'⟩
theorem bl_tri : ∀ a b : Txt, Op.bytesLess a b = false → Op.bytesLess b a = false → a = b
  | [], [], _, _ => rfl
  | [], _ :: _, h, _ => by simp [Op.bytesLess] at h
  | _ :: _, [], _, h => by simp [Op.bytesLess] at h
  | x :: a, y :: b, h, h' => by
    simp only [Op.bytesLess, Bool.or_eq_false_iff, decide_eq_false_iff_not, Bool.and_eq_false_iff, beq_eq_false_iff_ne] at h h'
    have e : x = y := by
      rcases UInt8.lt_or_lt_of_ne (a := x) (b := y) |> fun f => (Classical.em (x = y)).imp id f with e | e | e
      · exact e
      · exact absurd e h.1
      · exact absurd e h'.1
    subst e
    have h1 : Op.bytesLess a b = false := h.2.resolve_left (fun e => e rfl)
    have h2 : Op.bytesLess b a = false := h'.2.resolve_left (fun e => e rfl)
    rw [bl_tri a b h1 h2]

/-- The names rise. -/
def Rises (l : List Tbl) : Prop := ∀ i j, i < j → j < l.length → Op.bytesLess (l.getD i tbl0).name (l.getD j tbl0).name = true
/-- k is the first place whose name is not before t. -/
def FirstAt (l : List Tbl) (t : Txt) (k : Nat) : Prop := k ≤ l.length ∧ (∀ m, m < k → Op.bytesLess (l.getD m tbl0).name t = true) ∧ ∀ m, k ≤ m → m < l.length → Op.bytesLess (l.getD m tbl0).name t = false

theorem c_tableAt1 (x : Tbl) (t : Txt) : Fn Tryd.prog 31 [aTbl x, sv t] none (iv .i64 (cmpT x.name t)) none none none := by
  refine fn_ok' r31 (sc := s31) (loud := loudF) (fn := Tryd.f31) (by kernel_rfl) k31 (by decide) mixed (Nat.le_of_ble_eq_true rfl) (by kernel_rfl) (bigN _ _) ?_
  simp only [go_sem, Nat.reduceEqDiff, reduceCtorEq, Nat.reduceAdd, Nat.reduceLT, Nat.reduceLeDiff, Nat.reduceSub, s31, r31]
  repeat' (first | (refine grdL_split ?_ ?_ <;> intro h <;> (try simp only [go_sem, Nat.reduceEqDiff, reduceCtorEq, Nat.reduceAdd, Nat.reduceLT, Nat.reduceLeDiff, Nat.reduceSub, h]) <;> (try simp only [decide_eq_true_eq, decide_eq_false_iff_not, beq_iff_eq, bne_iff_ne, ne_eq, beq_eq_false_iff_ne, bne_eq_false_iff_eq, Bool.not_eq_true, Bool.not_eq_false, Bool.or_eq_true, Bool.and_eq_true, Bool.not_eq_eq_eq_not, Bool.not_true, Bool.not_false, Int.ofNat_lt, Int.ofNat_le, gt_iff_lt, ge_iff_le, Int.ofNat_inj, Int.natCast_pos, Int.toNat_natCast, Decidable.not_not] at h)) | (refine brkL_split ?_ ?_ <;> intro h <;> (try simp only [go_sem, Nat.reduceEqDiff, reduceCtorEq, Nat.reduceAdd, Nat.reduceLT, Nat.reduceLeDiff, Nat.reduceSub, h]) <;> (try simp only [decide_eq_true_eq, decide_eq_false_iff_not, beq_iff_eq, bne_iff_ne, ne_eq, beq_eq_false_iff_ne, bne_eq_false_iff_eq, Bool.not_eq_true, Bool.not_eq_false, Bool.or_eq_true, Bool.and_eq_true, Bool.not_eq_eq_eq_not, Bool.not_true, Bool.not_false, Int.ofNat_lt, Int.ofNat_le, gt_iff_lt, ge_iff_le, Int.ofNat_inj, Int.natCast_pos, Int.toNat_natCast, Decidable.not_not] at h)) | (with_reducible refine And.intro ?_ ?_) | (refine useV (c_Compare _ _) rfl rfl rfl (by first | exact .inl rfl | exact .inr rfl | (right; simp [flatA, flat1, flatL, flatD])) ?_; rotate_right; (try simp only [go_sem, Nat.reduceEqDiff, reduceCtorEq, Nat.reduceAdd, Nat.reduceLT, Nat.reduceLeDiff, Nat.reduceSub])))
  all_goals (try (first | exact True.intro | with_reducible rfl | contradiction | omega | (simp only [inK, List.length_take, List.length_drop, List.length_map, List.length_modify, List.length_replicate, List.length_append, length_fillT]; omega) | exact rfl))
  refine endV (by simp only [go_sem, Nat.reduceEqDiff, reduceCtorEq, Nat.reduceAdd, Nat.reduceLT, Nat.reduceLeDiff, Nat.reduceSub, resP, RV.q]) (by intro l hl; have h' : ∀ k, k < 1000000 → l ≠ k := fun k hk => (by omega); simp [upd_at, h', of_b, ofB]) rfl ?_
  (try simp only [go_sem, Nat.reduceEqDiff, reduceCtorEq, Nat.reduceAdd, Nat.reduceLT, Nat.reduceLeDiff, Nat.reduceSub, resA, RV.q, finA, fin1, finL, AV.d.injEq, AV.tup.injEq, AV.agg.injEq, DV.bool.injEq, DV.int.injEq, DV.str.injEq, DV.sl.injEq, List.cons.injEq])
  (first | done | (simp_all []; done) | (simp_all []; omega) | skip)

theorem c_BinS (l : List Tbl) (t : Txt) (hl : l.length ≤ 4096) (hr : Rises l) :
    FnV Tryd.prog 30 [.d (dTbls l), sv t, .clos (.func 31) [] []] (FirstAt l t) (fun k => .tup [iv .i64 k, bv (decide (k < l.length) && (cmpT (l.getD k tbl0).name t == 0))]) := by
  refine fn_ok' r30 (sc := s30) (loud := loudF) (fn := Tryd.f30) (by kernel_rfl) k30 (by decide) mixed (Nat.le_of_ble_eq_true rfl) (by kernel_rfl) (bigN _ _) ?_
  simp only [go_sem, Nat.reduceEqDiff, reduceCtorEq, Nat.reduceAdd, Nat.reduceLT, Nat.reduceLeDiff, Nat.reduceSub, s30, r30]
  repeat' (first | (refine grdL_split ?_ ?_ <;> intro h <;> (try simp only [go_sem, Nat.reduceEqDiff, reduceCtorEq, Nat.reduceAdd, Nat.reduceLT, Nat.reduceLeDiff, Nat.reduceSub, h]) <;> (try simp only [decide_eq_true_eq, decide_eq_false_iff_not, beq_iff_eq, bne_iff_ne, ne_eq, beq_eq_false_iff_ne, bne_eq_false_iff_eq, Bool.not_eq_true, Bool.not_eq_false, Bool.or_eq_true, Bool.and_eq_true, Bool.not_eq_eq_eq_not, Bool.not_true, Bool.not_false, Int.ofNat_lt, Int.ofNat_le, gt_iff_lt, ge_iff_le, Int.ofNat_inj, Int.natCast_pos, Int.toNat_natCast, Decidable.not_not] at h)) | (refine brkL_split ?_ ?_ <;> intro h <;> (try simp only [go_sem, Nat.reduceEqDiff, reduceCtorEq, Nat.reduceAdd, Nat.reduceLT, Nat.reduceLeDiff, Nat.reduceSub, h]) <;> (try simp only [decide_eq_true_eq, decide_eq_false_iff_not, beq_iff_eq, bne_iff_ne, ne_eq, beq_eq_false_iff_ne, bne_eq_false_iff_eq, Bool.not_eq_true, Bool.not_eq_false, Bool.or_eq_true, Bool.and_eq_true, Bool.not_eq_eq_eq_not, Bool.not_true, Bool.not_false, Int.ofNat_lt, Int.ofNat_le, gt_iff_lt, ge_iff_le, Int.ofNat_inj, Int.natCast_pos, Int.toNat_natCast, Decidable.not_not] at h)) | (with_reducible refine And.intro ?_ ?_))
  all_goals (try (first | exact True.intro | with_reducible rfl | contradiction | omega | (simp only [inK, List.length_take, List.length_drop, List.length_map, List.length_modify, List.length_replicate, List.length_append, length_fillT]; omega) | exact rfl))
  refine loop_inv (fun p : Nat × Nat => p.1 ≤ p.2 ∧ p.2 ≤ l.length ∧ (∀ m, m < p.1 → Op.bytesLess (l.getD m tbl0).name t = true) ∧ ∀ m, p.2 ≤ m → m < l.length → Op.bytesLess (l.getD m tbl0).name t = false) (fun p => p.2 - p.1) (fun p => St.of [(0, .d (dTbls l)), (1, sv t), (2, .clos (.func 31) [] []), (8, iv .i64 l.length), (9, iv .i64 p.1), (10, iv .i64 p.2)] [] []) ((0, l.length)) ?_ ?_ ?_
  rotate_left
  · refine weak_of _ _ _ ?_ ?_ ?_ ?_
    · (try simp only [go_sem, Nat.reduceEqDiff, reduceCtorEq, Nat.reduceAdd, Nat.reduceLT, Nat.reduceLeDiff, Nat.reduceSub, allLe, St.H, Hp.of]); repeat' (first | exact trivial | with_reducible refine And.intro ?_ ?_ | with_reducible exact Le.d _ | exact Le.any _ | refine Le.dI ?_ | refine Le.dS ?_ | refine Le.dB ?_ | refine Le.dL ?_ | exact Le.nild _ | exact Le.nils _ | refine Le.ow ?_ ?_ | exact Le.rptr _ | (refine Le.ptr ?_; simp [ofB]; done) | refine Le.cl ?_ ?_ | apply LeA.nil | apply LeA.cons); all_goals (try (first | rfl | omega | exact (fillT_zero _ _ _).symm | exact modify_fillT _ _ _ _ rfl | (congr 1; omega) | (simp only [go_sem, Nat.reduceEqDiff, reduceCtorEq, Nat.reduceAdd, Nat.reduceLT, Nat.reduceLeDiff, Nat.reduceSub]; done) | (simp [upd_at, ofT]; done)))
    · (try simp only [go_sem, Nat.reduceEqDiff, reduceCtorEq, Nat.reduceAdd, Nat.reduceLT, Nat.reduceLeDiff, Nat.reduceSub, allLeB, St.H, Hp.of]); repeat' (first | exact trivial | with_reducible refine And.intro ?_ ?_ | (refine ⟨_, rfl, ?_⟩) | exact stb_le (by assumption) | with_reducible exact Le.d _ | exact Le.any _ | refine Le.dI ?_ | refine Le.dS ?_ | refine Le.dB ?_ | refine Le.dL ?_ | exact Le.nild _ | exact Le.nils _ | refine Le.ow ?_ ?_ | exact Le.rptr _ | apply LeA.nil | apply LeA.cons); all_goals (try (first | rfl | omega | exact (fillT_zero _ _ _).symm | exact modify_fillT _ _ _ _ rfl | (congr 1; omega) | (simp only [go_sem, Nat.reduceEqDiff, reduceCtorEq, Nat.reduceAdd, Nat.reduceLT, Nat.reduceLeDiff, Nat.reduceSub]; done) | (simp [upd_at, ofT]; done)))
    · (try simp only [go_sem, Nat.reduceEqDiff, reduceCtorEq, Nat.reduceAdd, Nat.reduceLT, Nat.reduceLeDiff, Nat.reduceSub, allT]); all_goals (first | trivial | (simp [upd_at]; done) | (simp [upd_at]; omega))
    · intro l hl h; have h' : ∀ k, k < 1000000 → l ≠ k := fun k hk => (by omega); (first | exact absurd rfl h | (simp [upd_at, h', of_b, ofB] at h; done) | exact hkM (by intro l hl; have h2 : l ≠ 0 := (by omega); have h3 : l ≠ 1000000 := (by omega); have h4 : ∀ k, k < 1000000 → l ≠ k := fun k hk => (by omega); simp [upd_at, h2, h3, h4, of_b, ofB]) (by simp [ofB]) l hl h | (simp [upd_at, ofB, h'] at h ⊢; done))
  rotate_left
  rotate_left
  · rintro ⟨i, j⟩ ⟨g1, g2, g3, g4⟩
    simp only at g1 g2 g3 g4
    have hm : IntKind.i64.wrap ((IntKind.u64.wrap ((i : Int) + (j : Int))).fdiv (2 ^ min 1 64)) = (((i + j) / 2 : Nat) : Int) := by
      rw [IntWalk.u64_in _ (by omega)]
      have : ((i : Int) + (j : Int)).fdiv (2 ^ min 1 64) = (((i + j) / 2 : Nat) : Int) := by
        rw [Int.fdiv_eq_ediv_of_nonneg _ (by decide)]
        show ((i : Int) + (j : Int)) / 2 = _
        omega
      rw [this, IntWalk.i64_in _ (by omega)]
    simp only [go_sem, Nat.reduceEqDiff, reduceCtorEq, Nat.reduceAdd, Nat.reduceLT, Nat.reduceLeDiff, Nat.reduceSub, hm]
    repeat' (first | (refine grdL_split ?_ ?_ <;> intro h <;> (try simp only [go_sem, Nat.reduceEqDiff, reduceCtorEq, Nat.reduceAdd, Nat.reduceLT, Nat.reduceLeDiff, Nat.reduceSub, h, hm]) <;> (try simp only [decide_eq_true_eq, decide_eq_false_iff_not, beq_iff_eq, bne_iff_ne, ne_eq, beq_eq_false_iff_ne, bne_eq_false_iff_eq, Bool.not_eq_true, Bool.not_eq_false, Bool.or_eq_true, Bool.and_eq_true, Bool.not_eq_eq_eq_not, Bool.not_true, Bool.not_false, Int.ofNat_lt, Int.ofNat_le, gt_iff_lt, ge_iff_le, Int.ofNat_inj, Int.natCast_pos, Int.toNat_natCast, Decidable.not_not] at h)) | (refine brkL_split ?_ ?_ <;> intro h <;> (try simp only [go_sem, Nat.reduceEqDiff, reduceCtorEq, Nat.reduceAdd, Nat.reduceLT, Nat.reduceLeDiff, Nat.reduceSub, h, hm]) <;> (try simp only [decide_eq_true_eq, decide_eq_false_iff_not, beq_iff_eq, bne_iff_ne, ne_eq, beq_eq_false_iff_ne, bne_eq_false_iff_eq, Bool.not_eq_true, Bool.not_eq_false, Bool.or_eq_true, Bool.and_eq_true, Bool.not_eq_eq_eq_not, Bool.not_true, Bool.not_false, Int.ofNat_lt, Int.ofNat_le, gt_iff_lt, ge_iff_le, Int.ofNat_inj, Int.natCast_pos, Int.toNat_natCast, Decidable.not_not] at h)) | (with_reducible refine And.intro ?_ ?_) | (refine useV (c_tableAt1 _ _) rfl rfl rfl (by first | exact .inl rfl | exact .inr rfl | (right; simp [flatA, flat1, flatL, flatD])) ?_; rotate_right; (try simp only [go_sem, Nat.reduceEqDiff, reduceCtorEq, Nat.reduceAdd, Nat.reduceLT, Nat.reduceLeDiff, Nat.reduceSub, hm])))
    all_goals (try (first | exact True.intro | with_reducible rfl | contradiction | omega | (simp only [inK, List.length_take, List.length_drop, List.length_map, List.length_modify, List.length_replicate, List.length_append, length_fillT]; omega) | exact rfl))
    · have hlt : Op.bytesLess (l.getD ((i + j) / 2) tbl0).name t = true := by
        have h := ‹cmpT (l.getD ((i + j) / 2) tbl0).name t < 0›
        unfold cmpT at h
        split at h
        · assumption
        · split at h <;> omega
      refine backQ_intro (((i + j) / 2 + 1, j)) ?_ ?_ ?_
      rotate_left
      rotate_left
      · refine weak_of _ _ _ ?_ ?_ ?_ ?_
        · (try simp only [go_sem, Nat.reduceEqDiff, reduceCtorEq, Nat.reduceAdd, Nat.reduceLT, Nat.reduceLeDiff, Nat.reduceSub, allLe, St.H, Hp.of]); repeat' (first | exact trivial | with_reducible refine And.intro ?_ ?_ | with_reducible exact Le.d _ | exact Le.any _ | refine Le.dI ?_ | refine Le.dS ?_ | refine Le.dB ?_ | refine Le.dL ?_ | exact Le.nild _ | exact Le.nils _ | refine Le.ow ?_ ?_ | exact Le.rptr _ | (refine Le.ptr ?_; simp [ofB]; done) | refine Le.cl ?_ ?_ | apply LeA.nil | apply LeA.cons); all_goals (try (first | rfl | omega | exact (fillT_zero _ _ _).symm | exact modify_fillT _ _ _ _ rfl | (congr 1; omega) | (simp only [go_sem, Nat.reduceEqDiff, reduceCtorEq, Nat.reduceAdd, Nat.reduceLT, Nat.reduceLeDiff, Nat.reduceSub]; done) | (simp [upd_at, ofT]; done)))
        · (try simp only [go_sem, Nat.reduceEqDiff, reduceCtorEq, Nat.reduceAdd, Nat.reduceLT, Nat.reduceLeDiff, Nat.reduceSub, allLeB, St.H, Hp.of]); repeat' (first | exact trivial | with_reducible refine And.intro ?_ ?_ | (refine ⟨_, rfl, ?_⟩) | exact stb_le (by assumption) | with_reducible exact Le.d _ | exact Le.any _ | refine Le.dI ?_ | refine Le.dS ?_ | refine Le.dB ?_ | refine Le.dL ?_ | exact Le.nild _ | exact Le.nils _ | refine Le.ow ?_ ?_ | exact Le.rptr _ | apply LeA.nil | apply LeA.cons); all_goals (try (first | rfl | omega | exact (fillT_zero _ _ _).symm | exact modify_fillT _ _ _ _ rfl | (congr 1; omega) | (simp only [go_sem, Nat.reduceEqDiff, reduceCtorEq, Nat.reduceAdd, Nat.reduceLT, Nat.reduceLeDiff, Nat.reduceSub]; done) | (simp [upd_at, ofT]; done)))
        · (try simp only [go_sem, Nat.reduceEqDiff, reduceCtorEq, Nat.reduceAdd, Nat.reduceLT, Nat.reduceLeDiff, Nat.reduceSub, allT]); all_goals (first | trivial | (simp [upd_at]; done) | (simp [upd_at]; omega))
        · intro l hl h; have h' : ∀ k, k < 1000000 → l ≠ k := fun k hk => (by omega); (first | exact absurd rfl h | (simp [upd_at, h', of_b, ofB] at h; done) | exact hkM (by intro l hl; have h2 : l ≠ 0 := (by omega); have h3 : l ≠ 1000000 := (by omega); have h4 : ∀ k, k < 1000000 → l ≠ k := fun k hk => (by omega); simp [upd_at, h2, h3, h4, of_b, ofB]) (by simp [ofB]) l hl h | (simp [upd_at, ofB, h'] at h ⊢; done))
      · refine ⟨by simp only; omega, g2, fun m hm' => ?_, g4⟩
        simp only at hm'
        by_cases e : m = (i + j) / 2
        · subst e; exact hlt
        · exact bl_trans _ _ _ (hr m ((i + j) / 2) (by omega) (by omega)) hlt
      · simp only; omega
    · have hlt : Op.bytesLess (l.getD ((i + j) / 2) tbl0).name t = false := by
        have h := ‹¬ cmpT (l.getD ((i + j) / 2) tbl0).name t < 0›
        unfold cmpT at h
        split at h
        · omega
        · simpa using ‹¬ Op.bytesLess (l.getD ((i + j) / 2) tbl0).name t = true›
      refine backQ_intro ((i, (i + j) / 2)) ?_ ?_ ?_
      rotate_left
      rotate_left
      · refine weak_of _ _ _ ?_ ?_ ?_ ?_
        · (try simp only [go_sem, Nat.reduceEqDiff, reduceCtorEq, Nat.reduceAdd, Nat.reduceLT, Nat.reduceLeDiff, Nat.reduceSub, allLe, St.H, Hp.of]); repeat' (first | exact trivial | with_reducible refine And.intro ?_ ?_ | with_reducible exact Le.d _ | exact Le.any _ | refine Le.dI ?_ | refine Le.dS ?_ | refine Le.dB ?_ | refine Le.dL ?_ | exact Le.nild _ | exact Le.nils _ | refine Le.ow ?_ ?_ | exact Le.rptr _ | (refine Le.ptr ?_; simp [ofB]; done) | refine Le.cl ?_ ?_ | apply LeA.nil | apply LeA.cons); all_goals (try (first | rfl | omega | exact (fillT_zero _ _ _).symm | exact modify_fillT _ _ _ _ rfl | (congr 1; omega) | (simp only [go_sem, Nat.reduceEqDiff, reduceCtorEq, Nat.reduceAdd, Nat.reduceLT, Nat.reduceLeDiff, Nat.reduceSub]; done) | (simp [upd_at, ofT]; done)))
        · (try simp only [go_sem, Nat.reduceEqDiff, reduceCtorEq, Nat.reduceAdd, Nat.reduceLT, Nat.reduceLeDiff, Nat.reduceSub, allLeB, St.H, Hp.of]); repeat' (first | exact trivial | with_reducible refine And.intro ?_ ?_ | (refine ⟨_, rfl, ?_⟩) | exact stb_le (by assumption) | with_reducible exact Le.d _ | exact Le.any _ | refine Le.dI ?_ | refine Le.dS ?_ | refine Le.dB ?_ | refine Le.dL ?_ | exact Le.nild _ | exact Le.nils _ | refine Le.ow ?_ ?_ | exact Le.rptr _ | apply LeA.nil | apply LeA.cons); all_goals (try (first | rfl | omega | exact (fillT_zero _ _ _).symm | exact modify_fillT _ _ _ _ rfl | (congr 1; omega) | (simp only [go_sem, Nat.reduceEqDiff, reduceCtorEq, Nat.reduceAdd, Nat.reduceLT, Nat.reduceLeDiff, Nat.reduceSub]; done) | (simp [upd_at, ofT]; done)))
        · (try simp only [go_sem, Nat.reduceEqDiff, reduceCtorEq, Nat.reduceAdd, Nat.reduceLT, Nat.reduceLeDiff, Nat.reduceSub, allT]); all_goals (first | trivial | (simp [upd_at]; done) | (simp [upd_at]; omega))
        · intro l hl h; have h' : ∀ k, k < 1000000 → l ≠ k := fun k hk => (by omega); (first | exact absurd rfl h | (simp [upd_at, h', of_b, ofB] at h; done) | exact hkM (by intro l hl; have h2 : l ≠ 0 := (by omega); have h3 : l ≠ 1000000 := (by omega); have h4 : ∀ k, k < 1000000 → l ≠ k := fun k hk => (by omega); simp [upd_at, h2, h3, h4, of_b, ofB]) (by simp [ofB]) l hl h | (simp [upd_at, ofB, h'] at h ⊢; done))
      · refine ⟨by simp only; omega, by simp only; omega, g3, fun m hm' hm2 => ?_⟩
        simp only at hm'
        by_cases e : m = (i + j) / 2
        · subst e; exact hlt
        · cases hb : Op.bytesLess (l.getD m tbl0).name t with
          | false => rfl
          | true =>
            have := bl_trans _ _ _ (hr ((i + j) / 2) m (by omega) hm2) hb
            rw [hlt] at this; cases this
      · simp only; omega
    · have e : i = j := by omega
      subst e
      refine endX ⟨.tup [iv .i64 i, bv (decide (i < l.length) && (cmpT (l.getD i tbl0).name t == 0))], none, none, none⟩ ⟨i, ⟨g2, g3, g4⟩, rfl⟩ ?_
      refine endV (by simp only [go_sem, Nat.reduceEqDiff, reduceCtorEq, Nat.reduceAdd, Nat.reduceLT, Nat.reduceLeDiff, Nat.reduceSub, resP, RV.q]) (by intro l hl; have h' : ∀ k, k < 1000000 → l ≠ k := fun k hk => (by omega); simp [upd_at, h', of_b, ofB]) rfl ?_
      (try simp only [go_sem, Nat.reduceEqDiff, reduceCtorEq, Nat.reduceAdd, Nat.reduceLT, Nat.reduceLeDiff, Nat.reduceSub, resA, RV.q, finA, fin1, finL, AV.d.injEq, AV.tup.injEq, AV.agg.injEq, DV.bool.injEq, DV.int.injEq, DV.str.injEq, DV.sl.injEq, List.cons.injEq])
      (first | done | (simp_all []; done) | (simp_all []; omega) | skip)
    · have e : i = j := by omega
      subst e
      refine endX ⟨.tup [iv .i64 i, bv (decide (i < l.length) && (cmpT (l.getD i tbl0).name t == 0))], none, none, none⟩ ⟨i, ⟨g2, g3, g4⟩, rfl⟩ ?_
      refine endV (by simp only [go_sem, Nat.reduceEqDiff, reduceCtorEq, Nat.reduceAdd, Nat.reduceLT, Nat.reduceLeDiff, Nat.reduceSub, resP, RV.q]) (by intro l hl; have h' : ∀ k, k < 1000000 → l ≠ k := fun k hk => (by omega); simp [upd_at, h', of_b, ofB]) rfl ?_
      (try simp only [go_sem, Nat.reduceEqDiff, reduceCtorEq, Nat.reduceAdd, Nat.reduceLT, Nat.reduceLeDiff, Nat.reduceSub, resA, RV.q, finA, fin1, finL, AV.d.injEq, AV.tup.injEq, AV.agg.injEq, DV.bool.injEq, DV.int.injEq, DV.str.injEq, DV.sl.injEq, List.cons.injEq])
      (first | done | (simp_all []; done) | (simp_all []; omega) | skip)
  · exact ⟨by simp, by simp, by simp, by simp only; omega⟩
theorem c_tableAt (l : List Tbl) (t : Txt) (hl : l.length ≤ 4096) (hr : Rises l) :
    FnV Tryd.prog 19 [.d (dTbls l), sv t] (FirstAt l t) (fun k => .tup [iv .i64 k, bv (decide (k < l.length) && (cmpT (l.getD k tbl0).name t == 0))]) := by
  refine fn_ok' r19 (sc := s19) (loud := loudF) (fn := Tryd.f19) (by kernel_rfl) k19 (by decide) mixed (Nat.le_of_ble_eq_true rfl) (by kernel_rfl) (bigN _ _) ?_
  simp only [go_sem, Nat.reduceEqDiff, reduceCtorEq, Nat.reduceAdd, Nat.reduceLT, Nat.reduceLeDiff, Nat.reduceSub, s19, r19]
  repeat' (first | (refine grdL_split ?_ ?_ <;> intro h <;> (try simp only [go_sem, Nat.reduceEqDiff, reduceCtorEq, Nat.reduceAdd, Nat.reduceLT, Nat.reduceLeDiff, Nat.reduceSub, h]) <;> (try simp only [decide_eq_true_eq, decide_eq_false_iff_not, beq_iff_eq, bne_iff_ne, ne_eq, beq_eq_false_iff_ne, bne_eq_false_iff_eq, Bool.not_eq_true, Bool.not_eq_false, Bool.or_eq_true, Bool.and_eq_true, Bool.not_eq_eq_eq_not, Bool.not_true, Bool.not_false, Int.ofNat_lt, Int.ofNat_le, gt_iff_lt, ge_iff_le, Int.ofNat_inj, Int.natCast_pos, Int.toNat_natCast, Decidable.not_not] at h)) | (refine brkL_split ?_ ?_ <;> intro h <;> (try simp only [go_sem, Nat.reduceEqDiff, reduceCtorEq, Nat.reduceAdd, Nat.reduceLT, Nat.reduceLeDiff, Nat.reduceSub, h]) <;> (try simp only [decide_eq_true_eq, decide_eq_false_iff_not, beq_iff_eq, bne_iff_ne, ne_eq, beq_eq_false_iff_ne, bne_eq_false_iff_eq, Bool.not_eq_true, Bool.not_eq_false, Bool.or_eq_true, Bool.and_eq_true, Bool.not_eq_eq_eq_not, Bool.not_true, Bool.not_false, Int.ofNat_lt, Int.ofNat_le, gt_iff_lt, ge_iff_le, Int.ofNat_inj, Int.natCast_pos, Int.toNat_natCast, Decidable.not_not] at h)) | (with_reducible refine And.intro ?_ ?_) | (refine useVX (c_BinS _ _ ?_ ?_) rfl rfl (fun _ _ => rfl) (by first | exact .inl rfl | exact .inr (fun _ _ => rfl)) ?_; rotate_right; rintro x hx; (try simp only [go_sem, Nat.reduceEqDiff, reduceCtorEq, Nat.reduceAdd, Nat.reduceLT, Nat.reduceLeDiff, Nat.reduceSub])))
  all_goals (try (first | exact True.intro | with_reducible rfl | contradiction | omega | (simp only [inK, List.length_take, List.length_drop, List.length_map, List.length_modify, List.length_replicate, List.length_append, length_fillT]; omega) | exact rfl))
  refine endVX _ (by simp only [go_sem, Nat.reduceEqDiff, reduceCtorEq, Nat.reduceAdd, Nat.reduceLT, Nat.reduceLeDiff, Nat.reduceSub, resP, RV.q]) (by intro l hl; have h' : ∀ k, k < 1000000 → l ≠ k := fun k hk => (by omega); simp [upd_at, h', of_b, ofB]) rfl rfl ?_
  exact hx
end Go.Proofs.YtchmoleeajkioaaDoor.V
