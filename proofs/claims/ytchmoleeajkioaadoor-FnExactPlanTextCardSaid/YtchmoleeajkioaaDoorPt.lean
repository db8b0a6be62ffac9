/-
  Plans: their type, the laws' helpers for them, texts of bytes.
-/
-- FOR: plantext
import Derived.Test.YtchmoleeajkioaaDoorPn
import Derived.Test.YtchmoleeajkioaaDoorSc
namespace Go.Proofs.YtchmoleeajkioaaDoor.V
open Go Go.RowKit
set_option linter.unusedSimpArgs false
set_option linter.unusedVariables false
noncomputable section
set_option maxRecDepth 100000

structure Pln where
  table : Txt
  index : Int
  lo : Txt
  hi : Txt
  limit : Int
  deriving Inhabited
def encPln (x : Pln) : List DV := [.str x.table, .int .i64 x.index, .str x.lo, .str x.hi, .int .i64 x.limit]
def aPln (x : Pln) : AV := .agg [.d (.str x.table), .d (.int .i64 x.index), .d (.str x.lo), .d (.str x.hi), .d (.int .i64 x.limit)]
attribute [go_sem] aPln
def FitPln (x : Pln) : Prop := x.table.length ≤ 140737488355328 ∧ x.lo.length ≤ 140737488355328 ∧ x.hi.length ≤ 140737488355328
def SmPln (x : Pln) : Prop := x.table.length ≤ 1048576 ∧ x.lo.length ≤ 1048576 ∧ x.hi.length ≤ 1048576

theorem c_szPln (x : Pln) (left : Int) (h0 : 0 ≤ left) (h1 : left ≤ 1048576) (hf : FitPln x) : FnV Tryd.prog 4 [aPln x, iv .i64 left] (SzOk left (SmPln x)) (fun r => iv .i64 r) := by
  simp only [FitPln] at hf
  refine fn_ok' r4 (sc := s4) (loud := loudF) (fn := Tryd.f4) (by kernel_rfl) k4 (by decide) mixed (Nat.le_of_ble_eq_true rfl) (by kernel_rfl) (bigN _ _) ?_
  simp only [go_sem, Nat.reduceEqDiff, reduceCtorEq, Nat.reduceAdd, Nat.reduceLT, Nat.reduceLeDiff, Nat.reduceSub, s4, r4]
  repeat' (first | (refine grdL_split ?_ ?_ <;> intro h <;> (try simp only [go_sem, Nat.reduceEqDiff, reduceCtorEq, Nat.reduceAdd, Nat.reduceLT, Nat.reduceLeDiff, Nat.reduceSub, h]) <;> (try simp only [decide_eq_true_eq, decide_eq_false_iff_not, beq_iff_eq, bne_iff_ne, ne_eq, beq_eq_false_iff_ne, bne_eq_false_iff_eq, Bool.not_eq_true, Bool.not_eq_false, Bool.or_eq_true, Bool.and_eq_true, Bool.not_eq_eq_eq_not, Bool.not_true, Bool.not_false, Int.ofNat_lt, Int.ofNat_le, gt_iff_lt, ge_iff_le, Int.ofNat_inj, Int.natCast_pos, Int.toNat_natCast, Decidable.not_not] at h)) | (refine brkL_split ?_ ?_ <;> intro h <;> (try simp only [go_sem, Nat.reduceEqDiff, reduceCtorEq, Nat.reduceAdd, Nat.reduceLT, Nat.reduceLeDiff, Nat.reduceSub, h]) <;> (try simp only [decide_eq_true_eq, decide_eq_false_iff_not, beq_iff_eq, bne_iff_ne, ne_eq, beq_eq_false_iff_ne, bne_eq_false_iff_eq, Bool.not_eq_true, Bool.not_eq_false, Bool.or_eq_true, Bool.and_eq_true, Bool.not_eq_eq_eq_not, Bool.not_true, Bool.not_false, Int.ofNat_lt, Int.ofNat_le, gt_iff_lt, ge_iff_le, Int.ofNat_inj, Int.natCast_pos, Int.toNat_natCast, Decidable.not_not] at h)) | (with_reducible refine And.intro ?_ ?_))
  all_goals (try (first | exact True.intro | with_reducible rfl | contradiction | omega | (simp only [inK, List.length_take, List.length_drop, List.length_map, List.length_modify, List.length_replicate, List.length_append, length_fillT]; omega) | exact rfl))
  all_goals (try (first | exact hf.1 | exact hf.2 | exact hf.2.1 | exact hf.2.2 | exact hf.2.1.1 | exact hf.2.1.2 | exact hf.2.2.1 | exact hf.2.2.2 | exact hf.2.2.1.1 | exact hf.2.2.1.2))
  all_goals (try (simp only [SzOk] at *; omega))
  all_goals
    refine endVX _ (by simp only [go_sem, Nat.reduceEqDiff, reduceCtorEq, Nat.reduceAdd, Nat.reduceLT, Nat.reduceLeDiff, Nat.reduceSub, resP, RV.q]) (by intro l hl; have h' : ∀ k, k < 1000000 → l ≠ k := fun k hk => (by omega); simp [upd_at, h', of_b, ofB]) rfl rfl ?_
    simp only [SzOk, SmPln] at *
    (first | (left; omega) | (right; simp_all; omega) | (right; simp_all; done))
theorem c_toPln (x : Pln) (hs : SmPln x) : Fn Tryd.prog 7 [aPln x] none (aPln x) none none none := by
  simp only [SmPln] at hs
  refine fn_ok' r7 (sc := s7) (loud := loudF) (fn := Tryd.f7) (by kernel_rfl) k7 (by decide) mixed (Nat.le_of_ble_eq_true rfl) (by kernel_rfl) (bigN _ _) ?_
  simp only [go_sem, Nat.reduceEqDiff, reduceCtorEq, Nat.reduceAdd, Nat.reduceLT, Nat.reduceLeDiff, Nat.reduceSub, s7, r7]
  repeat' (first | (refine grdL_split ?_ ?_ <;> intro h <;> (try simp only [go_sem, Nat.reduceEqDiff, reduceCtorEq, Nat.reduceAdd, Nat.reduceLT, Nat.reduceLeDiff, Nat.reduceSub, h]) <;> (try simp only [decide_eq_true_eq, decide_eq_false_iff_not, beq_iff_eq, bne_iff_ne, ne_eq, beq_eq_false_iff_ne, bne_eq_false_iff_eq, Bool.not_eq_true, Bool.not_eq_false, Bool.or_eq_true, Bool.and_eq_true, Bool.not_eq_eq_eq_not, Bool.not_true, Bool.not_false, Int.ofNat_lt, Int.ofNat_le, gt_iff_lt, ge_iff_le, Int.ofNat_inj, Int.natCast_pos, Int.toNat_natCast, Decidable.not_not] at h)) | (refine brkL_split ?_ ?_ <;> intro h <;> (try simp only [go_sem, Nat.reduceEqDiff, reduceCtorEq, Nat.reduceAdd, Nat.reduceLT, Nat.reduceLeDiff, Nat.reduceSub, h]) <;> (try simp only [decide_eq_true_eq, decide_eq_false_iff_not, beq_iff_eq, bne_iff_ne, ne_eq, beq_eq_false_iff_ne, bne_eq_false_iff_eq, Bool.not_eq_true, Bool.not_eq_false, Bool.or_eq_true, Bool.and_eq_true, Bool.not_eq_eq_eq_not, Bool.not_true, Bool.not_false, Int.ofNat_lt, Int.ofNat_le, gt_iff_lt, ge_iff_le, Int.ofNat_inj, Int.natCast_pos, Int.toNat_natCast, Decidable.not_not] at h)) | (with_reducible refine And.intro ?_ ?_))
  all_goals (try (first | exact True.intro | with_reducible rfl | contradiction | omega | (simp only [inK, List.length_take, List.length_drop, List.length_map, List.length_modify, List.length_replicate, List.length_append, length_fillT]; omega) | exact rfl))
  all_goals (try (first | exact hs.1 | exact hs.2 | exact hs.2.1 | exact hs.2.2 | exact hs.2.1.1 | exact hs.2.1.2 | exact hs.2.2.1 | exact hs.2.2.2 | exact hs.2.2.1.1 | exact hs.2.2.1.2))
  all_goals
    refine endV (by simp only [go_sem, Nat.reduceEqDiff, reduceCtorEq, Nat.reduceAdd, Nat.reduceLT, Nat.reduceLeDiff, Nat.reduceSub, resP, RV.q]) (by intro l hl; have h' : ∀ k, k < 1000000 → l ≠ k := fun k hk => (by omega); simp [upd_at, h', of_b, ofB]) rfl ?_
    (try simp only [go_sem, Nat.reduceEqDiff, reduceCtorEq, Nat.reduceAdd, Nat.reduceLT, Nat.reduceLeDiff, Nat.reduceSub, resA, RV.q, finA, fin1, finL, AV.d.injEq, AV.tup.injEq, AV.agg.injEq, DV.bool.injEq, DV.int.injEq, DV.str.injEq, DV.sl.injEq, List.cons.injEq])
    (first | done | (simp_all []; done) | (simp_all []; omega) | skip)


/-- A byte's two digits. -/
def hexDigits : Txt := [48, 49, 50, 51, 52, 53, 54, 55, 56, 57, 97, 98, 99, 100, 101, 102]
def hexB (b : UInt8) : Txt := [hexDigits.getD (b.toNat / 16) 0, hexDigits.getD (b.toNat % 16) 0]
def hexT (s : Txt) : Txt := s.flatMap hexB
theorem hexT_succ {s : Txt} {i : Nat} (h : i < s.length) : hexT (s.take (i + 1)) = hexT (s.take i) ++ hexB (s.getD i 0) := by
  rw [hexT, List.take_succ_eq_append_getElem h, List.flatMap_append, List.getD, List.getElem?_eq_getElem h]
  simp [hexT]
theorem hexT_len (s : Txt) : (hexT s).length = 2 * s.length := by
  induction s with
  | nil => rfl
  | cons b s ih =>
    simp only [hexT, List.flatMap_cons, List.length_append, List.length_cons] at ih ⊢
    simp only [hexB, List.length_cons, List.length_nil]
    omega

theorem byteAll {p : Nat → Bool} (h : (List.range 256).all p = true) (b : UInt8) : p b.toNat = true := List.all_eq_true.1 h _ (List.mem_range.2 b.toNat_lt)
theorem nib1 (b : UInt8) : IntKind.u8.wrap ((b.toNat : Int).tdiv 16) = ((b.toNat / 16 : Nat) : Int) := by
  have := byteAll (p := fun n => decide (IntKind.u8.wrap ((n : Int).tdiv 16) = ((n / 16 : Nat) : Int))) (by kernel_rfl) b
  simpa using this
theorem nib2 (b : UInt8) : (b.toNat : Int).tmod 16 = ((b.toNat % 16 : Nat) : Int) := by
  have := byteAll (p := fun n => decide ((n : Int).tmod 16 = ((n % 16 : Nat) : Int))) (by kernel_rfl) b
  simpa using this
theorem nib3 (b : UInt8) : (b.toNat : Int).fdiv (2 ^ min (Int.toNat 4) 8) = ((b.toNat / 16 : Nat) : Int) := by
  have := byteAll (p := fun n => decide ((n : Int).fdiv (2 ^ min (Int.toNat 4) 8) = ((n / 16 : Nat) : Int))) (by kernel_rfl) b
  simpa using this
theorem nib4 (b : UInt8) : bitsI .and .u8 (b.toNat : Int) 15 = ((b.toNat % 16 : Nat) : Int) := by
  have := byteAll (p := fun n => decide (bitsI .and .u8 (n : Int) 15 = ((n % 16 : Nat) : Int))) (by kernel_rfl) b
  exact of_decide_eq_true this
theorem nibLt (b : UInt8) : b.toNat / 16 < 16 := by have := b.toNat_lt; omega
theorem isByte_map (s : Txt) : (s.map encB).all isByte = true := by
  simp only [List.all_eq_true, List.mem_map]
  rintro x ⟨b, _, rfl⟩
  have := b.toNat_lt
  simp [encB, isByte]
theorem byteOf_map (s : Txt) : (s.map encB).map byteOf = s := by
  rw [List.map_map]
  refine (List.map_congr_left fun b _ => ?_).trans (List.map_id _)
  simp [encB, byteOf]
theorem c_sHex (s : Txt) (hs : s.length ≤ 1048576) : Fn Tryd.prog 14 [sv s] none (sv (hexT s)) none none none := by
  refine fn_ok' r14 (sc := s14) (loud := loudF) (fn := Tryd.f14) (by kernel_rfl) k14 (by decide) mixed (Nat.le_of_ble_eq_true rfl) (by kernel_rfl) (bigN _ _) ?_
  simp only [go_sem, Nat.reduceEqDiff, reduceCtorEq, Nat.reduceAdd, Nat.reduceLT, Nat.reduceLeDiff, Nat.reduceSub, s14, r14]
  repeat' (first | (refine grdL_split ?_ ?_ <;> intro h <;> (try simp only [go_sem, Nat.reduceEqDiff, reduceCtorEq, Nat.reduceAdd, Nat.reduceLT, Nat.reduceLeDiff, Nat.reduceSub, h]) <;> (try simp only [decide_eq_true_eq, decide_eq_false_iff_not, beq_iff_eq, bne_iff_ne, ne_eq, beq_eq_false_iff_ne, bne_eq_false_iff_eq, Bool.not_eq_true, Bool.not_eq_false, Bool.or_eq_true, Bool.and_eq_true, Bool.not_eq_eq_eq_not, Bool.not_true, Bool.not_false, Int.ofNat_lt, Int.ofNat_le, gt_iff_lt, ge_iff_le, Int.ofNat_inj, Int.natCast_pos, Int.toNat_natCast, Decidable.not_not] at h)) | (refine brkL_split ?_ ?_ <;> intro h <;> (try simp only [go_sem, Nat.reduceEqDiff, reduceCtorEq, Nat.reduceAdd, Nat.reduceLT, Nat.reduceLeDiff, Nat.reduceSub, h]) <;> (try simp only [decide_eq_true_eq, decide_eq_false_iff_not, beq_iff_eq, bne_iff_ne, ne_eq, beq_eq_false_iff_ne, bne_eq_false_iff_eq, Bool.not_eq_true, Bool.not_eq_false, Bool.or_eq_true, Bool.and_eq_true, Bool.not_eq_eq_eq_not, Bool.not_true, Bool.not_false, Int.ofNat_lt, Int.ofNat_le, gt_iff_lt, ge_iff_le, Int.ofNat_inj, Int.natCast_pos, Int.toNat_natCast, Decidable.not_not] at h)) | (with_reducible refine And.intro ?_ ?_))
  all_goals (try (first | exact True.intro | with_reducible rfl | contradiction | omega | (simp only [inK, List.length_take, List.length_drop, List.length_map, List.length_modify, List.length_replicate, List.length_append, length_fillT]; omega) | exact rfl))
  refine loop_inv (fun i : Nat => i ≤ s.length) (fun i => s.length - i) (fun i => St.of [(0, sv s), (3, .own 5 1 0 ((hexT (s.take i)).map encB)), (4, iv .i64 i)] [] [(5, (1, (hexT (s.take i)).length))]) (0) ?_ ?_ ?_
  rotate_left
  · refine weak_of _ _ _ ?_ ?_ ?_ ?_
    · (try simp only [go_sem, Nat.reduceEqDiff, reduceCtorEq, Nat.reduceAdd, Nat.reduceLT, Nat.reduceLeDiff, Nat.reduceSub, allLe, St.H, Hp.of]); repeat' (first | exact trivial | with_reducible refine And.intro ?_ ?_ | with_reducible exact Le.d _ | exact Le.any _ | refine Le.dI ?_ | refine Le.dS ?_ | refine Le.dB ?_ | refine Le.dL ?_ | exact Le.nild _ | exact Le.nils _ | refine Le.ow ?_ ?_ | exact Le.rptr _ | (refine Le.ptr ?_; simp [ofB]; done) | refine Le.cl ?_ ?_ | apply LeA.nil | apply LeA.cons); all_goals (try (first | rfl | omega | exact (fillT_zero _ _ _).symm | exact modify_fillT _ _ _ _ rfl | (congr 1; omega) | (simp only [go_sem, Nat.reduceEqDiff, reduceCtorEq, Nat.reduceAdd, Nat.reduceLT, Nat.reduceLeDiff, Nat.reduceSub]; done) | (simp [upd_at, ofT]; done)))
    · (try simp only [go_sem, Nat.reduceEqDiff, reduceCtorEq, Nat.reduceAdd, Nat.reduceLT, Nat.reduceLeDiff, Nat.reduceSub, allLeB, St.H, Hp.of]); repeat' (first | exact trivial | with_reducible refine And.intro ?_ ?_ | (refine ⟨_, rfl, ?_⟩) | exact stb_le (by assumption) | with_reducible exact Le.d _ | exact Le.any _ | refine Le.dI ?_ | refine Le.dS ?_ | refine Le.dB ?_ | refine Le.dL ?_ | exact Le.nild _ | exact Le.nils _ | refine Le.ow ?_ ?_ | exact Le.rptr _ | apply LeA.nil | apply LeA.cons); all_goals (try (first | rfl | omega | exact (fillT_zero _ _ _).symm | exact modify_fillT _ _ _ _ rfl | (congr 1; omega) | (simp only [go_sem, Nat.reduceEqDiff, reduceCtorEq, Nat.reduceAdd, Nat.reduceLT, Nat.reduceLeDiff, Nat.reduceSub]; done) | (simp [upd_at, ofT]; done)))
    · (try simp only [go_sem, Nat.reduceEqDiff, reduceCtorEq, Nat.reduceAdd, Nat.reduceLT, Nat.reduceLeDiff, Nat.reduceSub, allT]); all_goals (first | trivial | (simp [upd_at]; done) | (simp [upd_at]; omega))
    · intro l hl h; have h' : ∀ k, k < 1000000 → l ≠ k := fun k hk => (by omega); (first | exact absurd rfl h | (simp [upd_at, h', of_b, ofB] at h; done) | exact hkM (by intro l hl; have h2 : l ≠ 0 := (by omega); have h3 : l ≠ 1000000 := (by omega); have h4 : ∀ k, k < 1000000 → l ≠ k := fun k hk => (by omega); simp [upd_at, h2, h3, h4, of_b, ofB]) (by simp [ofB]) l hl h | (simp [upd_at, ofB, h'] at h ⊢; done))
  rotate_left
  rotate_left
  · rintro i g1
    simp only [go_sem, Nat.reduceEqDiff, reduceCtorEq, Nat.reduceAdd, Nat.reduceLT, Nat.reduceLeDiff, Nat.reduceSub, nib1, nib2]
    repeat' (first | (refine grdL_split ?_ ?_ <;> intro h <;> (try simp only [go_sem, Nat.reduceEqDiff, reduceCtorEq, Nat.reduceAdd, Nat.reduceLT, Nat.reduceLeDiff, Nat.reduceSub, h, nib1, nib2]) <;> (try simp only [decide_eq_true_eq, decide_eq_false_iff_not, beq_iff_eq, bne_iff_ne, ne_eq, beq_eq_false_iff_ne, bne_eq_false_iff_eq, Bool.not_eq_true, Bool.not_eq_false, Bool.or_eq_true, Bool.and_eq_true, Bool.not_eq_eq_eq_not, Bool.not_true, Bool.not_false, Int.ofNat_lt, Int.ofNat_le, gt_iff_lt, ge_iff_le, Int.ofNat_inj, Int.natCast_pos, Int.toNat_natCast, Decidable.not_not] at h)) | (refine brkL_split ?_ ?_ <;> intro h <;> (try simp only [go_sem, Nat.reduceEqDiff, reduceCtorEq, Nat.reduceAdd, Nat.reduceLT, Nat.reduceLeDiff, Nat.reduceSub, h, nib1, nib2]) <;> (try simp only [decide_eq_true_eq, decide_eq_false_iff_not, beq_iff_eq, bne_iff_ne, ne_eq, beq_eq_false_iff_ne, bne_eq_false_iff_eq, Bool.not_eq_true, Bool.not_eq_false, Bool.or_eq_true, Bool.and_eq_true, Bool.not_eq_eq_eq_not, Bool.not_true, Bool.not_false, Int.ofNat_lt, Int.ofNat_le, gt_iff_lt, ge_iff_le, Int.ofNat_inj, Int.natCast_pos, Int.toNat_natCast, Decidable.not_not] at h)) | (with_reducible refine And.intro ?_ ?_))
    all_goals (try (first | exact True.intro | with_reducible rfl | contradiction | omega | (simp only [inK, List.length_take, List.length_drop, List.length_map, List.length_modify, List.length_replicate, List.length_append, length_fillT]; omega) | exact rfl))
    all_goals (try (have hn := nibLt (s.getD i 0); omega))
    all_goals (try (have hn := hexT_len (s.take i); simp only [List.length_take] at hn; omega))
    · have e2 : (hexT (s.take (i + 1))).length = (hexT (s.take i)).length + 2 := by rw [hexT_succ ‹_›]; simp [hexB]
      refine backQ_intro (i + 1) ?_ ?_ ?_
      rotate_left
      rotate_left
      · refine weak_of _ _ _ ?_ ?_ ?_ ?_
        · (try simp only [go_sem, Nat.reduceEqDiff, reduceCtorEq, Nat.reduceAdd, Nat.reduceLT, Nat.reduceLeDiff, Nat.reduceSub, allLe, St.H, Hp.of]); repeat' (first | exact trivial | with_reducible refine And.intro ?_ ?_ | with_reducible exact Le.d _ | exact Le.any _ | refine Le.dI ?_ | refine Le.dS ?_ | refine Le.dB ?_ | refine Le.dL ?_ | exact Le.nild _ | exact Le.nils _ | refine Le.ow ?_ ?_ | exact Le.rptr _ | (refine Le.ptr ?_; simp [ofB]; done) | refine Le.cl ?_ ?_ | apply LeA.nil | apply LeA.cons); all_goals (try (first | rfl | omega | first | (simp [-List.getD_eq_getElem?_getD, hexT_succ, hexB, hexDigits, encB, *]; done) | (simp [upd_at, ofT, e2]; done) | exact (fillT_zero _ _ _).symm | exact modify_fillT _ _ _ _ rfl | (congr 1; omega) | (simp only [go_sem, Nat.reduceEqDiff, reduceCtorEq, Nat.reduceAdd, Nat.reduceLT, Nat.reduceLeDiff, Nat.reduceSub]; done) | (simp [upd_at, ofT]; done)))
        · (try simp only [go_sem, Nat.reduceEqDiff, reduceCtorEq, Nat.reduceAdd, Nat.reduceLT, Nat.reduceLeDiff, Nat.reduceSub, allLeB, St.H, Hp.of]); repeat' (first | exact trivial | with_reducible refine And.intro ?_ ?_ | (refine ⟨_, rfl, ?_⟩) | exact stb_le (by assumption) | with_reducible exact Le.d _ | exact Le.any _ | refine Le.dI ?_ | refine Le.dS ?_ | refine Le.dB ?_ | refine Le.dL ?_ | exact Le.nild _ | exact Le.nils _ | refine Le.ow ?_ ?_ | exact Le.rptr _ | apply LeA.nil | apply LeA.cons); all_goals (try (first | rfl | omega | first | (simp [-List.getD_eq_getElem?_getD, hexT_succ, hexB, hexDigits, encB, *]; done) | (simp [upd_at, ofT, e2]; done) | exact (fillT_zero _ _ _).symm | exact modify_fillT _ _ _ _ rfl | (congr 1; omega) | (simp only [go_sem, Nat.reduceEqDiff, reduceCtorEq, Nat.reduceAdd, Nat.reduceLT, Nat.reduceLeDiff, Nat.reduceSub]; done) | (simp [upd_at, ofT]; done)))
        · (try simp only [go_sem, Nat.reduceEqDiff, reduceCtorEq, Nat.reduceAdd, Nat.reduceLT, Nat.reduceLeDiff, Nat.reduceSub, allT]); all_goals (first | trivial | (simp [upd_at]; done) | (simp [upd_at]; omega))
        · intro l hl h; have h' : ∀ k, k < 1000000 → l ≠ k := fun k hk => (by omega); (first | exact absurd rfl h | (simp [upd_at, h', of_b, ofB] at h; done) | exact hkM (by intro l hl; have h2 : l ≠ 0 := (by omega); have h3 : l ≠ 1000000 := (by omega); have h4 : ∀ k, k < 1000000 → l ≠ k := fun k hk => (by omega); simp [upd_at, h2, h3, h4, of_b, ofB]) (by simp [ofB]) l hl h | (simp [upd_at, ofB, h'] at h ⊢; done))
      · omega
      · omega
    · exact isByte_map _
    · refine endV (by simp only [go_sem, Nat.reduceEqDiff, reduceCtorEq, Nat.reduceAdd, Nat.reduceLT, Nat.reduceLeDiff, Nat.reduceSub, resP, RV.q]) (by intro l hl; have h' : ∀ k, k < 1000000 → l ≠ k := fun k hk => (by omega); simp [upd_at, h', of_b, ofB]) rfl ?_
      (try simp only [go_sem, Nat.reduceEqDiff, reduceCtorEq, Nat.reduceAdd, Nat.reduceLT, Nat.reduceLeDiff, Nat.reduceSub, resA, RV.q, finA, fin1, finL, AV.d.injEq, AV.tup.injEq, AV.agg.injEq, DV.bool.injEq, DV.int.injEq, DV.str.injEq, DV.sl.injEq, List.cons.injEq])
      (first | done | (simp_all []; done) | (simp_all []; omega) | skip)
      rw [byteOf_map, List.take_of_length_le (by omega)]
  · omega
theorem c_iHex (s : Txt) (hs : s.length ≤ 1048576) : Fn Tryd.prog 20 [sv s] none (sv (hexT s)) none none none := by
  refine fn_ok' r20 (sc := s20) (loud := loudF) (fn := Tryd.f20) (by kernel_rfl) k20 (by decide) mixed (Nat.le_of_ble_eq_true rfl) (by kernel_rfl) (bigN _ _) ?_
  simp only [go_sem, Nat.reduceEqDiff, reduceCtorEq, Nat.reduceAdd, Nat.reduceLT, Nat.reduceLeDiff, Nat.reduceSub, s20, r20]
  repeat' (first | (refine grdL_split ?_ ?_ <;> intro h <;> (try simp only [go_sem, Nat.reduceEqDiff, reduceCtorEq, Nat.reduceAdd, Nat.reduceLT, Nat.reduceLeDiff, Nat.reduceSub, h]) <;> (try simp only [decide_eq_true_eq, decide_eq_false_iff_not, beq_iff_eq, bne_iff_ne, ne_eq, beq_eq_false_iff_ne, bne_eq_false_iff_eq, Bool.not_eq_true, Bool.not_eq_false, Bool.or_eq_true, Bool.and_eq_true, Bool.not_eq_eq_eq_not, Bool.not_true, Bool.not_false, Int.ofNat_lt, Int.ofNat_le, gt_iff_lt, ge_iff_le, Int.ofNat_inj, Int.natCast_pos, Int.toNat_natCast, Decidable.not_not] at h)) | (refine brkL_split ?_ ?_ <;> intro h <;> (try simp only [go_sem, Nat.reduceEqDiff, reduceCtorEq, Nat.reduceAdd, Nat.reduceLT, Nat.reduceLeDiff, Nat.reduceSub, h]) <;> (try simp only [decide_eq_true_eq, decide_eq_false_iff_not, beq_iff_eq, bne_iff_ne, ne_eq, beq_eq_false_iff_ne, bne_eq_false_iff_eq, Bool.not_eq_true, Bool.not_eq_false, Bool.or_eq_true, Bool.and_eq_true, Bool.not_eq_eq_eq_not, Bool.not_true, Bool.not_false, Int.ofNat_lt, Int.ofNat_le, gt_iff_lt, ge_iff_le, Int.ofNat_inj, Int.natCast_pos, Int.toNat_natCast, Decidable.not_not] at h)) | (with_reducible refine And.intro ?_ ?_))
  all_goals (try (first | exact True.intro | with_reducible rfl | contradiction | omega | (simp only [inK, List.length_take, List.length_drop, List.length_map, List.length_modify, List.length_replicate, List.length_append, length_fillT]; omega) | exact rfl))
  · refine loop_inv (fun i : Nat => i ≤ s.length) (fun i => s.length - i) (fun i => St.of [(0, sv s), (3, .own 8 1 0 ((hexT (s.take i)).map encB)), (10, iv .i64 s.length), (11, iv .i64 i)] [] [(8, (1, (hexT (s.take i)).length))]) (0) ?_ ?_ ?_
    rotate_left
    · refine weak_of _ _ _ ?_ ?_ ?_ ?_
      · (try simp only [go_sem, Nat.reduceEqDiff, reduceCtorEq, Nat.reduceAdd, Nat.reduceLT, Nat.reduceLeDiff, Nat.reduceSub, allLe, St.H, Hp.of]); repeat' (first | exact trivial | with_reducible refine And.intro ?_ ?_ | with_reducible exact Le.d _ | exact Le.any _ | refine Le.dI ?_ | refine Le.dS ?_ | refine Le.dB ?_ | refine Le.dL ?_ | exact Le.nild _ | exact Le.nils _ | refine Le.ow ?_ ?_ | exact Le.rptr _ | (refine Le.ptr ?_; simp [ofB]; done) | refine Le.cl ?_ ?_ | apply LeA.nil | apply LeA.cons); all_goals (try (first | rfl | omega | exact (fillT_zero _ _ _).symm | exact modify_fillT _ _ _ _ rfl | (congr 1; omega) | (simp only [go_sem, Nat.reduceEqDiff, reduceCtorEq, Nat.reduceAdd, Nat.reduceLT, Nat.reduceLeDiff, Nat.reduceSub]; done) | (simp [upd_at, ofT]; done)))
      · (try simp only [go_sem, Nat.reduceEqDiff, reduceCtorEq, Nat.reduceAdd, Nat.reduceLT, Nat.reduceLeDiff, Nat.reduceSub, allLeB, St.H, Hp.of]); repeat' (first | exact trivial | with_reducible refine And.intro ?_ ?_ | (refine ⟨_, rfl, ?_⟩) | exact stb_le (by assumption) | with_reducible exact Le.d _ | exact Le.any _ | refine Le.dI ?_ | refine Le.dS ?_ | refine Le.dB ?_ | refine Le.dL ?_ | exact Le.nild _ | exact Le.nils _ | refine Le.ow ?_ ?_ | exact Le.rptr _ | apply LeA.nil | apply LeA.cons); all_goals (try (first | rfl | omega | exact (fillT_zero _ _ _).symm | exact modify_fillT _ _ _ _ rfl | (congr 1; omega) | (simp only [go_sem, Nat.reduceEqDiff, reduceCtorEq, Nat.reduceAdd, Nat.reduceLT, Nat.reduceLeDiff, Nat.reduceSub]; done) | (simp [upd_at, ofT]; done)))
      · (try simp only [go_sem, Nat.reduceEqDiff, reduceCtorEq, Nat.reduceAdd, Nat.reduceLT, Nat.reduceLeDiff, Nat.reduceSub, allT]); all_goals (first | trivial | (simp [upd_at]; done) | (simp [upd_at]; omega))
      · intro l hl h; have h' : ∀ k, k < 1000000 → l ≠ k := fun k hk => (by omega); (first | exact absurd rfl h | (simp [upd_at, h', of_b, ofB] at h; done) | exact hkM (by intro l hl; have h2 : l ≠ 0 := (by omega); have h3 : l ≠ 1000000 := (by omega); have h4 : ∀ k, k < 1000000 → l ≠ k := fun k hk => (by omega); simp [upd_at, h2, h3, h4, of_b, ofB]) (by simp [ofB]) l hl h | (simp [upd_at, ofB, h'] at h ⊢; done))
    rotate_left
    rotate_left
    · rintro i g1
      simp only [go_sem, Nat.reduceEqDiff, reduceCtorEq, Nat.reduceAdd, Nat.reduceLT, Nat.reduceLeDiff, Nat.reduceSub, nib3, nib4]
      repeat' (first | (refine grdL_split ?_ ?_ <;> intro h <;> (try simp only [go_sem, Nat.reduceEqDiff, reduceCtorEq, Nat.reduceAdd, Nat.reduceLT, Nat.reduceLeDiff, Nat.reduceSub, h, nib3, nib4]) <;> (try simp only [decide_eq_true_eq, decide_eq_false_iff_not, beq_iff_eq, bne_iff_ne, ne_eq, beq_eq_false_iff_ne, bne_eq_false_iff_eq, Bool.not_eq_true, Bool.not_eq_false, Bool.or_eq_true, Bool.and_eq_true, Bool.not_eq_eq_eq_not, Bool.not_true, Bool.not_false, Int.ofNat_lt, Int.ofNat_le, gt_iff_lt, ge_iff_le, Int.ofNat_inj, Int.natCast_pos, Int.toNat_natCast, Decidable.not_not] at h)) | (refine brkL_split ?_ ?_ <;> intro h <;> (try simp only [go_sem, Nat.reduceEqDiff, reduceCtorEq, Nat.reduceAdd, Nat.reduceLT, Nat.reduceLeDiff, Nat.reduceSub, h, nib3, nib4]) <;> (try simp only [decide_eq_true_eq, decide_eq_false_iff_not, beq_iff_eq, bne_iff_ne, ne_eq, beq_eq_false_iff_ne, bne_eq_false_iff_eq, Bool.not_eq_true, Bool.not_eq_false, Bool.or_eq_true, Bool.and_eq_true, Bool.not_eq_eq_eq_not, Bool.not_true, Bool.not_false, Int.ofNat_lt, Int.ofNat_le, gt_iff_lt, ge_iff_le, Int.ofNat_inj, Int.natCast_pos, Int.toNat_natCast, Decidable.not_not] at h)) | (with_reducible refine And.intro ?_ ?_))
      all_goals (try (first | exact True.intro | with_reducible rfl | contradiction | omega | (simp only [inK, List.length_take, List.length_drop, List.length_map, List.length_modify, List.length_replicate, List.length_append, length_fillT]; omega) | exact rfl))
      all_goals (try (have hn := nibLt (s.getD i 0); omega))
      all_goals (try (have hn := hexT_len (s.take i); simp only [List.length_take] at hn; omega))
      · have e2 : (hexT (s.take (i + 1))).length = (hexT (s.take i)).length + 2 := by rw [hexT_succ ‹_›]; simp [hexB]
        refine backQ_intro (i + 1) ?_ ?_ ?_
        rotate_left
        rotate_left
        · refine weak_of _ _ _ ?_ ?_ ?_ ?_
          · (try simp only [go_sem, Nat.reduceEqDiff, reduceCtorEq, Nat.reduceAdd, Nat.reduceLT, Nat.reduceLeDiff, Nat.reduceSub, allLe, St.H, Hp.of]); repeat' (first | exact trivial | with_reducible refine And.intro ?_ ?_ | with_reducible exact Le.d _ | exact Le.any _ | refine Le.dI ?_ | refine Le.dS ?_ | refine Le.dB ?_ | refine Le.dL ?_ | exact Le.nild _ | exact Le.nils _ | refine Le.ow ?_ ?_ | exact Le.rptr _ | (refine Le.ptr ?_; simp [ofB]; done) | refine Le.cl ?_ ?_ | apply LeA.nil | apply LeA.cons); all_goals (try (first | rfl | omega | first | (simp [-List.getD_eq_getElem?_getD, hexT_succ, hexB, hexDigits, encB, *]; done) | (simp [upd_at, ofT, e2]; done) | exact (fillT_zero _ _ _).symm | exact modify_fillT _ _ _ _ rfl | (congr 1; omega) | (simp only [go_sem, Nat.reduceEqDiff, reduceCtorEq, Nat.reduceAdd, Nat.reduceLT, Nat.reduceLeDiff, Nat.reduceSub]; done) | (simp [upd_at, ofT]; done)))
          · (try simp only [go_sem, Nat.reduceEqDiff, reduceCtorEq, Nat.reduceAdd, Nat.reduceLT, Nat.reduceLeDiff, Nat.reduceSub, allLeB, St.H, Hp.of]); repeat' (first | exact trivial | with_reducible refine And.intro ?_ ?_ | (refine ⟨_, rfl, ?_⟩) | exact stb_le (by assumption) | with_reducible exact Le.d _ | exact Le.any _ | refine Le.dI ?_ | refine Le.dS ?_ | refine Le.dB ?_ | refine Le.dL ?_ | exact Le.nild _ | exact Le.nils _ | refine Le.ow ?_ ?_ | exact Le.rptr _ | apply LeA.nil | apply LeA.cons); all_goals (try (first | rfl | omega | first | (simp [-List.getD_eq_getElem?_getD, hexT_succ, hexB, hexDigits, encB, *]; done) | (simp [upd_at, ofT, e2]; done) | exact (fillT_zero _ _ _).symm | exact modify_fillT _ _ _ _ rfl | (congr 1; omega) | (simp only [go_sem, Nat.reduceEqDiff, reduceCtorEq, Nat.reduceAdd, Nat.reduceLT, Nat.reduceLeDiff, Nat.reduceSub]; done) | (simp [upd_at, ofT]; done)))
          · (try simp only [go_sem, Nat.reduceEqDiff, reduceCtorEq, Nat.reduceAdd, Nat.reduceLT, Nat.reduceLeDiff, Nat.reduceSub, allT]); all_goals (first | trivial | (simp [upd_at]; done) | (simp [upd_at]; omega))
          · intro l hl h; have h' : ∀ k, k < 1000000 → l ≠ k := fun k hk => (by omega); (first | exact absurd rfl h | (simp [upd_at, h', of_b, ofB] at h; done) | exact hkM (by intro l hl; have h2 : l ≠ 0 := (by omega); have h3 : l ≠ 1000000 := (by omega); have h4 : ∀ k, k < 1000000 → l ≠ k := fun k hk => (by omega); simp [upd_at, h2, h3, h4, of_b, ofB]) (by simp [ofB]) l hl h | (simp [upd_at, ofB, h'] at h ⊢; done))
        · omega
        · omega
      · exact isByte_map _
      · refine endV (by simp only [go_sem, Nat.reduceEqDiff, reduceCtorEq, Nat.reduceAdd, Nat.reduceLT, Nat.reduceLeDiff, Nat.reduceSub, resP, RV.q]) (by intro l hl; have h' : ∀ k, k < 1000000 → l ≠ k := fun k hk => (by omega); simp [upd_at, h', of_b, ofB]) rfl ?_
        (try simp only [go_sem, Nat.reduceEqDiff, reduceCtorEq, Nat.reduceAdd, Nat.reduceLT, Nat.reduceLeDiff, Nat.reduceSub, resA, RV.q, finA, fin1, finL, AV.d.injEq, AV.tup.injEq, AV.agg.injEq, DV.bool.injEq, DV.int.injEq, DV.str.injEq, DV.sl.injEq, List.cons.injEq])
        (first | done | (simp_all []; done) | (simp_all []; omega) | skip)
        rw [byteOf_map, List.take_of_length_le (by omega)]
    · omega
end
end Go.Proofs.YtchmoleeajkioaaDoor.V
