/-
  Go's library: texts that are parted at a byte.
-/
import Derived.Test.YtchmoleeajkioaaDoorPh
import Derived.Test.YtchmoleeajkioaaDoorSb
import Derived.Laws.Externs
import Derived.Lib.Bytealg
namespace Go.Proofs.YtchmoleeajkioaaDoor.V
open Go Go.RowKit
set_option linter.unusedSimpArgs false
set_option linter.unusedVariables false
set_option maxRecDepth 100000

theorem two_vs {P : Program} {w : World} {S : Nat → Prop} {ι : Io} {H : Hp} {vs : List Value} {x y : AV} (hl : vs.length = [x, y].length) (hv : ∀ j (h : j < [x, y].length), VL w S ι H (vs.getD j undef) ([x, y][j])) :
    ∃ a b, vs = [a, b] ∧ VL w S ι H a x ∧ VL w S ι H b y := by
  match vs, hl with
  | [a, b], _ => exact ⟨a, b, rfl, hv 0 (by simp), hv 1 (by simp)⟩

def ExtOK (P : Program) (f : FuncId) (s : Txt) (c r : Int) : Prop := ∀ (w : World) (S : Nat → Prop) (ι : Io) (H : Hp) (vs : List Value), HR w S ι H → vs.length = [sv s, iv .u8 c].length → (∀ j (h : j < [sv s, iv .u8 c].length), VL w S ι H (vs.getD j undef) ([sv s, iv .u8 c][j])) →
      ∃ v, (callFunc f vs.toArray).run P w = .ok (.value v) w ∧ VL w S ι H v (iv .i64 r)
theorem ext_two {P : Program} {f : FuncId} {fn : Func} {e : Array Value → Sem Value} (hf : P.funcs[f]? = some fn) (hname : (fn.name == "runtime.NumGoroutine") = false) (hb : fn.body.isNone = true) (hn : Extern.findNext fn = none) (he : Extern.find fn = some e)
    (s : Txt) (c : Int) (r : Int) (hr : ∀ w, (e #[.string ⟨s.toArray⟩, .int .u8 c]).run P w = .ok (.int .i64 r) w) :
    ExtOK P f s c r := by
  intro w S ι H vs R hl hv
  obtain ⟨a, b, rfl, h1, h2⟩ := two_vs (P := P) hl hv
  have e1 : a = .string ⟨s.toArray⟩ := h1.str_inv
  have e2 : b = .int .u8 c := h2.int_inv
  subst e1; subst e2
  refine ⟨.int .i64 r, ?_, VL.int _ _⟩
  rw [run_callFunc_extern hf hname hb hn he]
  rw [hr w]
  rfl

theorem x_IndexByteString (s : Txt) (c : Int) : ExtOK Tryd.prog 90 s c (Lib.indexByte s c.toNat.toUInt8) := ext_two (P := Tryd.prog) (f := 90) (fn := Tryd.f90) (e := Extern.BytealgIndexByte.indexByte) (by kernel_rfl) (by kernel_rfl) (by kernel_rfl) (by kernel_rfl) (by kernel_rfl) s c _
  (fun w => Lib.run_indexByteString ⟨s.toArray⟩ c w)
theorem x_CountString (s : Txt) (c : Int) : ExtOK Tryd.prog 83 s c (s.count c.toNat.toUInt8) := ext_two (P := Tryd.prog) (f := 83) (fn := Tryd.f83) (e := Extern.BytealgCount.count) (by kernel_rfl) (by kernel_rfl) (by kernel_rfl) (by kernel_rfl) (by kernel_rfl) s c _
  (fun w => Lib.run_countString ⟨s.toArray⟩ c w)

theorem u8_back (c : UInt8) : ((c.toNat : Int).toNat).toUInt8 = c := by simp
attribute [go_sem] u8_back
theorem c_IndexByte (s : Txt) (c : UInt8) : Fn Tryd.prog 86 [sv s, iv .u8 c.toNat] none (iv .i64 (Lib.indexByte s c)) none none none := by
  refine fn_ok' r86 (sc := s86) (loud := loudF) (fn := Tryd.f86) (by kernel_rfl) k86 (by decide) mixed (Nat.le_of_ble_eq_true rfl) (by kernel_rfl) (bigN _ _) ?_
  simp only [go_sem, Nat.reduceEqDiff, reduceCtorEq, Nat.reduceAdd, Nat.reduceLT, Nat.reduceLeDiff, Nat.reduceSub, s86, r86]
  repeat' (first | (refine grdL_split ?_ ?_ <;> intro h <;> (try simp only [go_sem, Nat.reduceEqDiff, reduceCtorEq, Nat.reduceAdd, Nat.reduceLT, Nat.reduceLeDiff, Nat.reduceSub, h]) <;> (try simp only [decide_eq_true_eq, decide_eq_false_iff_not, beq_iff_eq, bne_iff_ne, ne_eq, beq_eq_false_iff_ne, bne_eq_false_iff_eq, Bool.not_eq_true, Bool.not_eq_false, Bool.or_eq_true, Bool.and_eq_true, Bool.not_eq_eq_eq_not, Bool.not_true, Bool.not_false, Int.ofNat_lt, Int.ofNat_le, gt_iff_lt, ge_iff_le, Int.ofNat_inj, Int.natCast_pos, Int.toNat_natCast, Decidable.not_not] at h)) | (refine brkL_split ?_ ?_ <;> intro h <;> (try simp only [go_sem, Nat.reduceEqDiff, reduceCtorEq, Nat.reduceAdd, Nat.reduceLT, Nat.reduceLeDiff, Nat.reduceSub, h]) <;> (try simp only [decide_eq_true_eq, decide_eq_false_iff_not, beq_iff_eq, bne_iff_ne, ne_eq, beq_eq_false_iff_ne, bne_eq_false_iff_eq, Bool.not_eq_true, Bool.not_eq_false, Bool.or_eq_true, Bool.and_eq_true, Bool.not_eq_eq_eq_not, Bool.not_true, Bool.not_false, Int.ofNat_lt, Int.ofNat_le, gt_iff_lt, ge_iff_le, Int.ofNat_inj, Int.natCast_pos, Int.toNat_natCast, Decidable.not_not] at h)) | (with_reducible refine And.intro ?_ ?_) | (refine useE (x_IndexByteString _ _) ?_; (try simp only [go_sem, Nat.reduceEqDiff, reduceCtorEq, Nat.reduceAdd, Nat.reduceLT, Nat.reduceLeDiff, Nat.reduceSub])))
  all_goals (try (first | exact True.intro | with_reducible rfl | contradiction | omega | (simp only [inK, List.length_take, List.length_drop, List.length_map, List.length_modify, List.length_replicate, List.length_append, length_fillT]; omega) | exact rfl))
  refine endV (by simp only [go_sem, Nat.reduceEqDiff, reduceCtorEq, Nat.reduceAdd, Nat.reduceLT, Nat.reduceLeDiff, Nat.reduceSub, resP, RV.q]) (by intro l hl; have h' : ∀ k, k < 1000000 → l ≠ k := fun k hk => (by omega); simp [upd_at, h', of_b, ofB]) rfl ?_
  (try simp only [go_sem, Nat.reduceEqDiff, reduceCtorEq, Nat.reduceAdd, Nat.reduceLT, Nat.reduceLeDiff, Nat.reduceSub, resA, RV.q, finA, fin1, finL, AV.d.injEq, AV.tup.injEq, AV.agg.injEq, DV.bool.injEq, DV.int.injEq, DV.str.injEq, DV.sl.injEq, List.cons.injEq])
  (first | done | (simp_all []; done) | (simp_all []; omega) | skip)
theorem c_sIndex1 (s : Txt) (c : UInt8) : Fn Tryd.prog 84 [sv s, sv [c]] none (iv .i64 (Lib.indexByte s c)) none none none := by
  refine fn_ok' r84 (sc := s84) (loud := loudF) (fn := Tryd.f84) (by kernel_rfl) k84 (by decide) mixed (Nat.le_of_ble_eq_true rfl) (by kernel_rfl) (bigN _ _) ?_
  simp only [go_sem, Nat.reduceEqDiff, reduceCtorEq, Nat.reduceAdd, Nat.reduceLT, Nat.reduceLeDiff, Nat.reduceSub, s84, r84]
  repeat' (first | (refine grdL_split ?_ ?_ <;> intro h <;> (try simp only [go_sem, Nat.reduceEqDiff, reduceCtorEq, Nat.reduceAdd, Nat.reduceLT, Nat.reduceLeDiff, Nat.reduceSub, h]) <;> (try simp only [decide_eq_true_eq, decide_eq_false_iff_not, beq_iff_eq, bne_iff_ne, ne_eq, beq_eq_false_iff_ne, bne_eq_false_iff_eq, Bool.not_eq_true, Bool.not_eq_false, Bool.or_eq_true, Bool.and_eq_true, Bool.not_eq_eq_eq_not, Bool.not_true, Bool.not_false, Int.ofNat_lt, Int.ofNat_le, gt_iff_lt, ge_iff_le, Int.ofNat_inj, Int.natCast_pos, Int.toNat_natCast, Decidable.not_not] at h)) | (refine brkL_split ?_ ?_ <;> intro h <;> (try simp only [go_sem, Nat.reduceEqDiff, reduceCtorEq, Nat.reduceAdd, Nat.reduceLT, Nat.reduceLeDiff, Nat.reduceSub, h]) <;> (try simp only [decide_eq_true_eq, decide_eq_false_iff_not, beq_iff_eq, bne_iff_ne, ne_eq, beq_eq_false_iff_ne, bne_eq_false_iff_eq, Bool.not_eq_true, Bool.not_eq_false, Bool.or_eq_true, Bool.and_eq_true, Bool.not_eq_eq_eq_not, Bool.not_true, Bool.not_false, Int.ofNat_lt, Int.ofNat_le, gt_iff_lt, ge_iff_le, Int.ofNat_inj, Int.natCast_pos, Int.toNat_natCast, Decidable.not_not] at h)) | (with_reducible refine And.intro ?_ ?_) | (refine useV (c_IndexByte _ _) rfl rfl rfl (by first | exact .inl rfl | exact .inr rfl | (right; simp [flatA, flat1, flatL, flatD])) ?_; rotate_right; (try simp only [go_sem, Nat.reduceEqDiff, reduceCtorEq, Nat.reduceAdd, Nat.reduceLT, Nat.reduceLeDiff, Nat.reduceSub])))
  all_goals (try (first | exact True.intro | with_reducible rfl | contradiction | omega | (simp only [inK, List.length_take, List.length_drop, List.length_map, List.length_modify, List.length_replicate, List.length_append, length_fillT]; omega) | exact rfl))
  · refine endV (by simp only [go_sem, Nat.reduceEqDiff, reduceCtorEq, Nat.reduceAdd, Nat.reduceLT, Nat.reduceLeDiff, Nat.reduceSub, resP, RV.q]) (by intro l hl; have h' : ∀ k, k < 1000000 → l ≠ k := fun k hk => (by omega); simp [upd_at, h', of_b, ofB]) rfl ?_
    (try simp only [go_sem, Nat.reduceEqDiff, reduceCtorEq, Nat.reduceAdd, Nat.reduceLT, Nat.reduceLeDiff, Nat.reduceSub, resA, RV.q, finA, fin1, finL, AV.d.injEq, AV.tup.injEq, AV.agg.injEq, DV.bool.injEq, DV.int.injEq, DV.str.injEq, DV.sl.injEq, List.cons.injEq])
    (first | done | (simp_all []; done) | (simp_all []; omega) | skip)
    rw [← ‹[c] = s›]; simp [Lib.indexByte]
  · refine endV (by simp only [go_sem, Nat.reduceEqDiff, reduceCtorEq, Nat.reduceAdd, Nat.reduceLT, Nat.reduceLeDiff, Nat.reduceSub, resP, RV.q]) (by intro l hl; have h' : ∀ k, k < 1000000 → l ≠ k := fun k hk => (by omega); simp [upd_at, h', of_b, ofB]) rfl ?_
    (try simp only [go_sem, Nat.reduceEqDiff, reduceCtorEq, Nat.reduceAdd, Nat.reduceLT, Nat.reduceLeDiff, Nat.reduceSub, resA, RV.q, finA, fin1, finL, AV.d.injEq, AV.tup.injEq, AV.agg.injEq, DV.bool.injEq, DV.int.injEq, DV.str.injEq, DV.sl.injEq, List.cons.injEq])
    (first | done | (simp_all []; done) | (simp_all []; omega) | skip)
theorem c_Index1 (s : Txt) (c : UInt8) : Fn Tryd.prog 80 [sv s, sv [c]] none (iv .i64 (Lib.indexByte s c)) none none none := by
  refine fn_ok' r80 (sc := s80) (loud := loudF) (fn := Tryd.f80) (by kernel_rfl) k80 (by decide) mixed (Nat.le_of_ble_eq_true rfl) (by kernel_rfl) (bigN _ _) ?_
  simp only [go_sem, Nat.reduceEqDiff, reduceCtorEq, Nat.reduceAdd, Nat.reduceLT, Nat.reduceLeDiff, Nat.reduceSub, s80, r80]
  repeat' (first | (refine grdL_split ?_ ?_ <;> intro h <;> (try simp only [go_sem, Nat.reduceEqDiff, reduceCtorEq, Nat.reduceAdd, Nat.reduceLT, Nat.reduceLeDiff, Nat.reduceSub, h]) <;> (try simp only [decide_eq_true_eq, decide_eq_false_iff_not, beq_iff_eq, bne_iff_ne, ne_eq, beq_eq_false_iff_ne, bne_eq_false_iff_eq, Bool.not_eq_true, Bool.not_eq_false, Bool.or_eq_true, Bool.and_eq_true, Bool.not_eq_eq_eq_not, Bool.not_true, Bool.not_false, Int.ofNat_lt, Int.ofNat_le, gt_iff_lt, ge_iff_le, Int.ofNat_inj, Int.natCast_pos, Int.toNat_natCast, Decidable.not_not] at h)) | (refine brkL_split ?_ ?_ <;> intro h <;> (try simp only [go_sem, Nat.reduceEqDiff, reduceCtorEq, Nat.reduceAdd, Nat.reduceLT, Nat.reduceLeDiff, Nat.reduceSub, h]) <;> (try simp only [decide_eq_true_eq, decide_eq_false_iff_not, beq_iff_eq, bne_iff_ne, ne_eq, beq_eq_false_iff_ne, bne_eq_false_iff_eq, Bool.not_eq_true, Bool.not_eq_false, Bool.or_eq_true, Bool.and_eq_true, Bool.not_eq_eq_eq_not, Bool.not_true, Bool.not_false, Int.ofNat_lt, Int.ofNat_le, gt_iff_lt, ge_iff_le, Int.ofNat_inj, Int.natCast_pos, Int.toNat_natCast, Decidable.not_not] at h)) | (with_reducible refine And.intro ?_ ?_) | (refine useV (c_sIndex1 _ _) rfl rfl rfl (by first | exact .inl rfl | exact .inr rfl | (right; simp [flatA, flat1, flatL, flatD])) ?_; rotate_right; (try simp only [go_sem, Nat.reduceEqDiff, reduceCtorEq, Nat.reduceAdd, Nat.reduceLT, Nat.reduceLeDiff, Nat.reduceSub])))
  all_goals (try (first | exact True.intro | with_reducible rfl | contradiction | omega | (simp only [inK, List.length_take, List.length_drop, List.length_map, List.length_modify, List.length_replicate, List.length_append, length_fillT]; omega) | exact rfl))
  refine endV (by simp only [go_sem, Nat.reduceEqDiff, reduceCtorEq, Nat.reduceAdd, Nat.reduceLT, Nat.reduceLeDiff, Nat.reduceSub, resP, RV.q]) (by intro l hl; have h' : ∀ k, k < 1000000 → l ≠ k := fun k hk => (by omega); simp [upd_at, h', of_b, ofB]) rfl ?_
  (try simp only [go_sem, Nat.reduceEqDiff, reduceCtorEq, Nat.reduceAdd, Nat.reduceLT, Nat.reduceLeDiff, Nat.reduceSub, resA, RV.q, finA, fin1, finL, AV.d.injEq, AV.tup.injEq, AV.agg.injEq, DV.bool.injEq, DV.int.injEq, DV.str.injEq, DV.sl.injEq, List.cons.injEq])
  (first | done | (simp_all []; done) | (simp_all []; omega) | skip)
theorem c_Count1 (s : Txt) (c : UInt8) : Fn Tryd.prog 79 [sv s, sv [c]] none (iv .i64 (s.count c)) none none none := by
  refine fn_ok' r79 (sc := s79) (loud := loudF) (fn := Tryd.f79) (by kernel_rfl) k79 (by decide) mixed (Nat.le_of_ble_eq_true rfl) (by kernel_rfl) (bigN _ _) ?_
  simp only [go_sem, Nat.reduceEqDiff, reduceCtorEq, Nat.reduceAdd, Nat.reduceLT, Nat.reduceLeDiff, Nat.reduceSub, s79, r79]
  repeat' (first | (refine grdL_split ?_ ?_ <;> intro h <;> (try simp only [go_sem, Nat.reduceEqDiff, reduceCtorEq, Nat.reduceAdd, Nat.reduceLT, Nat.reduceLeDiff, Nat.reduceSub, h]) <;> (try simp only [decide_eq_true_eq, decide_eq_false_iff_not, beq_iff_eq, bne_iff_ne, ne_eq, beq_eq_false_iff_ne, bne_eq_false_iff_eq, Bool.not_eq_true, Bool.not_eq_false, Bool.or_eq_true, Bool.and_eq_true, Bool.not_eq_eq_eq_not, Bool.not_true, Bool.not_false, Int.ofNat_lt, Int.ofNat_le, gt_iff_lt, ge_iff_le, Int.ofNat_inj, Int.natCast_pos, Int.toNat_natCast, Decidable.not_not] at h)) | (refine brkL_split ?_ ?_ <;> intro h <;> (try simp only [go_sem, Nat.reduceEqDiff, reduceCtorEq, Nat.reduceAdd, Nat.reduceLT, Nat.reduceLeDiff, Nat.reduceSub, h]) <;> (try simp only [decide_eq_true_eq, decide_eq_false_iff_not, beq_iff_eq, bne_iff_ne, ne_eq, beq_eq_false_iff_ne, bne_eq_false_iff_eq, Bool.not_eq_true, Bool.not_eq_false, Bool.or_eq_true, Bool.and_eq_true, Bool.not_eq_eq_eq_not, Bool.not_true, Bool.not_false, Int.ofNat_lt, Int.ofNat_le, gt_iff_lt, ge_iff_le, Int.ofNat_inj, Int.natCast_pos, Int.toNat_natCast, Decidable.not_not] at h)) | (with_reducible refine And.intro ?_ ?_) | (refine useE (x_CountString _ _) ?_; (try simp only [go_sem, Nat.reduceEqDiff, reduceCtorEq, Nat.reduceAdd, Nat.reduceLT, Nat.reduceLeDiff, Nat.reduceSub])) | (refine useV (c_Index1 _ _) rfl rfl rfl (by first | exact .inl rfl | exact .inr rfl | (right; simp [flatA, flat1, flatL, flatD])) ?_; rotate_right; (try simp only [go_sem, Nat.reduceEqDiff, reduceCtorEq, Nat.reduceAdd, Nat.reduceLT, Nat.reduceLeDiff, Nat.reduceSub])))
  all_goals (try (first | exact True.intro | with_reducible rfl | contradiction | omega | (simp only [inK, List.length_take, List.length_drop, List.length_map, List.length_modify, List.length_replicate, List.length_append, length_fillT]; omega) | exact rfl))
  refine endV (by simp only [go_sem, Nat.reduceEqDiff, reduceCtorEq, Nat.reduceAdd, Nat.reduceLT, Nat.reduceLeDiff, Nat.reduceSub, resP, RV.q]) (by intro l hl; have h' : ∀ k, k < 1000000 → l ≠ k := fun k hk => (by omega); simp [upd_at, h', of_b, ofB]) rfl ?_
  (try simp only [go_sem, Nat.reduceEqDiff, reduceCtorEq, Nat.reduceAdd, Nat.reduceLT, Nat.reduceLeDiff, Nat.reduceSub, resA, RV.q, finA, fin1, finL, AV.d.injEq, AV.tup.injEq, AV.agg.injEq, DV.bool.injEq, DV.int.injEq, DV.str.injEq, DV.sl.injEq, List.cons.injEq])
  (first | done | (simp_all []; done) | (simp_all []; omega) | skip)

/-- The parts of a text between the bytes c. -/
def spl (c : UInt8) : Txt → List Txt
  | [] => [[]]
  | b :: s => if b == c then [] :: spl c s else match spl c s with
    | [] => [[b]]
    | x :: r => (b :: x) :: r
theorem spl_ne (c : UInt8) (s : Txt) : spl c s ≠ [] := by
  cases s with
  | nil => simp [spl]
  | cons b s =>
    simp only [spl]
    split
    · simp
    · split <;> simp
theorem spl_len (c : UInt8) : ∀ s : Txt, (spl c s).length = s.count c + 1
  | [] => rfl
  | b :: s => by
    have ih := spl_len c s
    simp only [spl, List.count_cons]
    by_cases h : b == c
    · simp [h, ih]
    · simp only [h]
      cases hs : spl c s with
      | nil => exact absurd hs (spl_ne c s)
      | cons x r => rw [hs] at ih; simpa using ih
/-- Where the first c stands, the first part ends. -/
theorem spl_at (c : UInt8) : ∀ s : Txt, 0 ≤ Lib.indexByte s c → spl c s = s.take (Lib.indexByte s c).toNat :: spl c (s.drop ((Lib.indexByte s c).toNat + 1)) ∧ Lib.indexByte s c < s.length
  | [], h => by simp [Lib.indexByte] at h
  | b :: s, h => by
    simp only [Lib.indexByte] at h ⊢
    by_cases hb : b == c
    · simp only [hb, if_true, spl]
      simp
    · simp only [hb] at h ⊢
      by_cases hn : Lib.indexByte s c == -1
      · simp [hn] at h
      · simp only [hn] at h ⊢
        have h0 : 0 ≤ Lib.indexByte s c := by
          have := Lib.indexByte_ge s c
          simp at hn
          omega
        obtain ⟨h1, h2⟩ := spl_at c s h0
        have e : (Lib.indexByte s c + 1).toNat = (Lib.indexByte s c).toNat + 1 := by omega
        simp only [Bool.false_eq_true, if_false, e, List.take_succ_cons, List.drop_succ_cons]
        refine ⟨?_, by simp; omega⟩
        rw [spl, h1]
        simp [hb]
theorem count_no (c : UInt8) : ∀ s : Txt, Lib.indexByte s c < 0 → s.count c = 0
  | [], _ => rfl
  | b :: s, h => by
    simp only [Lib.indexByte] at h
    by_cases hb : b == c
    · simp [hb] at h
    · simp only [hb, Bool.false_eq_true, if_false] at h
      by_cases hn : Lib.indexByte s c == -1
      · have := count_no c s (by simp at hn; omega)
        simp [List.count_cons, hb, this]
      · simp only [hn, Bool.false_eq_true, if_false] at h
        have := Lib.indexByte_ge s c
        simp at hn
        omega
theorem spl_no (c : UInt8) : ∀ s : Txt, s.count c = 0 → spl c s = [s]
  | [], _ => rfl
  | b :: s, h => by
    simp only [List.count_cons] at h
    have hb : (b == c) = false := by
      cases hb : b == c
      · rfl
      · simp [hb] at h
    have := spl_no c s (by omega)
    simp [spl, hb, this]

theorem drop_cons {α : Type} {l : List α} {i : Nat} {x : α} {r : List α} (d : α) (h : l.drop i = x :: r) : l.getD i d = x ∧ l.drop (i + 1) = r ∧ i < l.length := by
  have hi : i < l.length := by
    rcases Nat.lt_or_ge i l.length with h' | h'
    · exact h'
    · rw [List.drop_eq_nil_of_le h'] at h; cases h
  rw [List.drop_eq_getElem_cons hi] at h
  injection h with h1 h2
  exact ⟨by rw [List.getD, List.getElem?_eq_getElem hi]; exact h1, h2, hi⟩
theorem c_genSplit (s : Txt) (c : UInt8) (hs : s.length ≤ 140737488355328) (hn : s.length ≤ 1000000000) :
    Fn Tryd.prog 76 [sv s, sv [c], iv .i64 0, iv .i64 (-1)] none (.d (dTxts (spl c s))) none none none := by
  have hc : s.count c ≤ s.length := List.count_le_length
  have hmn : (if ((s.length : Int) + 1 < (s.count c : Int) + 1) then (s.length : Int) + 1 else (s.count c : Int) + 1) = (s.count c : Int) + 1 := if_neg (by omega)
  have hlen := spl_len c s
  refine fn_ok' r76 (sc := s76) (loud := loudF) (fn := Tryd.f76) (by kernel_rfl) k76 (by decide) mixed (Nat.le_of_ble_eq_true rfl) (by kernel_rfl) (bigN _ _) ?_
  simp only [go_sem, Nat.reduceEqDiff, reduceCtorEq, Nat.reduceAdd, Nat.reduceLT, Nat.reduceLeDiff, Nat.reduceSub, s76, r76, hmn]
  repeat' (first | (refine grdL_split ?_ ?_ <;> intro h <;> (try simp only [go_sem, Nat.reduceEqDiff, reduceCtorEq, Nat.reduceAdd, Nat.reduceLT, Nat.reduceLeDiff, Nat.reduceSub, h, hmn]) <;> (try simp only [decide_eq_true_eq, decide_eq_false_iff_not, beq_iff_eq, bne_iff_ne, ne_eq, beq_eq_false_iff_ne, bne_eq_false_iff_eq, Bool.not_eq_true, Bool.not_eq_false, Bool.or_eq_true, Bool.and_eq_true, Bool.not_eq_eq_eq_not, Bool.not_true, Bool.not_false, Int.ofNat_lt, Int.ofNat_le, gt_iff_lt, ge_iff_le, Int.ofNat_inj, Int.natCast_pos, Int.toNat_natCast, Decidable.not_not] at h)) | (refine brkL_split ?_ ?_ <;> intro h <;> (try simp only [go_sem, Nat.reduceEqDiff, reduceCtorEq, Nat.reduceAdd, Nat.reduceLT, Nat.reduceLeDiff, Nat.reduceSub, h, hmn]) <;> (try simp only [decide_eq_true_eq, decide_eq_false_iff_not, beq_iff_eq, bne_iff_ne, ne_eq, beq_eq_false_iff_ne, bne_eq_false_iff_eq, Bool.not_eq_true, Bool.not_eq_false, Bool.or_eq_true, Bool.and_eq_true, Bool.not_eq_eq_eq_not, Bool.not_true, Bool.not_false, Int.ofNat_lt, Int.ofNat_le, gt_iff_lt, ge_iff_le, Int.ofNat_inj, Int.natCast_pos, Int.toNat_natCast, Decidable.not_not] at h)) | (with_reducible refine And.intro ?_ ?_) | (refine useV (c_Count1 _ _) rfl rfl rfl (by first | exact .inl rfl | exact .inr rfl | (right; simp [flatA, flat1, flatL, flatD])) ?_; rotate_right; (try simp only [go_sem, Nat.reduceEqDiff, reduceCtorEq, Nat.reduceAdd, Nat.reduceLT, Nat.reduceLeDiff, Nat.reduceSub, hmn])) | (refine useV (c_Index1 _ _) rfl rfl rfl (by first | exact .inl rfl | exact .inr rfl | (right; simp [flatA, flat1, flatL, flatD])) ?_; rotate_right; (try simp only [go_sem, Nat.reduceEqDiff, reduceCtorEq, Nat.reduceAdd, Nat.reduceLT, Nat.reduceLeDiff, Nat.reduceSub, hmn])))
  all_goals (try (first | exact True.intro | with_reducible rfl | contradiction | omega | (simp only [inK, List.length_take, List.length_drop, List.length_map, List.length_modify, List.length_replicate, List.length_append, length_fillT]; omega) | exact rfl))
  refine loop_inv (fun p : Nat × Txt => p.1 ≤ s.count c ∧ (spl c s).drop p.1 = spl c p.2 ∧ p.2.length ≤ s.length) (fun p => s.count c - p.1) (fun p => St.of [(0, sv p.2), (1, sv [c]), (2, iv .i64 0), (3, iv .i64 (s.count c)), (9, .own 31 1 0 (fillT encS (spl c s) p.1 [.str []])), (10, iv .i64 p.1)] [] [(31, (1, s.count c + 1))]) ((0, s)) ?_ ?_ ?_
  rotate_left
  · refine weak_of _ _ _ ?_ ?_ ?_ ?_
    · (try simp only [go_sem, Nat.reduceEqDiff, reduceCtorEq, Nat.reduceAdd, Nat.reduceLT, Nat.reduceLeDiff, Nat.reduceSub, allLe, St.H, Hp.of]); repeat' (first | exact trivial | with_reducible refine And.intro ?_ ?_ | with_reducible exact Le.d _ | exact Le.any _ | refine Le.dI ?_ | refine Le.dS ?_ | refine Le.dB ?_ | refine Le.dL ?_ | exact Le.nild _ | exact Le.nils _ | refine Le.ow ?_ ?_ | exact Le.rptr _ | (refine Le.ptr ?_; simp [ofB]; done) | refine Le.cl ?_ ?_ | apply LeA.nil | apply LeA.cons); all_goals (try (first | rfl | omega | (rw [fillT_zero, hlen]) | exact (fillT_zero _ _ _).symm | exact modify_fillT _ _ _ _ rfl | (congr 1; omega) | (simp only [go_sem, Nat.reduceEqDiff, reduceCtorEq, Nat.reduceAdd, Nat.reduceLT, Nat.reduceLeDiff, Nat.reduceSub]; done) | (simp [upd_at, ofT]; done)))
    · (try simp only [go_sem, Nat.reduceEqDiff, reduceCtorEq, Nat.reduceAdd, Nat.reduceLT, Nat.reduceLeDiff, Nat.reduceSub, allLeB, St.H, Hp.of]); repeat' (first | exact trivial | with_reducible refine And.intro ?_ ?_ | (refine ⟨_, rfl, ?_⟩) | exact stb_le (by assumption) | with_reducible exact Le.d _ | exact Le.any _ | refine Le.dI ?_ | refine Le.dS ?_ | refine Le.dB ?_ | refine Le.dL ?_ | exact Le.nild _ | exact Le.nils _ | refine Le.ow ?_ ?_ | exact Le.rptr _ | apply LeA.nil | apply LeA.cons); all_goals (try (first | rfl | omega | (rw [fillT_zero, hlen]) | exact (fillT_zero _ _ _).symm | exact modify_fillT _ _ _ _ rfl | (congr 1; omega) | (simp only [go_sem, Nat.reduceEqDiff, reduceCtorEq, Nat.reduceAdd, Nat.reduceLT, Nat.reduceLeDiff, Nat.reduceSub]; done) | (simp [upd_at, ofT]; done)))
    · (try simp only [go_sem, Nat.reduceEqDiff, reduceCtorEq, Nat.reduceAdd, Nat.reduceLT, Nat.reduceLeDiff, Nat.reduceSub, allT]); all_goals (first | trivial | (simp [upd_at]; done) | (simp [upd_at]; omega))
    · intro l hl h; have h' : ∀ k, k < 1000000 → l ≠ k := fun k hk => (by omega); (first | exact absurd rfl h | (simp [upd_at, h', of_b, ofB] at h; done) | exact hkM (by intro l hl; have h2 : l ≠ 0 := (by omega); have h3 : l ≠ 1000000 := (by omega); have h4 : ∀ k, k < 1000000 → l ≠ k := fun k hk => (by omega); simp [upd_at, h2, h3, h4, of_b, ofB]) (by simp [ofB]) l hl h | (simp [upd_at, ofB, h'] at h ⊢; done))
  rotate_left
  rotate_left
  · rintro ⟨i, rest⟩ ⟨g1, g2, g3⟩
    simp only at g1 g2 g3
    have hl2 := spl_len c rest
    have hl3 : s.count c + 1 - i = rest.count c + 1 := by rw [← hlen, ← List.length_drop, g2]; exact hl2
    have hge := Lib.indexByte_ge rest c
    have hd : (Lib.indexByte rest c < 0 ∧ rest.count c = 0) ∨ (0 ≤ Lib.indexByte rest c ∧ Lib.indexByte rest c < rest.length) := by
      by_cases h0 : 0 ≤ Lib.indexByte rest c
      · exact .inr ⟨h0, (spl_at c rest h0).2⟩
      · exact .inl ⟨by omega, count_no c rest (by omega)⟩
    simp only [go_sem, Nat.reduceEqDiff, reduceCtorEq, Nat.reduceAdd, Nat.reduceLT, Nat.reduceLeDiff, Nat.reduceSub]
    repeat' (first | (refine grdL_split ?_ ?_ <;> intro h <;> (try simp only [go_sem, Nat.reduceEqDiff, reduceCtorEq, Nat.reduceAdd, Nat.reduceLT, Nat.reduceLeDiff, Nat.reduceSub, h]) <;> (try simp only [decide_eq_true_eq, decide_eq_false_iff_not, beq_iff_eq, bne_iff_ne, ne_eq, beq_eq_false_iff_ne, bne_eq_false_iff_eq, Bool.not_eq_true, Bool.not_eq_false, Bool.or_eq_true, Bool.and_eq_true, Bool.not_eq_eq_eq_not, Bool.not_true, Bool.not_false, Int.ofNat_lt, Int.ofNat_le, gt_iff_lt, ge_iff_le, Int.ofNat_inj, Int.natCast_pos, Int.toNat_natCast, Decidable.not_not] at h)) | (refine brkL_split ?_ ?_ <;> intro h <;> (try simp only [go_sem, Nat.reduceEqDiff, reduceCtorEq, Nat.reduceAdd, Nat.reduceLT, Nat.reduceLeDiff, Nat.reduceSub, h]) <;> (try simp only [decide_eq_true_eq, decide_eq_false_iff_not, beq_iff_eq, bne_iff_ne, ne_eq, beq_eq_false_iff_ne, bne_eq_false_iff_eq, Bool.not_eq_true, Bool.not_eq_false, Bool.or_eq_true, Bool.and_eq_true, Bool.not_eq_eq_eq_not, Bool.not_true, Bool.not_false, Int.ofNat_lt, Int.ofNat_le, gt_iff_lt, ge_iff_le, Int.ofNat_inj, Int.natCast_pos, Int.toNat_natCast, Decidable.not_not] at h)) | (with_reducible refine And.intro ?_ ?_) | (refine useV (c_Count1 _ _) rfl rfl rfl (by first | exact .inl rfl | exact .inr rfl | (right; simp [flatA, flat1, flatL, flatD])) ?_; rotate_right; (try simp only [go_sem, Nat.reduceEqDiff, reduceCtorEq, Nat.reduceAdd, Nat.reduceLT, Nat.reduceLeDiff, Nat.reduceSub])) | (refine useV (c_Index1 _ _) rfl rfl rfl (by first | exact .inl rfl | exact .inr rfl | (right; simp [flatA, flat1, flatL, flatD])) ?_; rotate_right; (try simp only [go_sem, Nat.reduceEqDiff, reduceCtorEq, Nat.reduceAdd, Nat.reduceLT, Nat.reduceLeDiff, Nat.reduceSub])))
    all_goals (try (first | exact True.intro | with_reducible rfl | contradiction | omega | (simp only [inK, List.length_take, List.length_drop, List.length_map, List.length_modify, List.length_replicate, List.length_append, length_fillT]; omega) | exact rfl))
    · obtain ⟨e1, e2⟩ := spl_at c rest (by omega)
      rw [e1] at g2
      obtain ⟨d1, d2, d3⟩ := drop_cons [] g2
      refine backQ_intro ((i + 1, rest.drop ((Lib.indexByte rest c).toNat + 1))) ?_ ?_ ?_
      rotate_left
      rotate_left
      · refine weak_of _ _ _ ?_ ?_ ?_ ?_
        · (try simp only [go_sem, Nat.reduceEqDiff, reduceCtorEq, Nat.reduceAdd, Nat.reduceLT, Nat.reduceLeDiff, Nat.reduceSub, allLe, St.H, Hp.of]); repeat' (first | exact trivial | with_reducible refine And.intro ?_ ?_ | with_reducible exact Le.d _ | exact Le.any _ | refine Le.dI ?_ | refine Le.dS ?_ | refine Le.dB ?_ | refine Le.dL ?_ | exact Le.nild _ | exact Le.nils _ | refine Le.ow ?_ ?_ | exact Le.rptr _ | (refine Le.ptr ?_; simp [ofB]; done) | refine Le.cl ?_ ?_ | apply LeA.nil | apply LeA.cons); all_goals (try (first | rfl | omega | exact modify_fillT _ _ _ _ (congrArg (fun x => [DV.str x]) d1.symm) | exact (fillT_zero _ _ _).symm | exact modify_fillT _ _ _ _ rfl | (congr 1; omega) | (simp only [go_sem, Nat.reduceEqDiff, reduceCtorEq, Nat.reduceAdd, Nat.reduceLT, Nat.reduceLeDiff, Nat.reduceSub]; done) | (simp [upd_at, ofT]; done)))
        · (try simp only [go_sem, Nat.reduceEqDiff, reduceCtorEq, Nat.reduceAdd, Nat.reduceLT, Nat.reduceLeDiff, Nat.reduceSub, allLeB, St.H, Hp.of]); repeat' (first | exact trivial | with_reducible refine And.intro ?_ ?_ | (refine ⟨_, rfl, ?_⟩) | exact stb_le (by assumption) | with_reducible exact Le.d _ | exact Le.any _ | refine Le.dI ?_ | refine Le.dS ?_ | refine Le.dB ?_ | refine Le.dL ?_ | exact Le.nild _ | exact Le.nils _ | refine Le.ow ?_ ?_ | exact Le.rptr _ | apply LeA.nil | apply LeA.cons); all_goals (try (first | rfl | omega | exact modify_fillT _ _ _ _ (congrArg (fun x => [DV.str x]) d1.symm) | exact (fillT_zero _ _ _).symm | exact modify_fillT _ _ _ _ rfl | (congr 1; omega) | (simp only [go_sem, Nat.reduceEqDiff, reduceCtorEq, Nat.reduceAdd, Nat.reduceLT, Nat.reduceLeDiff, Nat.reduceSub]; done) | (simp [upd_at, ofT]; done)))
        · (try simp only [go_sem, Nat.reduceEqDiff, reduceCtorEq, Nat.reduceAdd, Nat.reduceLT, Nat.reduceLeDiff, Nat.reduceSub, allT]); all_goals (first | trivial | (simp [upd_at]; done) | (simp [upd_at]; omega))
        · intro l hl h; have h' : ∀ k, k < 1000000 → l ≠ k := fun k hk => (by omega); (first | exact absurd rfl h | (simp [upd_at, h', of_b, ofB] at h; done) | exact hkM (by intro l hl; have h2 : l ≠ 0 := (by omega); have h3 : l ≠ 1000000 := (by omega); have h4 : ∀ k, k < 1000000 → l ≠ k := fun k hk => (by omega); simp [upd_at, h2, h3, h4, of_b, ofB]) (by simp [ofB]) l hl h | (simp [upd_at, ofB, h'] at h ⊢; done))
      · exact ⟨by simp only; omega, d2, by simp only [List.length_drop]; omega⟩
      · simp only; omega
    · have hc0 : rest.count c = 0 := by omega
      rw [spl_no c rest hc0] at g2
      obtain ⟨d1, d2, d3⟩ := drop_cons [] g2
      refine endV (by simp only [go_sem, Nat.reduceEqDiff, reduceCtorEq, Nat.reduceAdd, Nat.reduceLT, Nat.reduceLeDiff, Nat.reduceSub, resP, RV.q]) (by intro l hl; have h' : ∀ k, k < 1000000 → l ≠ k := fun k hk => (by omega); simp [upd_at, h', of_b, ofB]) rfl ?_
      (try simp only [go_sem, Nat.reduceEqDiff, reduceCtorEq, Nat.reduceAdd, Nat.reduceLT, Nat.reduceLeDiff, Nat.reduceSub, resA, RV.q, finA, fin1, finL, AV.d.injEq, AV.tup.injEq, AV.agg.injEq, DV.bool.injEq, DV.int.injEq, DV.str.injEq, DV.sl.injEq, List.cons.injEq])
      (first | done | (simp_all []; done) | (simp_all []; omega) | skip)
      rw [modify_fillT _ _ _ _ (congrArg (fun x => [DV.str x]) d1.symm), fillT_all _ _ _ _ (by omega), List.take_of_length_le (by simp; omega)]
  · exact ⟨by simp, by simp, by simp⟩
theorem c_Split (s : Txt) (c : UInt8) (hs : s.length ≤ 140737488355328) (hn : s.length ≤ 1000000000) : Fn Tryd.prog 71 [sv s, sv [c]] none (.d (dTxts (spl c s))) none none none := by
  refine fn_ok' r71 (sc := s71) (loud := loudF) (fn := Tryd.f71) (by kernel_rfl) k71 (by decide) mixed (Nat.le_of_ble_eq_true rfl) (by kernel_rfl) (bigN _ _) ?_
  simp only [go_sem, Nat.reduceEqDiff, reduceCtorEq, Nat.reduceAdd, Nat.reduceLT, Nat.reduceLeDiff, Nat.reduceSub, s71, r71]
  repeat' (first | (refine grdL_split ?_ ?_ <;> intro h <;> (try simp only [go_sem, Nat.reduceEqDiff, reduceCtorEq, Nat.reduceAdd, Nat.reduceLT, Nat.reduceLeDiff, Nat.reduceSub, h]) <;> (try simp only [decide_eq_true_eq, decide_eq_false_iff_not, beq_iff_eq, bne_iff_ne, ne_eq, beq_eq_false_iff_ne, bne_eq_false_iff_eq, Bool.not_eq_true, Bool.not_eq_false, Bool.or_eq_true, Bool.and_eq_true, Bool.not_eq_eq_eq_not, Bool.not_true, Bool.not_false, Int.ofNat_lt, Int.ofNat_le, gt_iff_lt, ge_iff_le, Int.ofNat_inj, Int.natCast_pos, Int.toNat_natCast, Decidable.not_not] at h)) | (refine brkL_split ?_ ?_ <;> intro h <;> (try simp only [go_sem, Nat.reduceEqDiff, reduceCtorEq, Nat.reduceAdd, Nat.reduceLT, Nat.reduceLeDiff, Nat.reduceSub, h]) <;> (try simp only [decide_eq_true_eq, decide_eq_false_iff_not, beq_iff_eq, bne_iff_ne, ne_eq, beq_eq_false_iff_ne, bne_eq_false_iff_eq, Bool.not_eq_true, Bool.not_eq_false, Bool.or_eq_true, Bool.and_eq_true, Bool.not_eq_eq_eq_not, Bool.not_true, Bool.not_false, Int.ofNat_lt, Int.ofNat_le, gt_iff_lt, ge_iff_le, Int.ofNat_inj, Int.natCast_pos, Int.toNat_natCast, Decidable.not_not] at h)) | (with_reducible refine And.intro ?_ ?_) | (refine useV (c_genSplit _ _ ?_ ?_) rfl rfl rfl (by first | exact .inl rfl | exact .inr rfl | (right; simp [flatA, flat1, flatL, flatD])) ?_; rotate_right; (try simp only [go_sem, Nat.reduceEqDiff, reduceCtorEq, Nat.reduceAdd, Nat.reduceLT, Nat.reduceLeDiff, Nat.reduceSub])))
  all_goals (try (first | exact True.intro | with_reducible rfl | contradiction | omega | (simp only [inK, List.length_take, List.length_drop, List.length_map, List.length_modify, List.length_replicate, List.length_append, length_fillT]; omega) | exact rfl))
  refine endV (by simp only [go_sem, Nat.reduceEqDiff, reduceCtorEq, Nat.reduceAdd, Nat.reduceLT, Nat.reduceLeDiff, Nat.reduceSub, resP, RV.q]) (by intro l hl; have h' : ∀ k, k < 1000000 → l ≠ k := fun k hk => (by omega); simp [upd_at, h', of_b, ofB]) rfl ?_
  (try simp only [go_sem, Nat.reduceEqDiff, reduceCtorEq, Nat.reduceAdd, Nat.reduceLT, Nat.reduceLeDiff, Nat.reduceSub, resA, RV.q, finA, fin1, finL, AV.d.injEq, AV.tup.injEq, AV.agg.injEq, DV.bool.injEq, DV.int.injEq, DV.str.injEq, DV.sl.injEq, List.cons.injEq])
  (first | done | (simp_all []; done) | (simp_all []; omega) | skip)
end Go.Proofs.YtchmoleeajkioaaDoor.V
