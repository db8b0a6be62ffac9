/-
  Names, and small tests, of the reference.
-/
import Derived.Test.YtchmoleeajkioaaDoorTa
namespace Go.Proofs.YtchmoleeajkioaaDoor.V
open Go Go.RowKit
set_option linter.unusedSimpArgs false
set_option linter.unusedVariables false
set_option maxRecDepth 100000

/-! ### Searches, told plainly -/
/-- The first place where p holds; -1 without one. -/
def fidx {α : Type} (p : α → Bool) (l : List α) : Int := match l.findIdx? p with
  | some i => (i : Int)
  | none => -1
theorem fidx_at {α : Type} {p : α → Bool} {l : List α} {i : Nat} {d : α} (h : ∀ y ∈ l.take i, p y = false) (hi : i < l.length) (hp : p (l.getD i d) = true) : fidx p l = i := by
  rw [List.getD, List.getElem?_eq_getElem hi] at hp
  have : l.findIdx? p = some i := by
    rw [List.findIdx?_eq_some_iff_getElem]
    refine ⟨hi, hp, fun j hj => ?_⟩
    have hj' : j < l.length := by omega
    have := h l[j] (by
      rw [List.mem_take_iff_getElem]
      exact ⟨j, by omega, rfl⟩)
    simp [this]
  simp [fidx, this]
theorem fidx_no {α : Type} {p : α → Bool} {l : List α} (h : ∀ y ∈ l, p y = false) : fidx p l = -1 := by
  have : l.findIdx? p = none := by
    rw [List.findIdx?_eq_none_iff]; exact h
  simp [fidx, this]
theorem fidx_lt {α : Type} (p : α → Bool) (l : List α) : fidx p l < l.length := by
  unfold fidx
  split
  · rename_i i hi
    rw [List.findIdx?_eq_some_iff_getElem] at hi
    obtain ⟨h, _⟩ := hi
    omega
  · omega
theorem fidx_ge {α : Type} (p : α → Bool) (l : List α) : -1 ≤ fidx p l := by
  unfold fidx; split <;> omega
theorem all_snoc {α : Type} {l : List α} {φ : α → Prop} {i : Nat} (d : α) (h : ∀ y ∈ l.take i, φ y) (hi : i < l.length) (h' : φ (l.getD i d)) : ∀ y ∈ l.take (i + 1), φ y := by
  intro y hy
  rw [List.take_succ_eq_append_getElem hi] at hy
  rcases List.mem_append.1 hy with hy | hy
  · exact h y hy
  · rw [List.getD, List.getElem?_eq_getElem hi] at h'
    simp only [List.mem_singleton] at hy
    subst hy; exact h'
theorem all_end {α : Type} {l : List α} {φ : α → Prop} {i : Nat} (h : ∀ y ∈ l.take i, φ y) (hi : l.length ≤ i) : ∀ y ∈ l, φ y := by
  rwa [List.take_of_length_le hi] at h
theorem getD_mem {α : Type} {l : List α} {i : Nat} {d : α} (h : i < l.length) : l.getD i d ∈ l := by
  rw [List.getD, List.getElem?_eq_getElem h]; exact List.getElem_mem h

/-- p holds at all places below n. -/
def allTo (n : Nat) (p : Nat → Bool) : Bool := (List.range n).all p
theorem allTo_no {n : Nat} {p : Nat → Bool} {i : Nat} (hi : i < n) (h : p i = false) : allTo n p = false := by
  simp only [allTo, List.all_eq_false, List.mem_range]
  exact ⟨i, hi, by simp [h]⟩
theorem allTo_yes {n : Nat} {p : Nat → Bool} (h : ∀ k, k < n → p k = true) : allTo n p = true := by
  simpa [allTo] using h
theorem allTo_congr {n : Nat} {p q : Nat → Bool} (h : ∀ k, k < n → p k = q k) : allTo n p = allTo n q := by
  rw [Bool.eq_iff_iff]
  simp only [allTo, List.all_eq_true, List.mem_range]
  exact ⟨fun g k hk => by rw [← h k hk]; exact g k hk, fun g k hk => by rw [h k hk]; exact g k hk⟩
theorem below_succ {p : Nat → Bool} {i : Nat} (h : ∀ k, k < i → p k = true) (h' : p i = true) : ∀ k, k < i + 1 → p k = true := fun k hk => by
  by_cases e : k = i
  · subst e; exact h'
  · exact h k (by omega)

/-! ### Letters, digits, words -/
def letter (c : Int) : Bool := (decide (97 ≤ c) && decide (c ≤ 122)) || (decide (65 ≤ c) && decide (c ≤ 90)) || c == 95
def digit (c : Int) : Bool := decide (48 ≤ c) && decide (c ≤ 57)
def okc (c : UInt8) : Bool := letter c.toNat || digit c.toNat
/-- A name. -/
def word (s : Txt) : Bool := decide (1 ≤ s.length) && decide (s.length ≤ 40) && letter ((s.getD 0 0).toNat : Nat) && s.all okc
def inR (n lo hi : Int) : Bool := decide (lo ≤ n) && decide (n ≤ hi)
def wordList : List Txt := [[115, 101, 108, 101, 99, 116], [102, 114, 111, 109], [106, 111, 105, 110], [111, 110], [119, 104, 101, 114, 101], [103, 114, 111, 117, 112], [98, 121], [111, 114, 100, 101, 114], [108, 105, 109, 105, 116], [100, 101, 115, 99], [105, 110, 115, 101, 114, 116], [105, 110, 116, 111], [118, 97, 108, 117, 101, 115], [117, 112, 100, 97, 116, 101], [115, 101, 116], [100, 101, 108, 101, 116, 101], [97, 110, 100], [111, 114], [110, 111, 116], [105, 115], [110, 117, 108, 108], [116, 114, 117, 101], [102, 97, 108, 115, 101], [99, 111, 117, 110, 116], [115, 117, 109], [109, 105, 110], [109, 97, 120], [97, 115]]
/-- A name that is no word of statements. -/
def freeW (s : Txt) : Bool := word s && !wordList.contains s

theorem c_letter (c : Int) : Fn Tryd.prog 74 [iv .u8 c] none (bv (letter c)) none none none := by
  refine fn_ok' r74 (sc := s74) (loud := loudF) (fn := Tryd.f74) (by kernel_rfl) k74 (by decide) mixed (Nat.le_of_ble_eq_true rfl) (by kernel_rfl) (bigN _ _) ?_
  simp only [go_sem, Nat.reduceEqDiff, reduceCtorEq, Nat.reduceAdd, Nat.reduceLT, Nat.reduceLeDiff, Nat.reduceSub, s74, r74]
  repeat' (first | (refine grdL_split ?_ ?_ <;> intro h <;> (try simp only [go_sem, Nat.reduceEqDiff, reduceCtorEq, Nat.reduceAdd, Nat.reduceLT, Nat.reduceLeDiff, Nat.reduceSub, h]) <;> (try simp only [decide_eq_true_eq, decide_eq_false_iff_not, beq_iff_eq, bne_iff_ne, ne_eq, beq_eq_false_iff_ne, bne_eq_false_iff_eq, Bool.not_eq_true, Bool.not_eq_false, Bool.or_eq_true, Bool.and_eq_true, Bool.not_eq_eq_eq_not, Bool.not_true, Bool.not_false, Int.ofNat_lt, Int.ofNat_le, gt_iff_lt, ge_iff_le, Int.ofNat_inj, Int.natCast_pos, Int.toNat_natCast, Decidable.not_not] at h)) | (refine brkL_split ?_ ?_ <;> intro h <;> (try simp only [go_sem, Nat.reduceEqDiff, reduceCtorEq, Nat.reduceAdd, Nat.reduceLT, Nat.reduceLeDiff, Nat.reduceSub, h]) <;> (try simp only [decide_eq_true_eq, decide_eq_false_iff_not, beq_iff_eq, bne_iff_ne, ne_eq, beq_eq_false_iff_ne, bne_eq_false_iff_eq, Bool.not_eq_true, Bool.not_eq_false, Bool.or_eq_true, Bool.and_eq_true, Bool.not_eq_eq_eq_not, Bool.not_true, Bool.not_false, Int.ofNat_lt, Int.ofNat_le, gt_iff_lt, ge_iff_le, Int.ofNat_inj, Int.natCast_pos, Int.toNat_natCast, Decidable.not_not] at h)) | (with_reducible refine And.intro ?_ ?_))
  all_goals (try (first | exact True.intro | with_reducible rfl | contradiction | omega | (simp only [inK, List.length_take, List.length_drop, List.length_map, List.length_modify, List.length_replicate, List.length_append, length_fillT]; omega) | exact rfl))
  all_goals
    refine endV (by simp only [go_sem, Nat.reduceEqDiff, reduceCtorEq, Nat.reduceAdd, Nat.reduceLT, Nat.reduceLeDiff, Nat.reduceSub, resP, RV.q]) (by intro l hl; have h' : ∀ k, k < 1000000 → l ≠ k := fun k hk => (by omega); simp [upd_at, h', of_b, ofB]) rfl ?_
    (try simp only [go_sem, Nat.reduceEqDiff, reduceCtorEq, Nat.reduceAdd, Nat.reduceLT, Nat.reduceLeDiff, Nat.reduceSub, resA, RV.q, finA, fin1, finL, AV.d.injEq, AV.tup.injEq, AV.agg.injEq, DV.bool.injEq, DV.int.injEq, DV.str.injEq, DV.sl.injEq, List.cons.injEq])
    (first | done | (simp_all [letter]; done) | (simp_all [letter]; omega) | skip)
theorem c_digit (c : Int) : Fn Tryd.prog 75 [iv .u8 c] none (bv (digit c)) none none none := by
  refine fn_ok' r75 (sc := s75) (loud := loudF) (fn := Tryd.f75) (by kernel_rfl) k75 (by decide) mixed (Nat.le_of_ble_eq_true rfl) (by kernel_rfl) (bigN _ _) ?_
  simp only [go_sem, Nat.reduceEqDiff, reduceCtorEq, Nat.reduceAdd, Nat.reduceLT, Nat.reduceLeDiff, Nat.reduceSub, s75, r75]
  repeat' (first | (refine grdL_split ?_ ?_ <;> intro h <;> (try simp only [go_sem, Nat.reduceEqDiff, reduceCtorEq, Nat.reduceAdd, Nat.reduceLT, Nat.reduceLeDiff, Nat.reduceSub, h]) <;> (try simp only [decide_eq_true_eq, decide_eq_false_iff_not, beq_iff_eq, bne_iff_ne, ne_eq, beq_eq_false_iff_ne, bne_eq_false_iff_eq, Bool.not_eq_true, Bool.not_eq_false, Bool.or_eq_true, Bool.and_eq_true, Bool.not_eq_eq_eq_not, Bool.not_true, Bool.not_false, Int.ofNat_lt, Int.ofNat_le, gt_iff_lt, ge_iff_le, Int.ofNat_inj, Int.natCast_pos, Int.toNat_natCast, Decidable.not_not] at h)) | (refine brkL_split ?_ ?_ <;> intro h <;> (try simp only [go_sem, Nat.reduceEqDiff, reduceCtorEq, Nat.reduceAdd, Nat.reduceLT, Nat.reduceLeDiff, Nat.reduceSub, h]) <;> (try simp only [decide_eq_true_eq, decide_eq_false_iff_not, beq_iff_eq, bne_iff_ne, ne_eq, beq_eq_false_iff_ne, bne_eq_false_iff_eq, Bool.not_eq_true, Bool.not_eq_false, Bool.or_eq_true, Bool.and_eq_true, Bool.not_eq_eq_eq_not, Bool.not_true, Bool.not_false, Int.ofNat_lt, Int.ofNat_le, gt_iff_lt, ge_iff_le, Int.ofNat_inj, Int.natCast_pos, Int.toNat_natCast, Decidable.not_not] at h)) | (with_reducible refine And.intro ?_ ?_))
  all_goals (try (first | exact True.intro | with_reducible rfl | contradiction | omega | (simp only [inK, List.length_take, List.length_drop, List.length_map, List.length_modify, List.length_replicate, List.length_append, length_fillT]; omega) | exact rfl))
  all_goals
    refine endV (by simp only [go_sem, Nat.reduceEqDiff, reduceCtorEq, Nat.reduceAdd, Nat.reduceLT, Nat.reduceLeDiff, Nat.reduceSub, resP, RV.q]) (by intro l hl; have h' : ∀ k, k < 1000000 → l ≠ k := fun k hk => (by omega); simp [upd_at, h', of_b, ofB]) rfl ?_
    (try simp only [go_sem, Nat.reduceEqDiff, reduceCtorEq, Nat.reduceAdd, Nat.reduceLT, Nat.reduceLeDiff, Nat.reduceSub, resA, RV.q, finA, fin1, finL, AV.d.injEq, AV.tup.injEq, AV.agg.injEq, DV.bool.injEq, DV.int.injEq, DV.str.injEq, DV.sl.injEq, List.cons.injEq])
    (first | done | (simp_all [digit]; done) | (simp_all [digit]; omega) | skip)

theorem word_no {s : Txt} {i : Nat} (hi : i < s.length) (h : okc (s.getD i 0) = false) : word s = false := by
  have : s.all okc = false := by
    rw [List.all_eq_false]
    exact ⟨_, getD_mem (d := 0) hi, by rw [h]; decide⟩
  simp [word, this]
theorem word_yes {s : Txt} (h1 : 1 ≤ s.length) (h2 : s.length ≤ 40) (h3 : letter ((s.getD 0 0).toNat : Nat) = true) (h : ∀ y ∈ s, okc y = true) : word s = true := by
  have : s.all okc = true := List.all_eq_true.2 h
  unfold word
  rw [this, h3]
  simp
  omega

theorem c_word (s : Txt) : Fn Tryd.prog 67 [sv s] none (bv (word s)) none none none := by
  refine fn_ok' r67 (sc := s67) (loud := loudF) (fn := Tryd.f67) (by kernel_rfl) k67 (by decide) mixed (Nat.le_of_ble_eq_true rfl) (by kernel_rfl) (bigN _ _) ?_
  simp only [go_sem, Nat.reduceEqDiff, reduceCtorEq, Nat.reduceAdd, Nat.reduceLT, Nat.reduceLeDiff, Nat.reduceSub, s67, r67]
  repeat' (first | (refine grdL_split ?_ ?_ <;> intro h <;> (try simp only [go_sem, Nat.reduceEqDiff, reduceCtorEq, Nat.reduceAdd, Nat.reduceLT, Nat.reduceLeDiff, Nat.reduceSub, h]) <;> (try simp only [decide_eq_true_eq, decide_eq_false_iff_not, beq_iff_eq, bne_iff_ne, ne_eq, beq_eq_false_iff_ne, bne_eq_false_iff_eq, Bool.not_eq_true, Bool.not_eq_false, Bool.or_eq_true, Bool.and_eq_true, Bool.not_eq_eq_eq_not, Bool.not_true, Bool.not_false, Int.ofNat_lt, Int.ofNat_le, gt_iff_lt, ge_iff_le, Int.ofNat_inj, Int.natCast_pos, Int.toNat_natCast, Decidable.not_not] at h)) | (refine brkL_split ?_ ?_ <;> intro h <;> (try simp only [go_sem, Nat.reduceEqDiff, reduceCtorEq, Nat.reduceAdd, Nat.reduceLT, Nat.reduceLeDiff, Nat.reduceSub, h]) <;> (try simp only [decide_eq_true_eq, decide_eq_false_iff_not, beq_iff_eq, bne_iff_ne, ne_eq, beq_eq_false_iff_ne, bne_eq_false_iff_eq, Bool.not_eq_true, Bool.not_eq_false, Bool.or_eq_true, Bool.and_eq_true, Bool.not_eq_eq_eq_not, Bool.not_true, Bool.not_false, Int.ofNat_lt, Int.ofNat_le, gt_iff_lt, ge_iff_le, Int.ofNat_inj, Int.natCast_pos, Int.toNat_natCast, Decidable.not_not] at h)) | (with_reducible refine And.intro ?_ ?_) | (refine useV (c_letter _) rfl rfl rfl (by first | exact .inl rfl | exact .inr rfl | (right; simp [flatA, flat1, flatL, flatD])) ?_; rotate_right; (try simp only [go_sem, Nat.reduceEqDiff, reduceCtorEq, Nat.reduceAdd, Nat.reduceLT, Nat.reduceLeDiff, Nat.reduceSub])) | (refine useV (c_digit _) rfl rfl rfl (by first | exact .inl rfl | exact .inr rfl | (right; simp [flatA, flat1, flatL, flatD])) ?_; rotate_right; (try simp only [go_sem, Nat.reduceEqDiff, reduceCtorEq, Nat.reduceAdd, Nat.reduceLT, Nat.reduceLeDiff, Nat.reduceSub])))
  all_goals (try (first | exact True.intro | with_reducible rfl | contradiction | omega | (simp only [inK, List.length_take, List.length_drop, List.length_map, List.length_modify, List.length_replicate, List.length_append, length_fillT]; omega) | exact rfl))
  · refine endV (by simp only [go_sem, Nat.reduceEqDiff, reduceCtorEq, Nat.reduceAdd, Nat.reduceLT, Nat.reduceLeDiff, Nat.reduceSub, resP, RV.q]) (by intro l hl; have h' : ∀ k, k < 1000000 → l ≠ k := fun k hk => (by omega); simp [upd_at, h', of_b, ofB]) rfl ?_
    (try simp only [go_sem, Nat.reduceEqDiff, reduceCtorEq, Nat.reduceAdd, Nat.reduceLT, Nat.reduceLeDiff, Nat.reduceSub, resA, RV.q, finA, fin1, finL, AV.d.injEq, AV.tup.injEq, AV.agg.injEq, DV.bool.injEq, DV.int.injEq, DV.str.injEq, DV.sl.injEq, List.cons.injEq])
    (first | done | (simp_all []; done) | (simp_all []; omega) | skip)
    simp only [word]; have h : ¬ 1 ≤ s.length := by omega
    simp [h]
  · refine endV (by simp only [go_sem, Nat.reduceEqDiff, reduceCtorEq, Nat.reduceAdd, Nat.reduceLT, Nat.reduceLeDiff, Nat.reduceSub, resP, RV.q]) (by intro l hl; have h' : ∀ k, k < 1000000 → l ≠ k := fun k hk => (by omega); simp [upd_at, h', of_b, ofB]) rfl ?_
    (try simp only [go_sem, Nat.reduceEqDiff, reduceCtorEq, Nat.reduceAdd, Nat.reduceLT, Nat.reduceLeDiff, Nat.reduceSub, resA, RV.q, finA, fin1, finL, AV.d.injEq, AV.tup.injEq, AV.agg.injEq, DV.bool.injEq, DV.int.injEq, DV.str.injEq, DV.sl.injEq, List.cons.injEq])
    (first | done | (simp_all []; done) | (simp_all []; omega) | skip)
    simp only [word]; have h : ¬ s.length ≤ 40 := by omega
    simp [h]
  · refine endV (by simp only [go_sem, Nat.reduceEqDiff, reduceCtorEq, Nat.reduceAdd, Nat.reduceLT, Nat.reduceLeDiff, Nat.reduceSub, resP, RV.q]) (by intro l hl; have h' : ∀ k, k < 1000000 → l ≠ k := fun k hk => (by omega); simp [upd_at, h', of_b, ofB]) rfl ?_
    (try simp only [go_sem, Nat.reduceEqDiff, reduceCtorEq, Nat.reduceAdd, Nat.reduceLT, Nat.reduceLeDiff, Nat.reduceSub, resA, RV.q, finA, fin1, finL, AV.d.injEq, AV.tup.injEq, AV.agg.injEq, DV.bool.injEq, DV.int.injEq, DV.str.injEq, DV.sl.injEq, List.cons.injEq])
    (first | done | (simp_all [word]; done) | (simp_all [word]; omega) | skip)
  · refine loop_inv (fun i : Nat => 1 ≤ i ∧ 1 ≤ s.length ∧ s.length ≤ 40 ∧ letter ((s.getD 0 0).toNat : Nat) = true ∧ ∀ y ∈ s.take i, okc y = true) (fun i => s.length - i) (fun i => St.of [(0, sv s), (3, iv .i64 i)] [] []) (1) ?_ ?_ ?_
    rotate_left
    · refine weak_of _ _ _ ?_ ?_ ?_ ?_
      · (try simp only [go_sem, Nat.reduceEqDiff, reduceCtorEq, Nat.reduceAdd, Nat.reduceLT, Nat.reduceLeDiff, Nat.reduceSub, allLe, St.H, Hp.of]); repeat' (first | exact trivial | with_reducible refine And.intro ?_ ?_ | with_reducible exact Le.d _ | exact Le.any _ | refine Le.dI ?_ | refine Le.dS ?_ | refine Le.dB ?_ | refine Le.dL ?_ | exact Le.nild _ | exact Le.nils _ | refine Le.ow ?_ ?_ | exact Le.rptr _ | (refine Le.ptr ?_; simp [ofB]; done) | refine Le.cl ?_ ?_ | apply LeA.nil | apply LeA.cons); all_goals (try (first | rfl | omega | exact (fillT_zero _ _ _).symm | exact modify_fillT _ _ _ _ rfl | (congr 1; omega) | (simp only [go_sem, Nat.reduceEqDiff, reduceCtorEq, Nat.reduceAdd, Nat.reduceLT, Nat.reduceLeDiff, Nat.reduceSub]; done) | (simp [upd_at, ofT]; done)))
      · (try simp only [go_sem, Nat.reduceEqDiff, reduceCtorEq, Nat.reduceAdd, Nat.reduceLT, Nat.reduceLeDiff, Nat.reduceSub, allLeB, St.H, Hp.of]); repeat' (first | exact trivial | with_reducible refine And.intro ?_ ?_ | (refine ⟨_, rfl, ?_⟩) | exact stb_le (by assumption) | with_reducible exact Le.d _ | exact Le.any _ | refine Le.dI ?_ | refine Le.dS ?_ | refine Le.dB ?_ | refine Le.dL ?_ | exact Le.nild _ | exact Le.nils _ | refine Le.ow ?_ ?_ | exact Le.rptr _ | apply LeA.nil | apply LeA.cons); all_goals (try (first | rfl | omega | exact (fillT_zero _ _ _).symm | exact modify_fillT _ _ _ _ rfl | (congr 1; omega) | (simp only [go_sem, Nat.reduceEqDiff, reduceCtorEq, Nat.reduceAdd, Nat.reduceLT, Nat.reduceLeDiff, Nat.reduceSub]; done) | (simp [upd_at, ofT]; done)))
      · (try simp only [go_sem, Nat.reduceEqDiff, reduceCtorEq, Nat.reduceAdd, Nat.reduceLT, Nat.reduceLeDiff, Nat.reduceSub, allT]); all_goals (first | trivial | (simp [upd_at]; done) | (simp [upd_at]; omega))
      · intro l hl h; have h' : ∀ k, k < 1000000 → l ≠ k := fun k hk => (by omega); (first | exact absurd rfl h | (simp [upd_at, h', of_b, ofB] at h; done) | exact hkM (by intro l hl; have h2 : l ≠ 0 := (by omega); have h3 : l ≠ 1000000 := (by omega); have h4 : ∀ k, k < 1000000 → l ≠ k := fun k hk => (by omega); simp [upd_at, h2, h3, h4, of_b, ofB]) (by simp [ofB]) l hl h | (simp [upd_at, ofB, h'] at h ⊢; done))
    rotate_left
    rotate_left
    · rintro i ⟨g1, g2, g3, g4, g5⟩
      simp only [go_sem, Nat.reduceEqDiff, reduceCtorEq, Nat.reduceAdd, Nat.reduceLT, Nat.reduceLeDiff, Nat.reduceSub]
      repeat' (first | (refine grdL_split ?_ ?_ <;> intro h <;> (try simp only [go_sem, Nat.reduceEqDiff, reduceCtorEq, Nat.reduceAdd, Nat.reduceLT, Nat.reduceLeDiff, Nat.reduceSub, h]) <;> (try simp only [decide_eq_true_eq, decide_eq_false_iff_not, beq_iff_eq, bne_iff_ne, ne_eq, beq_eq_false_iff_ne, bne_eq_false_iff_eq, Bool.not_eq_true, Bool.not_eq_false, Bool.or_eq_true, Bool.and_eq_true, Bool.not_eq_eq_eq_not, Bool.not_true, Bool.not_false, Int.ofNat_lt, Int.ofNat_le, gt_iff_lt, ge_iff_le, Int.ofNat_inj, Int.natCast_pos, Int.toNat_natCast, Decidable.not_not] at h)) | (refine brkL_split ?_ ?_ <;> intro h <;> (try simp only [go_sem, Nat.reduceEqDiff, reduceCtorEq, Nat.reduceAdd, Nat.reduceLT, Nat.reduceLeDiff, Nat.reduceSub, h]) <;> (try simp only [decide_eq_true_eq, decide_eq_false_iff_not, beq_iff_eq, bne_iff_ne, ne_eq, beq_eq_false_iff_ne, bne_eq_false_iff_eq, Bool.not_eq_true, Bool.not_eq_false, Bool.or_eq_true, Bool.and_eq_true, Bool.not_eq_eq_eq_not, Bool.not_true, Bool.not_false, Int.ofNat_lt, Int.ofNat_le, gt_iff_lt, ge_iff_le, Int.ofNat_inj, Int.natCast_pos, Int.toNat_natCast, Decidable.not_not] at h)) | (with_reducible refine And.intro ?_ ?_) | (refine useV (c_letter _) rfl rfl rfl (by first | exact .inl rfl | exact .inr rfl | (right; simp [flatA, flat1, flatL, flatD])) ?_; rotate_right; (try simp only [go_sem, Nat.reduceEqDiff, reduceCtorEq, Nat.reduceAdd, Nat.reduceLT, Nat.reduceLeDiff, Nat.reduceSub])) | (refine useV (c_digit _) rfl rfl rfl (by first | exact .inl rfl | exact .inr rfl | (right; simp [flatA, flat1, flatL, flatD])) ?_; rotate_right; (try simp only [go_sem, Nat.reduceEqDiff, reduceCtorEq, Nat.reduceAdd, Nat.reduceLT, Nat.reduceLeDiff, Nat.reduceSub])))
      all_goals (try (first | exact True.intro | with_reducible rfl | contradiction | omega | (simp only [inK, List.length_take, List.length_drop, List.length_map, List.length_modify, List.length_replicate, List.length_append, length_fillT]; omega) | exact rfl))
      · refine endV (by simp only [go_sem, Nat.reduceEqDiff, reduceCtorEq, Nat.reduceAdd, Nat.reduceLT, Nat.reduceLeDiff, Nat.reduceSub, resP, RV.q]) (by intro l hl; have h' : ∀ k, k < 1000000 → l ≠ k := fun k hk => (by omega); simp [upd_at, h', of_b, ofB]) rfl ?_
        (try simp only [go_sem, Nat.reduceEqDiff, reduceCtorEq, Nat.reduceAdd, Nat.reduceLT, Nat.reduceLeDiff, Nat.reduceSub, resA, RV.q, finA, fin1, finL, AV.d.injEq, AV.tup.injEq, AV.agg.injEq, DV.bool.injEq, DV.int.injEq, DV.str.injEq, DV.sl.injEq, List.cons.injEq])
        (first | done | (simp_all []; done) | (simp_all []; omega) | skip)
        exact (word_no (by assumption) (by simp only [okc, Bool.or_eq_false_iff]; exact ⟨by assumption, by assumption⟩)).symm
      · refine backQ_intro (i + 1) ?_ ?_ ?_
        rotate_left
        rotate_left
        · refine weak_of _ _ _ ?_ ?_ ?_ ?_
          · (try simp only [go_sem, Nat.reduceEqDiff, reduceCtorEq, Nat.reduceAdd, Nat.reduceLT, Nat.reduceLeDiff, Nat.reduceSub, allLe, St.H, Hp.of]); repeat' (first | exact trivial | with_reducible refine And.intro ?_ ?_ | with_reducible exact Le.d _ | exact Le.any _ | refine Le.dI ?_ | refine Le.dS ?_ | refine Le.dB ?_ | refine Le.dL ?_ | exact Le.nild _ | exact Le.nils _ | refine Le.ow ?_ ?_ | exact Le.rptr _ | (refine Le.ptr ?_; simp [ofB]; done) | refine Le.cl ?_ ?_ | apply LeA.nil | apply LeA.cons); all_goals (try (first | rfl | omega | exact (fillT_zero _ _ _).symm | exact modify_fillT _ _ _ _ rfl | (congr 1; omega) | (simp only [go_sem, Nat.reduceEqDiff, reduceCtorEq, Nat.reduceAdd, Nat.reduceLT, Nat.reduceLeDiff, Nat.reduceSub]; done) | (simp [upd_at, ofT]; done)))
          · (try simp only [go_sem, Nat.reduceEqDiff, reduceCtorEq, Nat.reduceAdd, Nat.reduceLT, Nat.reduceLeDiff, Nat.reduceSub, allLeB, St.H, Hp.of]); repeat' (first | exact trivial | with_reducible refine And.intro ?_ ?_ | (refine ⟨_, rfl, ?_⟩) | exact stb_le (by assumption) | with_reducible exact Le.d _ | exact Le.any _ | refine Le.dI ?_ | refine Le.dS ?_ | refine Le.dB ?_ | refine Le.dL ?_ | exact Le.nild _ | exact Le.nils _ | refine Le.ow ?_ ?_ | exact Le.rptr _ | apply LeA.nil | apply LeA.cons); all_goals (try (first | rfl | omega | exact (fillT_zero _ _ _).symm | exact modify_fillT _ _ _ _ rfl | (congr 1; omega) | (simp only [go_sem, Nat.reduceEqDiff, reduceCtorEq, Nat.reduceAdd, Nat.reduceLT, Nat.reduceLeDiff, Nat.reduceSub]; done) | (simp [upd_at, ofT]; done)))
          · (try simp only [go_sem, Nat.reduceEqDiff, reduceCtorEq, Nat.reduceAdd, Nat.reduceLT, Nat.reduceLeDiff, Nat.reduceSub, allT]); all_goals (first | trivial | (simp [upd_at]; done) | (simp [upd_at]; omega))
          · intro l hl h; have h' : ∀ k, k < 1000000 → l ≠ k := fun k hk => (by omega); (first | exact absurd rfl h | (simp [upd_at, h', of_b, ofB] at h; done) | exact hkM (by intro l hl; have h2 : l ≠ 0 := (by omega); have h3 : l ≠ 1000000 := (by omega); have h4 : ∀ k, k < 1000000 → l ≠ k := fun k hk => (by omega); simp [upd_at, h2, h3, h4, of_b, ofB]) (by simp [ofB]) l hl h | (simp [upd_at, ofB, h'] at h ⊢; done))
        · exact ⟨by omega, g2, g3, g4, all_snoc 0 g5 (by omega) (by simp only [okc, *, Bool.or_true, Bool.true_or])⟩
        · omega
      · refine backQ_intro (i + 1) ?_ ?_ ?_
        rotate_left
        rotate_left
        · refine weak_of _ _ _ ?_ ?_ ?_ ?_
          · (try simp only [go_sem, Nat.reduceEqDiff, reduceCtorEq, Nat.reduceAdd, Nat.reduceLT, Nat.reduceLeDiff, Nat.reduceSub, allLe, St.H, Hp.of]); repeat' (first | exact trivial | with_reducible refine And.intro ?_ ?_ | with_reducible exact Le.d _ | exact Le.any _ | refine Le.dI ?_ | refine Le.dS ?_ | refine Le.dB ?_ | refine Le.dL ?_ | exact Le.nild _ | exact Le.nils _ | refine Le.ow ?_ ?_ | exact Le.rptr _ | (refine Le.ptr ?_; simp [ofB]; done) | refine Le.cl ?_ ?_ | apply LeA.nil | apply LeA.cons); all_goals (try (first | rfl | omega | exact (fillT_zero _ _ _).symm | exact modify_fillT _ _ _ _ rfl | (congr 1; omega) | (simp only [go_sem, Nat.reduceEqDiff, reduceCtorEq, Nat.reduceAdd, Nat.reduceLT, Nat.reduceLeDiff, Nat.reduceSub]; done) | (simp [upd_at, ofT]; done)))
          · (try simp only [go_sem, Nat.reduceEqDiff, reduceCtorEq, Nat.reduceAdd, Nat.reduceLT, Nat.reduceLeDiff, Nat.reduceSub, allLeB, St.H, Hp.of]); repeat' (first | exact trivial | with_reducible refine And.intro ?_ ?_ | (refine ⟨_, rfl, ?_⟩) | exact stb_le (by assumption) | with_reducible exact Le.d _ | exact Le.any _ | refine Le.dI ?_ | refine Le.dS ?_ | refine Le.dB ?_ | refine Le.dL ?_ | exact Le.nild _ | exact Le.nils _ | refine Le.ow ?_ ?_ | exact Le.rptr _ | apply LeA.nil | apply LeA.cons); all_goals (try (first | rfl | omega | exact (fillT_zero _ _ _).symm | exact modify_fillT _ _ _ _ rfl | (congr 1; omega) | (simp only [go_sem, Nat.reduceEqDiff, reduceCtorEq, Nat.reduceAdd, Nat.reduceLT, Nat.reduceLeDiff, Nat.reduceSub]; done) | (simp [upd_at, ofT]; done)))
          · (try simp only [go_sem, Nat.reduceEqDiff, reduceCtorEq, Nat.reduceAdd, Nat.reduceLT, Nat.reduceLeDiff, Nat.reduceSub, allT]); all_goals (first | trivial | (simp [upd_at]; done) | (simp [upd_at]; omega))
          · intro l hl h; have h' : ∀ k, k < 1000000 → l ≠ k := fun k hk => (by omega); (first | exact absurd rfl h | (simp [upd_at, h', of_b, ofB] at h; done) | exact hkM (by intro l hl; have h2 : l ≠ 0 := (by omega); have h3 : l ≠ 1000000 := (by omega); have h4 : ∀ k, k < 1000000 → l ≠ k := fun k hk => (by omega); simp [upd_at, h2, h3, h4, of_b, ofB]) (by simp [ofB]) l hl h | (simp [upd_at, ofB, h'] at h ⊢; done))
        · exact ⟨by omega, g2, g3, g4, all_snoc 0 g5 (by omega) (by simp only [okc, *, Bool.or_true, Bool.true_or])⟩
        · omega
      · refine endV (by simp only [go_sem, Nat.reduceEqDiff, reduceCtorEq, Nat.reduceAdd, Nat.reduceLT, Nat.reduceLeDiff, Nat.reduceSub, resP, RV.q]) (by intro l hl; have h' : ∀ k, k < 1000000 → l ≠ k := fun k hk => (by omega); simp [upd_at, h', of_b, ofB]) rfl ?_
        (try simp only [go_sem, Nat.reduceEqDiff, reduceCtorEq, Nat.reduceAdd, Nat.reduceLT, Nat.reduceLeDiff, Nat.reduceSub, resA, RV.q, finA, fin1, finL, AV.d.injEq, AV.tup.injEq, AV.agg.injEq, DV.bool.injEq, DV.int.injEq, DV.str.injEq, DV.sl.injEq, List.cons.injEq])
        (first | done | (simp_all []; done) | (simp_all []; omega) | skip)
        exact (word_yes g2 g3 g4 (all_end g5 (by omega))).symm
    · have : s.take 1 = [s.getD 0 0] := by cases s <;> simp_all
      refine ⟨by omega, by omega, by omega, by assumption, ?_⟩
      rw [this]
      intro y hy
      simp only [List.mem_singleton] at hy
      subst hy
      simp only [okc, *, Bool.true_or]
theorem c_NameOK (s : Txt) : Fn Tryd.prog 52 [sv s] none (bv (word s)) none none none := by
  refine fn_ok' r52 (sc := s52) (loud := loudF) (fn := Tryd.f52) (by kernel_rfl) k52 (by decide) mixed (Nat.le_of_ble_eq_true rfl) (by kernel_rfl) (bigN _ _) ?_
  simp only [go_sem, Nat.reduceEqDiff, reduceCtorEq, Nat.reduceAdd, Nat.reduceLT, Nat.reduceLeDiff, Nat.reduceSub, s52, r52]
  repeat' (first | (refine grdL_split ?_ ?_ <;> intro h <;> (try simp only [go_sem, Nat.reduceEqDiff, reduceCtorEq, Nat.reduceAdd, Nat.reduceLT, Nat.reduceLeDiff, Nat.reduceSub, h]) <;> (try simp only [decide_eq_true_eq, decide_eq_false_iff_not, beq_iff_eq, bne_iff_ne, ne_eq, beq_eq_false_iff_ne, bne_eq_false_iff_eq, Bool.not_eq_true, Bool.not_eq_false, Bool.or_eq_true, Bool.and_eq_true, Bool.not_eq_eq_eq_not, Bool.not_true, Bool.not_false, Int.ofNat_lt, Int.ofNat_le, gt_iff_lt, ge_iff_le, Int.ofNat_inj, Int.natCast_pos, Int.toNat_natCast, Decidable.not_not] at h)) | (refine brkL_split ?_ ?_ <;> intro h <;> (try simp only [go_sem, Nat.reduceEqDiff, reduceCtorEq, Nat.reduceAdd, Nat.reduceLT, Nat.reduceLeDiff, Nat.reduceSub, h]) <;> (try simp only [decide_eq_true_eq, decide_eq_false_iff_not, beq_iff_eq, bne_iff_ne, ne_eq, beq_eq_false_iff_ne, bne_eq_false_iff_eq, Bool.not_eq_true, Bool.not_eq_false, Bool.or_eq_true, Bool.and_eq_true, Bool.not_eq_eq_eq_not, Bool.not_true, Bool.not_false, Int.ofNat_lt, Int.ofNat_le, gt_iff_lt, ge_iff_le, Int.ofNat_inj, Int.natCast_pos, Int.toNat_natCast, Decidable.not_not] at h)) | (with_reducible refine And.intro ?_ ?_) | (refine useV (c_word _) rfl rfl rfl (by first | exact .inl rfl | exact .inr rfl | (right; simp [flatA, flat1, flatL, flatD])) ?_; rotate_right; (try simp only [go_sem, Nat.reduceEqDiff, reduceCtorEq, Nat.reduceAdd, Nat.reduceLT, Nat.reduceLeDiff, Nat.reduceSub])))
  all_goals (try (first | exact True.intro | with_reducible rfl | contradiction | omega | (simp only [inK, List.length_take, List.length_drop, List.length_map, List.length_modify, List.length_replicate, List.length_append, length_fillT]; omega) | exact rfl))
  refine endV (by simp only [go_sem, Nat.reduceEqDiff, reduceCtorEq, Nat.reduceAdd, Nat.reduceLT, Nat.reduceLeDiff, Nat.reduceSub, resP, RV.q]) (by intro l hl; have h' : ∀ k, k < 1000000 → l ≠ k := fun k hk => (by omega); simp [upd_at, h', of_b, ofB]) rfl ?_
  (try simp only [go_sem, Nat.reduceEqDiff, reduceCtorEq, Nat.reduceAdd, Nat.reduceLT, Nat.reduceLeDiff, Nat.reduceSub, resA, RV.q, finA, fin1, finL, AV.d.injEq, AV.tup.injEq, AV.agg.injEq, DV.bool.injEq, DV.int.injEq, DV.str.injEq, DV.sl.injEq, List.cons.injEq])
  (first | done | (simp_all []; done) | (simp_all []; omega) | skip)
theorem c_In (n lo hi : Int) : Fn Tryd.prog 25 [iv .i64 n, iv .i64 lo, iv .i64 hi] none (bv (inR n lo hi)) none none none := by
  refine fn_ok' r25 (sc := s25) (loud := loudF) (fn := Tryd.f25) (by kernel_rfl) k25 (by decide) mixed (Nat.le_of_ble_eq_true rfl) (by kernel_rfl) (bigN _ _) ?_
  simp only [go_sem, Nat.reduceEqDiff, reduceCtorEq, Nat.reduceAdd, Nat.reduceLT, Nat.reduceLeDiff, Nat.reduceSub, s25, r25]
  repeat' (first | (refine grdL_split ?_ ?_ <;> intro h <;> (try simp only [go_sem, Nat.reduceEqDiff, reduceCtorEq, Nat.reduceAdd, Nat.reduceLT, Nat.reduceLeDiff, Nat.reduceSub, h]) <;> (try simp only [decide_eq_true_eq, decide_eq_false_iff_not, beq_iff_eq, bne_iff_ne, ne_eq, beq_eq_false_iff_ne, bne_eq_false_iff_eq, Bool.not_eq_true, Bool.not_eq_false, Bool.or_eq_true, Bool.and_eq_true, Bool.not_eq_eq_eq_not, Bool.not_true, Bool.not_false, Int.ofNat_lt, Int.ofNat_le, gt_iff_lt, ge_iff_le, Int.ofNat_inj, Int.natCast_pos, Int.toNat_natCast, Decidable.not_not] at h)) | (refine brkL_split ?_ ?_ <;> intro h <;> (try simp only [go_sem, Nat.reduceEqDiff, reduceCtorEq, Nat.reduceAdd, Nat.reduceLT, Nat.reduceLeDiff, Nat.reduceSub, h]) <;> (try simp only [decide_eq_true_eq, decide_eq_false_iff_not, beq_iff_eq, bne_iff_ne, ne_eq, beq_eq_false_iff_ne, bne_eq_false_iff_eq, Bool.not_eq_true, Bool.not_eq_false, Bool.or_eq_true, Bool.and_eq_true, Bool.not_eq_eq_eq_not, Bool.not_true, Bool.not_false, Int.ofNat_lt, Int.ofNat_le, gt_iff_lt, ge_iff_le, Int.ofNat_inj, Int.natCast_pos, Int.toNat_natCast, Decidable.not_not] at h)) | (with_reducible refine And.intro ?_ ?_))
  all_goals (try (first | exact True.intro | with_reducible rfl | contradiction | omega | (simp only [inK, List.length_take, List.length_drop, List.length_map, List.length_modify, List.length_replicate, List.length_append, length_fillT]; omega) | exact rfl))
  all_goals
    refine endV (by simp only [go_sem, Nat.reduceEqDiff, reduceCtorEq, Nat.reduceAdd, Nat.reduceLT, Nat.reduceLeDiff, Nat.reduceSub, resP, RV.q]) (by intro l hl; have h' : ∀ k, k < 1000000 → l ≠ k := fun k hk => (by omega); simp [upd_at, h', of_b, ofB]) rfl ?_
    (try simp only [go_sem, Nat.reduceEqDiff, reduceCtorEq, Nat.reduceAdd, Nat.reduceLT, Nat.reduceLeDiff, Nat.reduceSub, resA, RV.q, finA, fin1, finL, AV.d.injEq, AV.tup.injEq, AV.agg.injEq, DV.bool.injEq, DV.int.injEq, DV.str.injEq, DV.sl.injEq, List.cons.injEq])
    (first | done | (simp_all [inR]; done) | (simp_all [inR]; omega) | skip)
theorem c_Words : Fn Tryd.prog 53 [] none (.d (dTxts wordList)) none none none := by
  refine fn_ok' r53 (sc := s53) (loud := loudF) (fn := Tryd.f53) (by kernel_rfl) k53 (by decide) mixed (Nat.le_of_ble_eq_true rfl) (by kernel_rfl) (bigN _ _) ?_
  simp only [go_sem, Nat.reduceEqDiff, reduceCtorEq, Nat.reduceAdd, Nat.reduceLT, Nat.reduceLeDiff, Nat.reduceSub, s53, r53]
  repeat' (first | (refine grdL_split ?_ ?_ <;> intro h <;> (try simp only [go_sem, Nat.reduceEqDiff, reduceCtorEq, Nat.reduceAdd, Nat.reduceLT, Nat.reduceLeDiff, Nat.reduceSub, h]) <;> (try simp only [decide_eq_true_eq, decide_eq_false_iff_not, beq_iff_eq, bne_iff_ne, ne_eq, beq_eq_false_iff_ne, bne_eq_false_iff_eq, Bool.not_eq_true, Bool.not_eq_false, Bool.or_eq_true, Bool.and_eq_true, Bool.not_eq_eq_eq_not, Bool.not_true, Bool.not_false, Int.ofNat_lt, Int.ofNat_le, gt_iff_lt, ge_iff_le, Int.ofNat_inj, Int.natCast_pos, Int.toNat_natCast, Decidable.not_not] at h)) | (refine brkL_split ?_ ?_ <;> intro h <;> (try simp only [go_sem, Nat.reduceEqDiff, reduceCtorEq, Nat.reduceAdd, Nat.reduceLT, Nat.reduceLeDiff, Nat.reduceSub, h]) <;> (try simp only [decide_eq_true_eq, decide_eq_false_iff_not, beq_iff_eq, bne_iff_ne, ne_eq, beq_eq_false_iff_ne, bne_eq_false_iff_eq, Bool.not_eq_true, Bool.not_eq_false, Bool.or_eq_true, Bool.and_eq_true, Bool.not_eq_eq_eq_not, Bool.not_true, Bool.not_false, Int.ofNat_lt, Int.ofNat_le, gt_iff_lt, ge_iff_le, Int.ofNat_inj, Int.natCast_pos, Int.toNat_natCast, Decidable.not_not] at h)) | (with_reducible refine And.intro ?_ ?_))
  all_goals (try (first | exact True.intro | with_reducible rfl | contradiction | omega | (simp only [inK, List.length_take, List.length_drop, List.length_map, List.length_modify, List.length_replicate, List.length_append, length_fillT]; omega) | exact rfl))
  all_goals
    refine endV (by simp only [go_sem, Nat.reduceEqDiff, reduceCtorEq, Nat.reduceAdd, Nat.reduceLT, Nat.reduceLeDiff, Nat.reduceSub, resP, RV.q]) (by intro l hl; have h' : ∀ k, k < 1000000 → l ≠ k := fun k hk => (by omega); simp [upd_at, h', of_b, ofB]) rfl ?_
    (try simp only [go_sem, Nat.reduceEqDiff, reduceCtorEq, Nat.reduceAdd, Nat.reduceLT, Nat.reduceLeDiff, Nat.reduceSub, resA, RV.q, finA, fin1, finL, AV.d.injEq, AV.tup.injEq, AV.agg.injEq, DV.bool.injEq, DV.int.injEq, DV.str.injEq, DV.sl.injEq, List.cons.injEq])
    (first | done | (simp_all []; done) | (simp_all []; omega) | skip)
    all_goals rfl
theorem freeW_no {s : Txt} (h : s ∈ wordList) : freeW s = false := by
  simp [freeW, h]
theorem freeW_yes {s : Txt} (h1 : word s = true) (h : ∀ y ∈ wordList, (y == s) = false) : freeW s = true := by
  have : wordList.contains s = false := by
    rw [Bool.eq_false_iff]
    intro h'
    rw [List.contains_iff_mem] at h'
    have := h s h'
    simp at this
  simp only [freeW, h1, this]; rfl
theorem c_freeW (s : Txt) : Fn Tryd.prog 37 [sv s] none (bv (freeW s)) none none none := by
  refine fn_ok' r37 (sc := s37) (loud := loudF) (fn := Tryd.f37) (by kernel_rfl) k37 (by decide) mixed (Nat.le_of_ble_eq_true rfl) (by kernel_rfl) (bigN _ _) ?_
  simp only [go_sem, Nat.reduceEqDiff, reduceCtorEq, Nat.reduceAdd, Nat.reduceLT, Nat.reduceLeDiff, Nat.reduceSub, s37, r37]
  repeat' (first | (refine grdL_split ?_ ?_ <;> intro h <;> (try simp only [go_sem, Nat.reduceEqDiff, reduceCtorEq, Nat.reduceAdd, Nat.reduceLT, Nat.reduceLeDiff, Nat.reduceSub, h]) <;> (try simp only [decide_eq_true_eq, decide_eq_false_iff_not, beq_iff_eq, bne_iff_ne, ne_eq, beq_eq_false_iff_ne, bne_eq_false_iff_eq, Bool.not_eq_true, Bool.not_eq_false, Bool.or_eq_true, Bool.and_eq_true, Bool.not_eq_eq_eq_not, Bool.not_true, Bool.not_false, Int.ofNat_lt, Int.ofNat_le, gt_iff_lt, ge_iff_le, Int.ofNat_inj, Int.natCast_pos, Int.toNat_natCast, Decidable.not_not] at h)) | (refine brkL_split ?_ ?_ <;> intro h <;> (try simp only [go_sem, Nat.reduceEqDiff, reduceCtorEq, Nat.reduceAdd, Nat.reduceLT, Nat.reduceLeDiff, Nat.reduceSub, h]) <;> (try simp only [decide_eq_true_eq, decide_eq_false_iff_not, beq_iff_eq, bne_iff_ne, ne_eq, beq_eq_false_iff_ne, bne_eq_false_iff_eq, Bool.not_eq_true, Bool.not_eq_false, Bool.or_eq_true, Bool.and_eq_true, Bool.not_eq_eq_eq_not, Bool.not_true, Bool.not_false, Int.ofNat_lt, Int.ofNat_le, gt_iff_lt, ge_iff_le, Int.ofNat_inj, Int.natCast_pos, Int.toNat_natCast, Decidable.not_not] at h)) | (with_reducible refine And.intro ?_ ?_) | (refine useV (c_NameOK _) rfl rfl rfl (by first | exact .inl rfl | exact .inr rfl | (right; simp [flatA, flat1, flatL, flatD])) ?_; rotate_right; (try simp only [go_sem, Nat.reduceEqDiff, reduceCtorEq, Nat.reduceAdd, Nat.reduceLT, Nat.reduceLeDiff, Nat.reduceSub])) | (refine useV (c_Words) rfl rfl rfl (by first | exact .inl rfl | exact .inr rfl | (right; simp [flatA, flat1, flatL, flatD])) ?_; rotate_right; (try simp only [go_sem, Nat.reduceEqDiff, reduceCtorEq, Nat.reduceAdd, Nat.reduceLT, Nat.reduceLeDiff, Nat.reduceSub])))
  all_goals (try (first | exact True.intro | with_reducible rfl | contradiction | omega | (simp only [inK, List.length_take, List.length_drop, List.length_map, List.length_modify, List.length_replicate, List.length_append, length_fillT]; omega) | exact rfl))
  · refine endV (by simp only [go_sem, Nat.reduceEqDiff, reduceCtorEq, Nat.reduceAdd, Nat.reduceLT, Nat.reduceLeDiff, Nat.reduceSub, resP, RV.q]) (by intro l hl; have h' : ∀ k, k < 1000000 → l ≠ k := fun k hk => (by omega); simp [upd_at, h', of_b, ofB]) rfl ?_
    (try simp only [go_sem, Nat.reduceEqDiff, reduceCtorEq, Nat.reduceAdd, Nat.reduceLT, Nat.reduceLeDiff, Nat.reduceSub, resA, RV.q, finA, fin1, finL, AV.d.injEq, AV.tup.injEq, AV.agg.injEq, DV.bool.injEq, DV.int.injEq, DV.str.injEq, DV.sl.injEq, List.cons.injEq])
    (first | done | (simp_all [freeW]; done) | (simp_all [freeW]; omega) | skip)
  · refine loop_inv (fun i : Nat => i ≤ wordList.length ∧ ∀ y ∈ wordList.take i, (y == s) = false) (fun i => wordList.length - i) (fun i => St.of [(0, sv s), (3, iv .i64 i)] [] []) (0) ?_ ?_ ?_
    rotate_left
    · refine weak_of _ _ _ ?_ ?_ ?_ ?_
      · (try simp only [go_sem, Nat.reduceEqDiff, reduceCtorEq, Nat.reduceAdd, Nat.reduceLT, Nat.reduceLeDiff, Nat.reduceSub, allLe, St.H, Hp.of]); repeat' (first | exact trivial | with_reducible refine And.intro ?_ ?_ | with_reducible exact Le.d _ | exact Le.any _ | refine Le.dI ?_ | refine Le.dS ?_ | refine Le.dB ?_ | refine Le.dL ?_ | exact Le.nild _ | exact Le.nils _ | refine Le.ow ?_ ?_ | exact Le.rptr _ | (refine Le.ptr ?_; simp [ofB]; done) | refine Le.cl ?_ ?_ | apply LeA.nil | apply LeA.cons); all_goals (try (first | rfl | omega | exact (fillT_zero _ _ _).symm | exact modify_fillT _ _ _ _ rfl | (congr 1; omega) | (simp only [go_sem, Nat.reduceEqDiff, reduceCtorEq, Nat.reduceAdd, Nat.reduceLT, Nat.reduceLeDiff, Nat.reduceSub]; done) | (simp [upd_at, ofT]; done)))
      · (try simp only [go_sem, Nat.reduceEqDiff, reduceCtorEq, Nat.reduceAdd, Nat.reduceLT, Nat.reduceLeDiff, Nat.reduceSub, allLeB, St.H, Hp.of]); repeat' (first | exact trivial | with_reducible refine And.intro ?_ ?_ | (refine ⟨_, rfl, ?_⟩) | exact stb_le (by assumption) | with_reducible exact Le.d _ | exact Le.any _ | refine Le.dI ?_ | refine Le.dS ?_ | refine Le.dB ?_ | refine Le.dL ?_ | exact Le.nild _ | exact Le.nils _ | refine Le.ow ?_ ?_ | exact Le.rptr _ | apply LeA.nil | apply LeA.cons); all_goals (try (first | rfl | omega | exact (fillT_zero _ _ _).symm | exact modify_fillT _ _ _ _ rfl | (congr 1; omega) | (simp only [go_sem, Nat.reduceEqDiff, reduceCtorEq, Nat.reduceAdd, Nat.reduceLT, Nat.reduceLeDiff, Nat.reduceSub]; done) | (simp [upd_at, ofT]; done)))
      · (try simp only [go_sem, Nat.reduceEqDiff, reduceCtorEq, Nat.reduceAdd, Nat.reduceLT, Nat.reduceLeDiff, Nat.reduceSub, allT]); all_goals (first | trivial | (simp [upd_at]; done) | (simp [upd_at]; omega))
      · intro l hl h; have h' : ∀ k, k < 1000000 → l ≠ k := fun k hk => (by omega); (first | exact absurd rfl h | (simp [upd_at, h', of_b, ofB] at h; done) | exact hkM (by intro l hl; have h2 : l ≠ 0 := (by omega); have h3 : l ≠ 1000000 := (by omega); have h4 : ∀ k, k < 1000000 → l ≠ k := fun k hk => (by omega); simp [upd_at, h2, h3, h4, of_b, ofB]) (by simp [ofB]) l hl h | (simp [upd_at, ofB, h'] at h ⊢; done))
    rotate_left
    rotate_left
    · rintro i ⟨g1, g2⟩
      simp only [go_sem, Nat.reduceEqDiff, reduceCtorEq, Nat.reduceAdd, Nat.reduceLT, Nat.reduceLeDiff, Nat.reduceSub]
      repeat' (first | (refine grdL_split ?_ ?_ <;> intro h <;> (try simp only [go_sem, Nat.reduceEqDiff, reduceCtorEq, Nat.reduceAdd, Nat.reduceLT, Nat.reduceLeDiff, Nat.reduceSub, h]) <;> (try simp only [decide_eq_true_eq, decide_eq_false_iff_not, beq_iff_eq, bne_iff_ne, ne_eq, beq_eq_false_iff_ne, bne_eq_false_iff_eq, Bool.not_eq_true, Bool.not_eq_false, Bool.or_eq_true, Bool.and_eq_true, Bool.not_eq_eq_eq_not, Bool.not_true, Bool.not_false, Int.ofNat_lt, Int.ofNat_le, gt_iff_lt, ge_iff_le, Int.ofNat_inj, Int.natCast_pos, Int.toNat_natCast, Decidable.not_not] at h)) | (refine brkL_split ?_ ?_ <;> intro h <;> (try simp only [go_sem, Nat.reduceEqDiff, reduceCtorEq, Nat.reduceAdd, Nat.reduceLT, Nat.reduceLeDiff, Nat.reduceSub, h]) <;> (try simp only [decide_eq_true_eq, decide_eq_false_iff_not, beq_iff_eq, bne_iff_ne, ne_eq, beq_eq_false_iff_ne, bne_eq_false_iff_eq, Bool.not_eq_true, Bool.not_eq_false, Bool.or_eq_true, Bool.and_eq_true, Bool.not_eq_eq_eq_not, Bool.not_true, Bool.not_false, Int.ofNat_lt, Int.ofNat_le, gt_iff_lt, ge_iff_le, Int.ofNat_inj, Int.natCast_pos, Int.toNat_natCast, Decidable.not_not] at h)) | (with_reducible refine And.intro ?_ ?_) | (refine useV (c_NameOK _) rfl rfl rfl (by first | exact .inl rfl | exact .inr rfl | (right; simp [flatA, flat1, flatL, flatD])) ?_; rotate_right; (try simp only [go_sem, Nat.reduceEqDiff, reduceCtorEq, Nat.reduceAdd, Nat.reduceLT, Nat.reduceLeDiff, Nat.reduceSub])) | (refine useV (c_Words) rfl rfl rfl (by first | exact .inl rfl | exact .inr rfl | (right; simp [flatA, flat1, flatL, flatD])) ?_; rotate_right; (try simp only [go_sem, Nat.reduceEqDiff, reduceCtorEq, Nat.reduceAdd, Nat.reduceLT, Nat.reduceLeDiff, Nat.reduceSub])))
      all_goals (try (first | exact True.intro | with_reducible rfl | contradiction | omega | (simp only [inK, List.length_take, List.length_drop, List.length_map, List.length_modify, List.length_replicate, List.length_append, length_fillT]; omega) | exact rfl))
      · refine endV (by simp only [go_sem, Nat.reduceEqDiff, reduceCtorEq, Nat.reduceAdd, Nat.reduceLT, Nat.reduceLeDiff, Nat.reduceSub, resP, RV.q]) (by intro l hl; have h' : ∀ k, k < 1000000 → l ≠ k := fun k hk => (by omega); simp [upd_at, h', of_b, ofB]) rfl ?_
        (try simp only [go_sem, Nat.reduceEqDiff, reduceCtorEq, Nat.reduceAdd, Nat.reduceLT, Nat.reduceLeDiff, Nat.reduceSub, resA, RV.q, finA, fin1, finL, AV.d.injEq, AV.tup.injEq, AV.agg.injEq, DV.bool.injEq, DV.int.injEq, DV.str.injEq, DV.sl.injEq, List.cons.injEq])
        (first | done | (simp_all []; done) | (simp_all []; omega) | skip)
        rw [← ‹wordList.getD i [] = s›]
        exact (freeW_no (getD_mem (by omega))).symm
      · exact ⟨by omega, by have := g1; simp only [wordList, List.length_cons, List.length_nil] at this; omega⟩
      · refine backQ_intro (i + 1) ?_ ?_ ?_
        rotate_left
        rotate_left
        · refine weak_of _ _ _ ?_ ?_ ?_ ?_
          · (try simp only [go_sem, Nat.reduceEqDiff, reduceCtorEq, Nat.reduceAdd, Nat.reduceLT, Nat.reduceLeDiff, Nat.reduceSub, allLe, St.H, Hp.of]); repeat' (first | exact trivial | with_reducible refine And.intro ?_ ?_ | with_reducible exact Le.d _ | exact Le.any _ | refine Le.dI ?_ | refine Le.dS ?_ | refine Le.dB ?_ | refine Le.dL ?_ | exact Le.nild _ | exact Le.nils _ | refine Le.ow ?_ ?_ | exact Le.rptr _ | (refine Le.ptr ?_; simp [ofB]; done) | refine Le.cl ?_ ?_ | apply LeA.nil | apply LeA.cons); all_goals (try (first | rfl | omega | exact (fillT_zero _ _ _).symm | exact modify_fillT _ _ _ _ rfl | (congr 1; omega) | (simp only [go_sem, Nat.reduceEqDiff, reduceCtorEq, Nat.reduceAdd, Nat.reduceLT, Nat.reduceLeDiff, Nat.reduceSub]; done) | (simp [upd_at, ofT]; done)))
          · (try simp only [go_sem, Nat.reduceEqDiff, reduceCtorEq, Nat.reduceAdd, Nat.reduceLT, Nat.reduceLeDiff, Nat.reduceSub, allLeB, St.H, Hp.of]); repeat' (first | exact trivial | with_reducible refine And.intro ?_ ?_ | (refine ⟨_, rfl, ?_⟩) | exact stb_le (by assumption) | with_reducible exact Le.d _ | exact Le.any _ | refine Le.dI ?_ | refine Le.dS ?_ | refine Le.dB ?_ | refine Le.dL ?_ | exact Le.nild _ | exact Le.nils _ | refine Le.ow ?_ ?_ | exact Le.rptr _ | apply LeA.nil | apply LeA.cons); all_goals (try (first | rfl | omega | exact (fillT_zero _ _ _).symm | exact modify_fillT _ _ _ _ rfl | (congr 1; omega) | (simp only [go_sem, Nat.reduceEqDiff, reduceCtorEq, Nat.reduceAdd, Nat.reduceLT, Nat.reduceLeDiff, Nat.reduceSub]; done) | (simp [upd_at, ofT]; done)))
          · (try simp only [go_sem, Nat.reduceEqDiff, reduceCtorEq, Nat.reduceAdd, Nat.reduceLT, Nat.reduceLeDiff, Nat.reduceSub, allT]); all_goals (first | trivial | (simp [upd_at]; done) | (simp [upd_at]; omega))
          · intro l hl h; have h' : ∀ k, k < 1000000 → l ≠ k := fun k hk => (by omega); (first | exact absurd rfl h | (simp [upd_at, h', of_b, ofB] at h; done) | exact hkM (by intro l hl; have h2 : l ≠ 0 := (by omega); have h3 : l ≠ 1000000 := (by omega); have h4 : ∀ k, k < 1000000 → l ≠ k := fun k hk => (by omega); simp [upd_at, h2, h3, h4, of_b, ofB]) (by simp [ofB]) l hl h | (simp [upd_at, ofB, h'] at h ⊢; done))
        · exact ⟨by omega, all_snoc [] g2 (by omega) (by simpa using ‹¬ wordList.getD i [] = s›)⟩
        · omega
      · refine endV (by simp only [go_sem, Nat.reduceEqDiff, reduceCtorEq, Nat.reduceAdd, Nat.reduceLT, Nat.reduceLeDiff, Nat.reduceSub, resP, RV.q]) (by intro l hl; have h' : ∀ k, k < 1000000 → l ≠ k := fun k hk => (by omega); simp [upd_at, h', of_b, ofB]) rfl ?_
        (try simp only [go_sem, Nat.reduceEqDiff, reduceCtorEq, Nat.reduceAdd, Nat.reduceLT, Nat.reduceLeDiff, Nat.reduceSub, resA, RV.q, finA, fin1, finL, AV.d.injEq, AV.tup.injEq, AV.agg.injEq, DV.bool.injEq, DV.int.injEq, DV.str.injEq, DV.sl.injEq, List.cons.injEq])
        (first | done | (simp_all []; done) | (simp_all []; omega) | skip)
        exact (freeW_yes (by assumption) (all_end g2 (by omega))).symm
    · exact ⟨by omega, by simp⟩
end Go.Proofs.YtchmoleeajkioaaDoor.V
