/-
  THE LOGIC V, PART x: the words by which slim code is reckoned.
-/
import Derived.Test.YtchmoleeajkioaaDoorVv
import Derived.Test.YtchmoleeajkioaaDoorProg
import Derived.KernelRfl
namespace Go.Proofs.YtchmoleeajkioaaDoor.V
open Go Go.RowKit
set_option linter.unusedSimpArgs false
set_option linter.unusedVariables false

theorem bigN (bM : Option (List AV)) (t0 : Option (Nat × Nat)) : ∀ l, (Hp.mk3 none bM t0).bx l ≠ none → 1000000 ≤ l := by
  intro l h
  by_cases h0 : l = 0
  · subst h0; exact absurd rfl h
  · by_cases h1 : l = 1000000
    · omega
    · simp [Hp.mk3, h0, h1] at h

theorem mk3_bx0 (b0 bM : Option (List AV)) (t0 : Option (Nat × Nat)) : (Hp.mk3 b0 bM t0).bx = fun p => if p = 0 then b0 else if p = 1000000 then bM else none := rfl
theorem mk3_tg0 (b0 bM : Option (List AV)) (t0 : Option (Nat × Nat)) : (Hp.mk3 b0 bM t0).tg = fun t => if t = 0 then t0 else none := rfl
theorem ite_none {α : Type} (c : Prop) [Decidable c] : (if c then (none : Option α) else none) = none := by split <;> rfl

theorem updO_none {α : Type} (f : Nat → Option α) (i : Nat) : updO f i none = f := rfl
theorem updO_some {α : Type} (f : Nat → Option α) (i : Nat) (v : α) : updO f i (some v) = upd f i (some v) := rfl
theorem frees_nil (st : St) : st.frees [] = st := rfl
theorem frees_cons (st : St) (t : Nat) (r : List Nat) : st.frees (t :: r) = (st.free t).frees r := rfl
theorem free_def (st : St) (t : Nat) : st.free t = ⟨fun i => V.free t (st.s i), fun l => (st.bx l).map (List.map (V.free t)), upd st.tg t none⟩ := rfl
theorem app_def (st : St) (k t sz : Nat) (rows : List (List DV)) : st.app k t sz rows = ⟨upd (fun i => kill t (st.s i)) k (.own t sz 0 rows), fun l => (st.bx l).map (List.map (kill t)), upd st.tg t (some (sz, rows.length))⟩ := rfl
theorem map_def (φ : AV → AV) (st : St) : st.map φ = ⟨fun i => φ (st.s i), fun l => (st.bx l).map (List.map φ), st.tg⟩ := rfl
theorem put_s (st : St) (k : Nat) (v : AV) : st.put (some k) v = ⟨upd st.s k v, st.bx, st.tg⟩ := step_eq rfl
theorem of_s (l : List (Nat × AV)) (b : List (Nat × List AV)) (t : List (Nat × Nat × Nat)) (n : Nat) : (St.of l b t).s n = ofL l n := rfl
theorem of_b (l : List (Nat × AV)) (b : List (Nat × List AV)) (t : List (Nat × Nat × Nat)) (n : Nat) : (St.of l b t).bx n = ofB b n := rfl
theorem of_t (l : List (Nat × AV)) (b : List (Nat × List AV)) (t : List (Nat × Nat × Nat)) (n : Nat) : (St.of l b t).tg n = ofT t n := rfl
theorem endQ_def (rs : List RV) (Q : AV → Hp → Prop) (st : St) : endQ rs Q st = endQ rs Q st := rfl

section
variable (t i j : Nat) (ds : List DV)
theorem setE_own (t' sz off : Nat) (rows : List (List DV)) : setE t i j ds (.own t' sz off rows) = if t' = t ∧ off ≤ i then .own t' sz off (rows.modify (i - off) fun x => splice x j ds) else .own t' sz off rows := rfl
theorem setE_optr (t' sz i' j' : Nat) (row : List DV) : setE t i j ds (.optr t' sz i' j' row) = if t' = t ∧ i' = i then .optr t' sz i' j' (splice row j ds) else .optr t' sz i' j' row := rfl
theorem setE_d (x : DV) : setE t i j ds (.d x) = .d x := rfl
theorem setE_nils (n : Nat) : setE t i j ds (.nils n) = .nils n := rfl
theorem setE_ptr (l o : Nat) : setE t i j ds (.ptr l o) = .ptr l o := rfl
theorem setE_rptr (r : List DV) : setE t i j ds (.rptr r) = .rptr r := rfl
theorem setE_any : setE t i j ds .any = .any := rfl
theorem setE_tup (cs : List AV) : setE t i j ds (.tup cs) = .tup (cs.map (m1 (setL t i j ds))) := rfl
theorem kill_own (t' sz off : Nat) (rows : List (List DV)) : kill t (.own t' sz off rows) = if t' = t then .any else .own t' sz off rows := rfl
theorem kill_optr (t' sz i' j' : Nat) (row : List DV) : kill t (.optr t' sz i' j' row) = if t' = t then .any else .optr t' sz i' j' row := rfl
theorem kill_d (x : DV) : kill t (.d x) = .d x := rfl
theorem kill_nils (n : Nat) : kill t (.nils n) = .nils n := rfl
theorem kill_ptr (l o : Nat) : kill t (.ptr l o) = .ptr l o := rfl
theorem kill_rptr (r : List DV) : kill t (.rptr r) = .rptr r := rfl
theorem kill_any : kill t .any = .any := rfl
theorem free_own (t' sz off : Nat) (rows : List (List DV)) : V.free t (.own t' sz off rows) = if t' = t then .d (.sl sz rows) else .own t' sz off rows := rfl
theorem free_optr (t' sz i' j' : Nat) (row : List DV) : V.free t (.optr t' sz i' j' row) = if t' = t then .rptr (row.drop j') else .optr t' sz i' j' row := rfl
theorem free_d (x : DV) : V.free t (.d x) = .d x := rfl
theorem free_nils (n : Nat) : V.free t (.nils n) = .nils n := rfl
theorem free_ptr (l o : Nat) : V.free t (.ptr l o) = .ptr l o := rfl
theorem free_rptr (r : List DV) : V.free t (.rptr r) = .rptr r := rfl
theorem free_any : V.free t .any = .any := rfl
-- a struct's cells
theorem setE_agg' (cs : List AV) : setE t i j ds (.agg cs) = .agg (cs.map (setL t i j ds)) := rfl
theorem kill_agg (cs : List AV) : kill t (.agg cs) = .agg (cs.map (killL t)) := rfl
theorem free_agg (cs : List AV) : V.free t (.agg cs) = .agg (cs.map (freeL t)) := rfl
theorem kill_tup (cs : List AV) : kill t (.tup cs) = .tup (cs.map (m1 (killL t))) := rfl
theorem free_tup (cs : List AV) : V.free t (.tup cs) = .tup (cs.map (m1 (freeL t))) := rfl
theorem m1_agg (f : AV → AV) (cs : List AV) : m1 f (.agg cs) = .agg (cs.map f) := rfl
theorem m1_d (f : AV → AV) (x : DV) : m1 f (.d x) = f (.d x) := rfl
theorem m1_own (f : AV → AV) (t' sz off : Nat) (rows : List (List DV)) : m1 f (.own t' sz off rows) = f (.own t' sz off rows) := rfl
theorem m1_nils (f : AV → AV) (n : Nat) : m1 f (.nils n) = f (.nils n) := rfl
theorem m1_ptr (f : AV → AV) (l o : Nat) : m1 f (.ptr l o) = f (.ptr l o) := rfl
theorem m1_any (f : AV → AV) : m1 f .any = f .any := rfl
end

theorem take_mapR {α β : Type} (f : α → β) (l : List α) (i : Nat) : (l.map f).take i = (l.take i).map f := List.map_take.symm
theorem drop_mapR {α β : Type} (f : α → β) (l : List α) (i : Nat) : (l.map f).drop i = (l.drop i).map f := List.map_drop.symm
theorem toNat_sub1 (i : Nat) : ((i : Int) - 1).toNat = i - 1 := by omega
theorem toNat_add1 (i : Nat) : ((i : Int) + 1).toNat = i + 1 := by omega

attribute [go_sem] take_mapR drop_mapR toNat_sub1 toNat_add1 setE_own setE_optr setE_d setE_nils setE_ptr setE_rptr setE_any setE_agg' setE_tup kill_own kill_optr kill_d kill_nils kill_ptr kill_rptr kill_any kill_agg kill_tup free_own free_optr free_d free_nils free_ptr free_rptr free_any free_agg free_tup m1_agg m1_d m1_own m1_nils m1_ptr m1_any setL killL freeL Nat.zero_add Nat.sub_zero Nat.zero_le Int.add_zero Int.zero_add List.take_length
attribute [go_sem] run_seq run_rg run_rgd run_cond run_loop run_blk run_skip run_exit runT run_ret runs run1_n run1_g grdL_u grdL_tt grdL_ff grdL_tf grdL_ft brkL_t brkL_f ef land_no land_box land_row land_bad qf thenQ_norm thenQ_ret thenQ_exit blkQ_norm blkQ_ret blkQ loopQ_ret loopQ_exit backQ_ret backQ_exit fnQ_r fnQ_n St.get St.ini of_s of_b of_t ofL ofB ofT put_s put_none gd arI shI stI fit slnF lenF istF iadF sliF sstF loOf hiOf extF b2sF cellsEq cellEq fldF ldF ldC fillA fillR rowOf dvOf cellsOf splice addOff storeP appP srcRows bslP isnP sfzP stTags tagsA tagsL frees_nil frees_cons free_def app_def map_def iv bv sv upd_at renA ren1 renL updO_none updO_some mk3_bx0 mk3_tg0 ite_none List.getD_cons_zero List.getD_cons_succ List.getD_nil List.map_cons List.map_nil List.flatMap_cons List.flatMap_nil List.cons_append List.nil_append List.append_nil List.length_cons List.length_nil List.all_cons List.all_nil Option.getD_some Option.getD_none Option.map_some Option.map_none Option.bind_some Option.bind_none List.mapM_cons List.mapM_nil Option.pure_def Option.bind_eq_bind List.replicate_succ List.replicate_zero List.set_cons_zero List.set_cons_succ List.take_succ_cons List.drop_succ_cons List.take_zero List.drop_zero List.drop_nil List.take_nil
attribute [go_sem] and_self true_and and_true if_true if_false ite_true ite_false Bool.not_true Bool.not_false Bool.false_eq_true Bool.true_eq_false not_true_eq_false not_false_eq_true bne_self_eq_false beq_self_eq_true List.getElem?_cons_zero List.getElem?_cons_succ List.getElem?_nil Option.isSome_some Option.isSome_none ne_eq Int.toNat_natCast Int.toNat_zero Int.toNat_one

theorem hkM {f g : Nat → Option (List AV)} (h1 : ∀ l, 1000000 < l → f l = none) (h2 : g 1000000 ≠ none) : ∀ l, 1000000 ≤ l → f l ≠ none → g l ≠ none := fun l hl h => by
  by_cases e : l = 1000000
  · subst e; exact h2
  · exact absurd (h1 l (by omega)) h

theorem mixed : Tryd.prog.follows .mixedOrders = true := by kernel_rfl
end Go.Proofs.YtchmoleeajkioaaDoor.V
