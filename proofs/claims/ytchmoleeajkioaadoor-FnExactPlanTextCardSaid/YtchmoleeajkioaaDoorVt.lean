/-
  THE LOGIC V, PART t: how the slim code is reckoned by rewriting.
-/
import Derived.Test.YtchmoleeajkioaaDoorVr
namespace Go.Proofs.YtchmoleeajkioaaDoor.V
open Go Go.RowKit
set_option linter.unusedSimpArgs false
set_option linter.unusedVariables false

section
variable {P : Program} {loud : Nat → Bool}

/-- An equation that is not seen through. -/
theorem step_eq {α : Sort _} {a b : α} (h : a = b) : a = b := h

def grdL (x : AV) (b : Bool) (d : Option Nat) (op : SOp) (P : Program) (loud : Nat → Bool) (K : St → Prop) (st : St) : Prop := grd x b (ef P loud st d K op) (K (st.put d (.tup [])))
def brkL (x : AV) (a b : SC) (P : Program) (loud : Nat → Bool) (Q : Ex → St → Prop) (st : St) : Prop := brk x (run P loud a Q st) (run P loud b Q st)
def loopL (a : SC) (P : Program) (loud : Nat → Bool) (Q : Ex → St → Prop) (st : St) : Prop := run P loud (.loop a) Q st
def weakL (a : SC) (P : Program) (loud : Nat → Bool) (Q : Ex → St → Prop) (st : St) : Prop := run P loud (.weak a) Q st

theorem run1_n (d : Option Nat) (op : SOp) (K : St → Prop) (st : St) : run1 P loud ⟨d, none, op⟩ K st = ef P loud st d K op := step_eq rfl
theorem run1_g (d : Option Nat) (t : Nat) (b : Bool) (op : SOp) (K : St → Prop) (st : St) : run1 P loud ⟨d, some (t, b), op⟩ K st = grdL (st.s t) b d op P loud K st := step_eq rfl
theorem grdL_u (vs : List AV) (b : Bool) (d : Option Nat) (op : SOp) (K : St → Prop) (st : St) : grdL (.tup vs) b d op P loud K st = K (st.put d (.tup [])) := step_eq rfl
theorem grdL_tt (d : Option Nat) (op : SOp) (K : St → Prop) (st : St) : grdL (.d (.bool true)) true d op P loud K st = ef P loud st d K op := by simp [grdL, grd, grdB]
theorem grdL_ff (d : Option Nat) (op : SOp) (K : St → Prop) (st : St) : grdL (.d (.bool false)) false d op P loud K st = ef P loud st d K op := by simp [grdL, grd, grdB]
theorem grdL_tf (d : Option Nat) (op : SOp) (K : St → Prop) (st : St) : grdL (.d (.bool true)) false d op P loud K st = K (st.put d (.tup [])) := by simp [grdL, grd, grdB]
theorem grdL_ft (d : Option Nat) (op : SOp) (K : St → Prop) (st : St) : grdL (.d (.bool false)) true d op P loud K st = K (st.put d (.tup [])) := by simp [grdL, grd, grdB]
theorem grdL_split {c b : Bool} {d : Option Nat} {op : SOp} {K : St → Prop} {st : St} (h1 : c = true → grdL (.d (.bool true)) b d op P loud K st) (h2 : c = false → grdL (.d (.bool false)) b d op P loud K st) : grdL (.d (.bool c)) b d op P loud K st := by
  cases c
  · exact h2 rfl
  · exact h1 rfl

theorem run_skip (Q : Ex → St → Prop) (st : St) : run P loud .skip Q st = Q .norm st := rfl
theorem run_rg (ops : List SO) (Q : Ex → St → Prop) (st : St) : run P loud (.rg ops) Q st = runs P loud ops (Q .norm) st := rfl
theorem run_rgd (t : DT) (Q : Ex → St → Prop) (st : St) : run P loud (.rgd t) Q st = runT P loud t (Q .norm) st := rfl
theorem run_seq (a b : SC) (Q : Ex → St → Prop) (st : St) : run P loud (.seq a b) Q st = run P loud a (thenQ (run P loud b Q) Q) st := rfl
theorem run_cond (c : SA) (a b : SC) (Q : Ex → St → Prop) (st : St) : run P loud (.cond c a b) Q st = brkL (st.get c) a b P loud Q st := rfl
theorem run_blk (id : Nat) (a : SC) (Q : Ex → St → Prop) (st : St) : run P loud (.blk id a) Q st = run P loud a (blkQ id Q) st := rfl
theorem run_loop (a : SC) (Q : Ex → St → Prop) (st : St) : run P loud (.loop a) Q st = loopL a P loud Q st := rfl
theorem run_weak (a : SC) (Q : Ex → St → Prop) (st : St) : run P loud (.weak a) Q st = weakL a P loud Q st := rfl
theorem run_exit (id : Nat) (Q : Ex → St → Prop) (st : St) : run P loud (.exit id) Q st = Q (.exit id) st := rfl
theorem run_ret (Q : Ex → St → Prop) (st : St) : run P loud .ret Q st = Q .ret st := rfl
theorem brkL_t (a b : SC) (Q : Ex → St → Prop) (st : St) : brkL (.d (.bool true)) a b P loud Q st = run P loud a Q st := by simp [brkL, brk]
theorem brkL_f (a b : SC) (Q : Ex → St → Prop) (st : St) : brkL (.d (.bool false)) a b P loud Q st = run P loud b Q st := by simp [brkL, brk]
theorem brkL_split {c : Bool} {a b : SC} {Q : Ex → St → Prop} {st : St} (h1 : c = true → run P loud a Q st) (h2 : c = false → run P loud b Q st) : brkL (.d (.bool c)) a b P loud Q st := ⟨h1, h2⟩
theorem loopL_intro {a : SC} {Q : Ex → St → Prop} {st : St} (I : Nat → St → Prop) (n : Nat) (st' : St) (hw : Weak st st') (hI : I n st') (h : ∀ n st, I n st → run P loud a (loopQ I n Q) st) : loopL a P loud Q st := ⟨I, ⟨n, st', hw, hI⟩, h⟩
theorem weakL_intro {a : SC} {Q : Ex → St → Prop} {st : St} (st' : St) (hw : Weak st st') (h : run P loud a Q st') : weakL a P loud Q st := ⟨st', hw, h⟩

theorem land_no (p : Prop) (v : AV) (st : St) (k : Nat) (K : St → Prop) : landP ⟨p, v, .no⟩ st (some k) K = (p ∧ K ⟨upd st.s k v, st.bx, st.tg⟩) := step_eq rfl
theorem land_box (p : Prop) (v : AV) (c : List AV) (st : St) (k : Nat) (K : St → Prop) : landP ⟨p, v, .box c⟩ st (some k) K = (p ∧ K ⟨upd st.s k v, upd st.bx k (some c), st.tg⟩) := step_eq rfl
theorem land_row (p : Prop) (v : AV) (sz n : Nat) (st : St) (k : Nat) (K : St → Prop) : landP ⟨p, v, .row sz n⟩ st (some k) K = (p ∧ K ⟨upd st.s k v, st.bx, upd st.tg k (some (sz, n))⟩) := step_eq rfl
theorem land_bad (st : St) (d : Option Nat) (K : St → Prop) : landP bad st d K = False := by
  cases d <;> simp [landP, bad]
theorem put_some (s : Nat → AV) (bx : Nat → Option (List AV)) (tg : Nat → Option (Nat × Nat)) (k : Nat) (v : AV) : (⟨s, bx, tg⟩ : St).put (some k) v = ⟨upd s k v, bx, tg⟩ := rfl
theorem put_none (st : St) (v : AV) : st.put none v = st := rfl
theorem thenQ_norm (K : St → Prop) (Q : Ex → St → Prop) : thenQ K Q .norm = K := rfl
theorem thenQ_ret (K : St → Prop) (Q : Ex → St → Prop) : thenQ K Q .ret = Q .ret := rfl
theorem thenQ_exit (K : St → Prop) (Q : Ex → St → Prop) (id : Nat) : thenQ K Q (.exit id) = Q (.exit id) := rfl
theorem blkQ_norm (id : Nat) (Q : Ex → St → Prop) : blkQ id Q .norm = Q .norm := rfl
theorem blkQ_ret (id : Nat) (Q : Ex → St → Prop) : blkQ id Q .ret = Q .ret := rfl
theorem loopQ_ret (I : Nat → St → Prop) (n : Nat) (Q : Ex → St → Prop) : loopQ I n Q .ret = Q .ret := rfl
theorem loopQ_exit (I : Nat → St → Prop) (n id : Nat) (Q : Ex → St → Prop) : loopQ I n Q (.exit id) = Q (.exit id) := rfl

/-- The end of a function. -/
theorem fnQ_r (rs : List RV) (Q : AV → Hp → Prop) : fnQ rs Q .ret = endQ rs Q := rfl
theorem fnQ_n (rs : List RV) (Q : AV → Hp → Prop) : fnQ rs Q .norm = endQ rs Q := rfl

/-! ### Less is told, by lists -/

def allLe (H H' : Hp) (f : Nat → AV) : List (Nat × AV) → Prop
  | [] => True
  | (k, v) :: l => Le H H' (f k) v ∧ allLe H H' f l
def allLeB (H H' : Hp) (f : Nat → Option (List AV)) : List (Nat × List AV) → Prop
  | [] => True
  | (k, c') :: l => (∃ c, f k = some c ∧ Le H H' (.agg c) (.agg c')) ∧ allLeB H H' f l
def allT (f : Nat → Option (Nat × Nat)) : List (Nat × Nat × Nat) → Prop
  | [] => True
  | (k, x) :: l => (f k = some x ∨ (f k = none ∧ x.2 = 0)) ∧ allT f l

theorem allLe_ok {H H' : Hp} {f : Nat → AV} : ∀ (l : List (Nat × AV)), allLe H H' f l → ∀ i, Le H H' (f i) (ofL l i)
  | [], _, i => .any _
  | (k, v) :: l, h, i => by
    simp only [ofL]
    by_cases e : i = k
    · rw [if_pos e, e]; exact h.1
    · rw [if_neg e]; exact allLe_ok l h.2 i
theorem allLeB_ok {H H' : Hp} {f : Nat → Option (List AV)} : ∀ (l : List (Nat × List AV)), allLeB H H' f l → ∀ i c', ofB l i = some c' → ∃ c, f i = some c ∧ Le H H' (.agg c) (.agg c')
  | [], _, i, c', h => by cases h
  | (k, v) :: l, h, i, c', hc => by
    simp only [ofB] at hc
    by_cases e : i = k
    · rw [if_pos e] at hc; cases hc; rw [e]; exact h.1
    · rw [if_neg e] at hc; exact allLeB_ok l h.2 i c' hc
theorem allT_ok {f : Nat → Option (Nat × Nat)} : ∀ (l : List (Nat × Nat × Nat)), allT f l → ∀ t x, ofT l t = some x → f t = some x ∨ (f t = none ∧ x.2 = 0)
  | [], _, i, c', h => by cases h
  | (k, v) :: l, h, i, c', hc => by
    simp only [ofT] at hc
    by_cases e : i = k
    · rw [if_pos e] at hc; cases hc; rw [e]; exact h.1
    · rw [if_neg e] at hc; exact allT_ok l h.2 i c' hc

theorem weak_of {st : St} (l : List (Nat × AV)) (b : List (Nat × List AV)) (t : List (Nat × Nat × Nat)) (hl : allLe st.H (Hp.of b t) st.s l) (hb : allLeB st.H (Hp.of b t) st.bx b) (ht : allT st.tg t)
    (hk : ∀ l, 1000000 ≤ l → st.bx l ≠ none → ofB b l ≠ none) : Weak st (St.of l b t) :=
  weak_le (allLe_ok l hl) (allLeB_ok b hb) hk (allT_ok t ht)

/-- The ending of a round: told by x before it. -/
def backQ {α : Type} (Inv : α → Prop) (μ : α → Nat) (mk : α → St) (x : α) (Q : Ex → St → Prop) : Ex → St → Prop
  | .norm, st => ∃ y, Inv y ∧ μ y < μ x ∧ Weak st (mk y)
  | .ret, st => Q .ret st
  | .exit id, st => Q (.exit id) st
theorem backQ_ret {α : Type} (Inv : α → Prop) (μ : α → Nat) (mk : α → St) (x : α) (Q : Ex → St → Prop) : backQ Inv μ mk x Q .ret = Q .ret := rfl
theorem backQ_exit {α : Type} (Inv : α → Prop) (μ : α → Nat) (mk : α → St) (x : α) (Q : Ex → St → Prop) (id : Nat) : backQ Inv μ mk x Q (.exit id) = Q (.exit id) := rfl
theorem backQ_intro {α : Type} {Inv : α → Prop} {μ : α → Nat} {mk : α → St} {x : α} {Q : Ex → St → Prop} {st : St} (y : α) (h1 : Inv y) (h2 : μ y < μ x) (h3 : Weak st (mk y)) : backQ Inv μ mk x Q .norm st := ⟨y, h1, h2, h3⟩

theorem run_mono : ∀ (sc : SC) {Q Q' : Ex → St → Prop} (_ : ∀ e st, Q e st → Q' e st) (st : St), run P loud sc Q st → run P loud sc Q' st := by
  have ef_mono : ∀ (op : SOp) (d : Option Nat) {K K' : St → Prop} (_ : ∀ st, K st → K' st) (st : St), ef P loud st d K op → ef P loud st d K' op := by
    intro op d K K' h st he
    have hl : ∀ q (st : St), landP q st d K → landP q st d K' := fun q st hq => by
      cases d with
      | none => exact ⟨hq.1, h _ hq.2⟩
      | some k => exact ⟨hq.1, h _ hq.2⟩
    have hc : ∀ lo f args, callP P lo f args st d K → callP P lo f args st d K' := fun lo f args hq =>
      ⟨hq.1, fun w S ι vs R hl hv => Calls.mono (hq.2 w S ι vs R hl hv) fun e w' ⟨v, S', ι', st', h1, h2, h3, h4⟩ => ⟨v, S', ι', st', h1, h2, h _ h3, h4⟩⟩
    have hx : ∀ lo f args, callX P lo f args st d K → callX P lo f args st d K' := fun lo f args hq => hq.imp (hc lo f args) fun ⟨x, h1, h2⟩ => ⟨x, h1, h _ h2⟩
    cases op <;> first
      | exact hl _ _ he
      | exact hx _ _ _ he
      | exact he.elim
      | skip
    case st n x y =>
      simp only [ef, storeP] at he ⊢
      split at he
      · split at he
        · exact ⟨he.1, h _ he.2⟩
        · exact he.elim
      · split at he
        · exact ⟨he.1, h _ he.2⟩
        · exact he.elim
      · exact he.elim
    case isn ne x =>
      simp only [ef, isnP] at he ⊢
      split at he
      · exact h _ he
      · exact ⟨fun e => h _ (he.1 e), h _ he.2⟩
      · exact ⟨fun e => h _ (he.1 e), h _ he.2⟩
      · exact he.elim
    case sfz x =>
      simp only [ef, sfzP] at he ⊢
      split at he
      · exact ⟨he.1, h _ he.2⟩
      · exact he.elim
    case app sz x y =>
      simp only [ef, appP] at he ⊢
      split at he
      · exact ⟨he.1, h _ he.2⟩
      · exact ⟨he.1, h _ he.2⟩
      · exact he.elim
    case calv f xs =>
      simp only [ef] at he ⊢
      split at he
      · exact hx _ _ _ he
      · exact he.elim
  have r1 : ∀ (so : SO) {K K' : St → Prop} (_ : ∀ st, K st → K' st) (st : St), run1 P loud so K st → run1 P loud so K' st := by
    intro so K K' h st hr
    obtain ⟨d, g, op⟩ := so
    cases g with
    | none => exact ef_mono op d h st hr
    | some tb =>
      obtain ⟨t, b⟩ := tb
      simp only [run1] at hr ⊢
      rcases grd_cases hr with ⟨c, e, h1, h2⟩ | ⟨vs, e, h1⟩
      · rw [e]; exact ⟨fun hc => ef_mono op d h st (h1 hc), fun hc => h _ (h2 hc)⟩
      · rw [e]; exact h _ h1
  have rs : ∀ (os : List SO) {K K' : St → Prop} (_ : ∀ st, K st → K' st) (st : St), runs P loud os K st → runs P loud os K' st := by
    intro os
    induction os with
    | nil => intro K K' h st hr; exact h st hr
    | cons o os ih => intro K K' h st hr; exact r1 o (fun st => ih h st) st hr
  have rt : ∀ (t : DT) {K K' : St → Prop} (_ : ∀ st, K st → K' st) (st : St), runT P loud t K st → runT P loud t K' st := by
    intro t
    induction t with
    | done => intro K K' h st hr; exact h st hr
    | op o t ih => intro K K' h st hr; exact r1 o (fun st => ih h st) st hr
    | both a b iha ihb => intro K K' h st hr; exact ⟨iha h st hr.1, ihb h st hr.2⟩
  intro sc
  induction sc with
  | skip => intro Q Q' h st hr; exact h _ _ hr
  | rg os => intro Q Q' h st hr; exact rs os (h .norm) st hr
  | rgd t => intro Q Q' h st hr; exact rt t (h .norm) st hr
  | seq a b iha ihb =>
    intro Q Q' h st hr
    refine iha (fun e st he => ?_) st hr
    cases e with
    | norm => exact ihb h st he
    | ret => exact h _ _ he
    | exit id => exact h _ _ he
  | cond c a b iha ihb =>
    intro Q Q' h st hr
    simp only [run, brk] at hr ⊢
    split at hr
    · exact ⟨fun e => iha h st (hr.1 e), fun e => ihb h st (hr.2 e)⟩
    · exact hr.elim
  | blk id a ih =>
    intro Q Q' h st hr
    refine ih (fun e st he => ?_) st hr
    cases e with
    | norm => exact h _ _ he
    | ret => exact h _ _ he
    | exit id' =>
      simp only [blkQ] at he ⊢
      split
      · rename_i e; rw [if_pos e] at he; exact h _ _ he
      · rename_i e; rw [if_neg e] at he; exact h _ _ he
  | loop a ih =>
    intro Q Q' h st hr
    obtain ⟨I, h0, h1⟩ := hr
    refine ⟨I, h0, fun n st hI => ih (fun e st he => ?_) st (h1 n st hI)⟩
    cases e with
    | norm => exact he
    | ret => exact h _ _ he
    | exit id => exact h _ _ he
  | exit id => intro Q Q' h st hr; exact h _ _ hr
  | ret => intro Q Q' h st hr; exact h _ _ hr
  | bad => intro Q Q' h st hr; exact hr.elim
  | weak a ih =>
    intro Q Q' h st hr
    obtain ⟨st', hw, hr⟩ := hr
    exact ⟨st', hw, ih h st' hr⟩

/-- A loop, by what is told of each round. -/
theorem loop_inv {a : SC} {Q : Ex → St → Prop} {st : St} {α : Type} (Inv : α → Prop) (μ : α → Nat) (mk : α → St) (x0 : α) (h0 : Inv x0) (hw : Weak st (mk x0)) (h : ∀ x, Inv x → run P loud a (backQ Inv μ mk x Q) (mk x)) : loopL a P loud Q st := by
  refine ⟨fun n st => ∃ x, Inv x ∧ μ x = n ∧ st = mk x, ⟨μ x0, mk x0, hw, x0, h0, rfl, rfl⟩, ?_⟩
  rintro n st ⟨x, hx, rfl, rfl⟩
  refine run_mono a (fun e st he => ?_) _ (h x hx)
  cases e with
  | norm =>
    obtain ⟨y, h1, h2, h3⟩ := he
    exact ⟨μ y, mk y, h2, h3, y, h1, rfl, rfl⟩
  | ret => exact he
  | exit id => exact he

end
end Go.Proofs.YtchmoleeajkioaaDoor.V
