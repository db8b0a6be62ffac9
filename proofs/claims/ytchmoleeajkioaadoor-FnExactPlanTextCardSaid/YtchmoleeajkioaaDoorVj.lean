/-
  THE LOGIC V, PART j: one operation.
-/
import Derived.Test.YtchmoleeajkioaaDoorViz
namespace Go.Proofs.YtchmoleeajkioaaDoor.V
open Go Go.RowKit
set_option linter.unusedSimpArgs false
set_option linter.unusedVariables false

def St.put (st : St) (d : Option Nat) (v : AV) : St := match d with
  | some k => ⟨upd st.s k v, st.bx, st.tg⟩
  | none => st

/-- A quiet operation's answer lands. -/
def landP (q : QR) (st : St) (d : Option Nat) (K : St → Prop) : Prop := match d with
  | some k => q.p ∧ K (st.putA k q.v q.al)
  | none => (q.p ∧ q.al = .no) ∧ K st

/-- The rows that a value holds. -/
def tagsL : AV → List Nat
  | .own t _ _ _ => [t]
  | _ => []
def tagsA : AV → List Nat
  | .agg cs => cs.flatMap tagsL
  | x => tagsL x

def St.frees (st : St) : List Nat → St
  | [] => st
  | t :: r => (st.free t).frees r

/-- A row literal: rows that it holds are written no more. -/
def bslP (st : St) (d : Option Nat) (sz : Nat) (z : List DV) (n : Nat) (ps : List (Nat × SA)) (K : St → Prop) : Prop :=
  landP (qf (st.frees (ps.flatMap fun p => tagsA (st.get p.2))) (d.getD 0) (.bsl sz z n ps)) (st.frees (ps.flatMap fun p => tagsA (st.get p.2))) d K

/-- Which rows are written no more behind a store. -/
def stTags (x y : AV) : List Nat := match x with
  | .optr .. => tagsA y
  | _ => []

/-- Is a slice nil? -/
def isnP (st : St) (d : Option Nat) (ne : Bool) (x : AV) (K : St → Prop) : Prop := match x with
  | .nils _ => K (st.put d (bv (!ne)))
  | .d (.sl _ rows) => (rows = [] → K (st.put d (bv (!ne)))) ∧ K (st.put d (bv ne))
  | .own _ _ _ rows => (rows = [] → K (st.put d (bv (!ne)))) ∧ K (st.put d (bv ne))
  | _ => False

/-- The place behind a row is marked. -/
def sfzP (st : St) (d : Option Nat) (x : AV) (K : St → Prop) : Prop := match x with
  | .own t sz off rows => rows ≠ [] ∧ K (st.put d (.own t sz off rows))
  | _ => False

def storeP (st : St) (d : Option Nat) (n : Nat) (x y : AV) (K : St → Prop) : Prop := match x with
  | .ptr l o => match st.bx l with
    | some cells => ((cellsOf y).length = n ∧ n ≠ 0 ∧ o + n ≤ cells.length ∧ (cellsOf y).all AV.one = true) ∧ K ((⟨st.s, upd st.bx l (some (splice cells o (cellsOf y))), st.tg⟩ : St).put d .any)
    | none => False
  | .optr t _ i j row => match rowOf y with
    | some ds => (ds.length = n ∧ n ≠ 0 ∧ j + n ≤ row.length) ∧ K ((st.map (setE t i j ds)).put d .any)
    | none => False
  | _ => False

def St.app (st : St) (k t sz : Nat) (rows : List (List DV)) : St := ⟨upd (fun i => kill t (st.s i)) k (.own t sz 0 rows), fun l => (st.bx l).map (List.map (kill t)), upd st.tg t (some (sz, rows.length))⟩

def appP (st : St) (d : Option Nat) (sz : Nat) (x y : AV) (K : St → Prop) : Prop := match d, x, srcRows sz y with
  | some k, .own t sz' 0 rows, some ys => (sz' = sz ∧ st.tg t = some (sz, rows.length) ∧ rows.length + ys.length ≤ 1099511627776) ∧ K (st.app k t sz (rows ++ ys))
  | some k, .nils _, some ys => (st.tg k = none ∧ ys.length ≤ 1099511627776) ∧ K (st.app k k sz ys)
  | _, _, _ => False

/-- How the heap and the state go on. -/
structure Step (w : World) (S : Nat → Prop) (ι : Io) (st : St) (w' : World) (S' : Nat → Prop) (ι' : Io) (st' : St) : Prop where
  hr : HR w' S' ι' st'.H
  fr : Fr w S ι st.H w' S' ι' st'.H
  live : ∀ l, st.bx l ≠ none → st'.bx l ≠ none

/-- What was told of a value is told of it behind the step, but for the slot that is set. -/
def Tell (w : World) (S : Nat → Prop) (ι : Io) (st : St) (d : Option Nat) (v : Value) (w' : World) (S' : Nat → Prop) (ι' : Io) (st' : St) : Prop :=
  (∀ u i, some i ≠ d → VL w S ι st.H u (st.s i) → VL w' S' ι' st'.H u (st'.s i)) ∧ (∀ k, d = some k → VL w' S' ι' st'.H v (st'.s k))

def Known (P : Program) (f : FuncId) : Prop := ∃ fn c, P.funcs[f]? = some fn ∧ fn.body = some c ∧ fn.name ≠ "runtime.NumGoroutine"

def callP (P : Program) (lo : Bool) (f : FuncId) (args : List AV) (st : St) (d : Option Nat) (K : St → Prop) : Prop :=
  Known P f ∧ ∀ (w : World) (S : Nat → Prop) (ι : Io) (vs : List Value), HR w S ι st.H → vs.length = args.length → (∀ j (h : j < args.length), VL w S ι st.H (vs.getD j undef) (args[j])) →
    Calls P f vs.toArray w fun e w' => ∃ v S' ι' st', e = .returned v ∧ Step w S ι st w' S' ι' st' ∧ K st' ∧ Tell w S ι st d v w' S' ι' st' ∧ (lo = false → ∀ b, b < w.heap.size → w'.heap[b]? = w.heap[b]?)

/-- A function without a text: the model gives its value in place. -/
def extP (P : Program) (f : FuncId) (args : List AV) (st : St) (d : Option Nat) (K : St → Prop) : Prop :=
  ∃ x : AV, (∀ (w : World) (S : Nat → Prop) (ι : Io) (vs : List Value), HR w S ι st.H → vs.length = args.length → (∀ j (h : j < args.length), VL w S ι st.H (vs.getD j undef) (args[j])) →
    ∃ r, (callFunc f vs.toArray).run P w = .ok (.value r) w ∧ VL w S ι st.H r x) ∧ K (st.put d x)

def callX (P : Program) (lo : Bool) (f : FuncId) (args : List AV) (st : St) (d : Option Nat) (K : St → Prop) : Prop := callP P lo f args st d K ∨ extP P f args st d K

/-- What an operation does to the state. -/
def ef (P : Program) (loud : Nat → Bool) (st : St) (d : Option Nat) (K : St → Prop) : SOp → Prop
  | .st n x y => storeP (st.frees (stTags (st.get x) (st.get y))) d n ((st.frees (stTags (st.get x) (st.get y))).get x) ((st.frees (stTags (st.get x) (st.get y))).get y) K
  | .isn ne x => isnP st d ne (st.get x) K
  | .sfz x => sfzP st d (st.get x) K
  | .bsl a b c e => bslP st d a b c e K
  | .app sz x y => appP st d sz (st.get x) (st.get y) K
  | .call f xs => callX P (loud f) f (xs.map st.get) st d K
  | .calv f xs => match st.get f with
    | .clos (.func g) a b => callX P true g (a ++ xs.map st.get ++ b) st d K
    | _ => False
  | .mv x => landP (qf st (d.getD 0) (.mv x)) st d K
  | .bin a b c e => landP (qf st (d.getD 0) (.bin a b c e)) st d K
  | .shf a b c e => landP (qf st (d.getD 0) (.shf a b c e)) st d K
  | .sbin a b c => landP (qf st (d.getD 0) (.sbin a b c)) st d K
  | .bbin a b c => landP (qf st (d.getD 0) (.bbin a b c)) st d K
  | .abin a b c e => landP (qf st (d.getD 0) (.abin a b c e)) st d K
  | .neg a b => landP (qf st (d.getD 0) (.neg a b)) st d K
  | .com a b => landP (qf st (d.getD 0) (.com a b)) st d K
  | .not a => landP (qf st (d.getD 0) (.not a)) st d K
  | .conv a b => landP (qf st (d.getD 0) (.conv a b)) st d K
  | .scv a => landP (qf st (d.getD 0) (.scv a)) st d K
  | .s2b a => landP (qf st (d.getD 0) (.s2b a)) st d K
  | .b2s a => landP (qf st (d.getD 0) (.b2s a)) st d K
  | .chk a => landP (qf st (d.getD 0) (.chk a)) st d K
  | .fad a b => landP (qf st (d.getD 0) (.fad a b)) st d K
  | .fld a b c => landP (qf st (d.getD 0) (.fld a b c)) st d K
  | .ld a b => landP (qf st (d.getD 0) (.ld a b)) st d K
  | .new a => landP (qf st (d.getD 0) (.new a)) st d K
  | .box a b => landP (qf st (d.getD 0) (.box a b)) st d K
  | .bld a b => landP (qf st (d.getD 0) (.bld a b)) st d K
  | .iad a b c e => landP (qf st (d.getD 0) (.iad a b c e)) st d K
  | .ist a b => landP (qf st (d.getD 0) (.ist a b)) st d K
  | .sli a b c e => landP (qf st (d.getD 0) (.sli a b c e)) st d K
  | .sst a b c => landP (qf st (d.getD 0) (.sst a b c)) st d K
  | .len a => landP (qf st (d.getD 0) (.len a)) st d K
  | .sln a => landP (qf st (d.getD 0) (.sln a)) st d K
  | .ext a b => landP (qf st (d.getD 0) (.ext a b)) st d K
  | .mk a b c e => landP (qf st (d.getD 0) (.mk a b c e)) st d K
  | .mkf a b c => landP (qf st (d.getD 0) (.mkf a b c)) st d K
  | .pick a b c => landP (qf st (d.getD 0) (.pick a b c)) st d K
  | .mx a b => landP (qf st (d.getD 0) (.mx a b)) st d K
  | .mn a b => landP (qf st (d.getD 0) (.mn a b)) st d K
  | _ => False

def grdB (v : DV) (b : Bool) (p q : Prop) : Prop := match v with
  | .bool c => (c = b → p) ∧ (c = !b → q)
  | _ => False

/-- A guard: what is done, and what else. (A tuple: the guard itself was not reckoned.) -/
def grd (x : AV) (b : Bool) (p q : Prop) : Prop := match x with
  | .d v => grdB v b p q
  | .tup _ => q
  | _ => False

theorem grd_cases {x : AV} {b : Bool} {p q : Prop} (h : grd x b p q) : (∃ c, x = .d (.bool c) ∧ (c = b → p) ∧ (c = !b → q)) ∨ (∃ vs, x = .tup vs ∧ q) := by
  cases x with
  | d v =>
    cases v with
    | bool c => exact .inl ⟨c, rfl, h.1, h.2⟩
    | _ => exact h.elim
  | tup vs => exact .inr ⟨vs, rfl, h⟩
  | _ => exact h.elim

def run1 (P : Program) (loud : Nat → Bool) (so : SO) (K : St → Prop) (st : St) : Prop := match so.g with
  | none => ef P loud st so.d K so.op
  | some (t, b) => grd (st.s t) b (ef P loud st so.d K so.op) (K (st.put so.d (.tup [])))

def runs (P : Program) (loud : Nat → Bool) : List SO → (St → Prop) → St → Prop
  | [], K, st => K st
  | o :: r, K, st => run1 P loud o (runs P loud r K) st

def runT (P : Program) (loud : Nat → Bool) : DT → (St → Prop) → St → Prop
  | .done, K, st => K st
  | .op o t, K, st => run1 P loud o (runT P loud t K) st
  | .both a b, K, st => runT P loud a K st ∧ runT P loud b K st

section
variable {P : Program} {w : World} {S : Nat → Prop} {ι : Io} {loud : Nat → Bool}

/-- The state tells of the frame. 'N': how many slots; the world, and what was told, when the function began. -/
structure Rep (N : Nat) (w0 : World) (S0 : Nat → Prop) (ι0 : Io) (H0 : Hp) (w : World) (S : Nat → Prop) (ι : Io) (st : St) (a : Act) : Prop where
  hr : HR w S ι st.H
  sl : SL w S ι st.H a st.s
  size : a.tmps.size = N
  defers : a.defers = []
  fr : Fr w0 S0 ι0 H0 w S ι st.H
  par : ∀ l, H0.bx l ≠ none → st.bx l ≠ none

theorem run_storeAt {t : TypeId} {b o n : Nat} {u : Value} {cs : Array Value} {T : TypeId} {lo hi : Nat} (hn : P.cellsOf t = n) (h0 : n ≠ 0) (hu : u.cells.size = n) (hb : w.heap[b]? = some (.cells cs T (lo, hi))) (hle : o + n ≤ cs.size)
    (hf : ∀ k, k < cs.size → ¬ (lo ≤ k ∧ k < hi)) (h1 : ∀ v ∈ u.cells.toList, cellB v = true) : (Instr.storeAt t (.pointer (some ⟨b, o, none⟩)) u).run P w = .ok () (w.setCells b o u.cells.toList) := by
  simp [Instr.storeAt, Instr.sureAddr, storeVar, run_sizeOf hn h0, hu, run_store_cells hb (by simpa [hu] using hle) hf h1]

theorem getD_toList (l : Array Value) (j : Nat) : l.toList.getD j undef = l.getD j undef := by
  simp [List.getD, Array.getD_eq_getD_getElem?]

theorem mem_cells {l : Array Value} {p : Value → Prop} (h : ∀ j, j < l.size → p (l.getD j undef)) : ∀ v ∈ l.toList, p v := by
  intro v hv
  obtain ⟨j, hj, rfl⟩ := List.mem_iff_getElem.1 hv
  have := h j (by simpa using hj)
  have hj' : j < l.size := by simpa using hj
  simpa [Array.getD, hj'] using this

theorem St.put_H (st : St) (d : Option Nat) (v : AV) : (st.put d v).H = st.H := by cases d <;> rfl
theorem St.put_bx (st : St) (d : Option Nat) (v : AV) : (st.put d v).bx = st.bx := by cases d <;> rfl

/-- A store. -/
theorem store_go {st : St} {t : TypeId} {v u : Value} {x y : AV} {K : St → Prop} {d : Option Nat} (R : HR w S ι st.H) (hx : VL w S ι st.H v x) (hy : VL w S ι st.H u y) (h : storeP st d (P.cellsOf t) x y K) :
    ∃ w' st', (Instr.storeAt t v u).run P w = .ok () w' ∧ Step w S ι st w' S ι st' ∧ K st' ∧ Tell w S ι st d undef w' S ι st' := by
  unfold storeP at h
  split at h
  · rename_i l o
    split at h
    · rename_i cells hl
      obtain ⟨⟨h1, h2, h3, h4⟩, hK⟩ := h
      obtain ⟨e, _⟩ := hx.ptr_inv
      subst e
      obtain ⟨c1, c2⟩ := cells_vl hy h4
      obtain ⟨cs, T, g1, g2, g3⟩ := R.boxes l cells hl
      have hrun := run_storeAt (P := P) (t := t) (o := o) rfl h2 (by omega) g1 (by omega) (by intro k _; omega) (mem_cells (fun j hj => (c2 j (by omega)).2))
      have W := wrote (ι.bx l) u.cells.toList o w
      obtain ⟨E, R', F⟩ := set_box R hl (o := o) (ys := cellsOf y) (vs := u.cells.toList) (by simpa using c1) (by omega) (fun j hj => by rw [getD_toList]; exact (c2 j hj).1) W
      refine ⟨_, _, hrun, ⟨by rw [St.put_H]; exact R', by rw [St.put_H]; exact F, fun m hm => ?_⟩, hK, fun u i hi hv => ?_, fun k hk => ?_⟩
      · rw [St.put_bx]
        by_cases e : m = l
        · subst e; simp [upd_same]
        · simpa [upd_ne _ _ e] using hm
      · rw [St.put_H]
        have e : ((⟨st.s, upd st.bx l (some (splice cells o (cellsOf y))), st.tg⟩ : St).put d .any).s i = st.s i := by
          cases d with
          | none => rfl
          | some k => exact upd_ne _ _ (fun e => hi (by rw [e]))
        rw [e]; exact hv.ext E R
      · subst hk
        simp only [St.put, upd_same]; exact .any _
    · exact h.elim
  · rename_i t' sz i j row
    split at h
    · rename_i ds hds
      obtain ⟨⟨h1, h2, h3⟩, hK⟩ := h
      obtain ⟨c1, c2⟩ := row_ok hds hy
      cases hx with
      | @optr _ _ n b base _ _ _ ht hι hi hsz cv hc hr =>
        obtain ⟨⟨cs, T, lo, hi', g1, g2, g3⟩⟩ := (R.rows t' sz n ht).1 b base hι
        have hin : i * sz + sz ≤ n * sz := by rw [← Nat.succ_mul]; exact Nat.mul_le_mul_right sz hi
        have hrun := run_storeAt (P := P) (t := t) (o := base + i * sz + j) rfl h2 (by omega) g1 (by omega) (by intro k _ _; omega) (mem_cells (fun k hk => (c2 k (by omega)).cellB))
        have W := wrote b u.cells.toList (base + i * sz + j) w
        obtain ⟨A, R', F⟩ := set_row R ht hι hi (j := j) (ds := ds) (vs := u.cells.toList) (by omega) (by simpa using c1) (fun k hk => by rw [getD_toList]; exact c2 k hk) W
        refine ⟨_, _, hrun, ⟨by rw [St.put_H]; exact R', by rw [St.put_H]; exact F, fun m hm => ?_⟩, hK, fun u q hq hv => ?_, fun k hk => ?_⟩
        · rw [St.put_bx]
          exact (Hp.map_bx (H := st.H) m).2 hm
        · rw [St.put_H]
          have e : ((st.map (setE t' i j ds)).put d .any).s q = setE t' i j ds (st.s q) := by
            cases d with
            | none => rfl
            | some k => exact upd_ne _ _ (fun e => hq (by rw [e]))
          rw [e]; exact A _ _ hv
        · subst hk
          simp only [St.put, upd_same]; exact .any _
    · exact h.elim
  · exact h.elim

theorem St.app_ne {st : St} {k t sz : Nat} {rows : List (List DV)} {j : Nat} (h : j ≠ k) : (st.app k t sz rows).s j = kill t (st.s j) := by simp [St.app, upd, h]
theorem St.app_at {st : St} {k t sz : Nat} {rows : List (List DV)} : (st.app k t sz rows).s k = .own t sz 0 rows := by simp [St.app, upd]

/-- Append. -/
theorem append_go {st : St} {t u ty e : TypeId} (ht : P.underlying t = some (.slice e)) (hu : (∃ e', P.underlying u = some (.slice e')) ∨ P.underlying u = some .string)
    (hb : P.bytesOf e ≤ 128) (hz : zeroFits P e = true) (h0 : 0 < P.cellsOf e) {v x : Value} {X Y : AV} {K : St → Prop} {d : Option Nat} (R : HR w S ι st.H) (hv : VL w S ι st.H v X) (hx : VL w S ι st.H x Y)
    (h : appP st d (P.cellsOf e) X Y K) :
    ∃ r w' ι' st', (Builtin.append_ #[t, u] ty #[v, x]).run P w = .ok r w' ∧ Step w S ι st w' S ι' st' ∧ K st' ∧ Tell w S ι st d r w' S ι' st' := by
  obtain ⟨i, z, hi, hzv, hzs⟩ : ∃ i z, P.info? e = some i ∧ i.zero = some z ∧ z.cells.size = P.cellsOf e := by
    unfold zeroFits at hz
    split at hz
    · rename_i z hzz
      obtain ⟨i, hi, hzz⟩ := bind_some hzz
      exact ⟨i, z, hi, hzz, by simpa using hz⟩
    · cases hz
  have hsz := info_size hi
  rw [info_bytes hi] at hb
  rw [hsz] at hzs h0 h
  unfold appP at h
  split at h
  · rename_i k t' sz' rows ys hys
    obtain ⟨⟨rfl, h2, h3⟩, hK⟩ := h
    obtain ⟨r, w', ι', q1, q2, q3, q4, q5⟩ := app_go (ty := ty) ht hu hi hzv hb hzs h0 R hv h2 hx hys h3
    have hH : (st.app k t' i.size (rows ++ ys)).H = st.H.app t' i.size (rows.length + ys.length) := by simp [St.app, Hp.app, St.H, Hp.map]
    refine ⟨r, w', ι', _, q1, ⟨by rw [hH]; exact q3, by rw [hH]; exact q4, fun l hl => ?_⟩, hK, fun u j hj hvu => ?_, fun j hj => ?_⟩
    · exact (Hp.map_bx (H := st.H) l).2 hl
    · rw [hH]
      have e1 : (st.app k t' i.size (rows ++ ys)).s j = kill t' (st.s j) := St.app_ne (fun e => hj (by rw [e]))
      rw [e1]; exact q2 _ _ hvu
    · cases hj
      rw [hH]
      have e1 : (st.app k t' i.size (rows ++ ys)).s k = .own t' i.size 0 (rows ++ ys) := St.app_at
      rw [e1]; exact q5
  · rename_i k sz' ys hys
    obtain ⟨⟨h2, h3⟩, hK⟩ := h
    obtain ⟨E, R1, F1⟩ := seed R (sz := i.size) h2
    have hv1 : VL w S ⟨ι.bx, upd ι.tg k none⟩ ⟨st.bx, upd st.tg k (some (i.size, 0))⟩ v (.own k i.size 0 []) := by
      rw [hv.nils_inv]
      exact .onil (n := 0) (by simp [upd_same]) (by simp [upd_same])
    obtain ⟨r, w', ι', q1, q2, q3, q4, q5⟩ := app_go (ty := ty) ht hu hi hzv hb hzs h0 R1 hv1 (by simp [upd_same]) (hx.ext E R) hys (by simpa using h3)
    have hup : ∀ a b : Option (Nat × Nat), upd (upd st.tg k a) k b = upd st.tg k b := fun a b => by funext j; simp only [upd]; split <;> rfl
    have hH : (st.app k k i.size ys).H = (⟨st.bx, upd st.tg k (some (i.size, 0))⟩ : Hp).app k i.size (([] : List (List DV)).length + ys.length) := by simp [St.app, Hp.app, St.H, Hp.map, hup]
    refine ⟨r, w', ι', _, q1, ⟨by rw [hH]; exact q3, by rw [hH]; exact F1.trans R1 q4 (fun l hl _ => hl), fun l hl => ?_⟩, hK, fun u j hj hvu => ?_, fun j hj => ?_⟩
    · exact (Hp.map_bx (H := st.H) l).2 hl
    · rw [hH]
      have e1 : (st.app k k i.size ys).s j = kill k (st.s j) := St.app_ne (fun e => hj (by rw [e]))
      rw [e1]; exact q2 _ _ (hvu.ext E R)
    · cases hj
      rw [hH]
      have e1 : (st.app k k i.size ys).s k = .own k i.size 0 ys := St.app_at
      rw [e1]; simpa using q5
  · exact h.elim

end
end Go.Proofs.YtchmoleeajkioaaDoor.V
