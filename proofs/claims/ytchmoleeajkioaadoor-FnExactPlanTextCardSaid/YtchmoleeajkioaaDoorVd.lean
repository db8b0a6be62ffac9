/-
  THE LOGIC V, PART d: what an operation without new memory gives is what the machine gives.
-/
import Derived.Test.YtchmoleeajkioaaDoorVc
import Derived.Laws.Entries
import Derived.Laws.Strings
import Derived.Laws.Slices
import Derived.Laws.Small
import Derived.Laws.Cells
import Derived.Laws.Rows
import Derived.Laws.Unary
import Derived.Laws.BytesString
import Derived.Laws.BytesArg
import Derived.Laws.StructEq
import Derived.Laws.Tables
import Derived.Lib.ConvBytes
namespace Go.Proofs.YtchmoleeajkioaaDoor.V
open Go Go.RowKit
set_option linter.unusedSimpArgs false
set_option linter.unusedVariables false

section
variable {P : Program} {w : World} {S : Nat → Prop} {ι : Io} {H : Hp}

theorem VL.int_inv {v : Value} {k : IntKind} {n : Int} (h : VL w S ι H v (.d (.int k n))) : v = .int k n := by
  cases h with | d h => cases h; rfl
theorem VL.bool_inv {v : Value} {b : Bool} (h : VL w S ι H v (.d (.bool b))) : v = .bool b := by
  cases h with | d h => cases h; rfl
theorem VL.str_inv {v : Value} {s : List UInt8} (h : VL w S ι H v (.d (.str s))) : v = .string ⟨s.toArray⟩ := by
  cases h with | d h => cases h; rfl
theorem VL.int (k : IntKind) (n : Int) : VL w S ι H (.int k n) (iv k n) := .d (.int k n)
theorem VL.bool (b : Bool) : VL w S ι H (.bool b) (bv b) := .d (.bool b)
theorem VL.str (s : List UInt8) : VL w S ι H (.string ⟨s.toArray⟩) (sv s) := .d (.str s)
theorem VL.nils_inv {v : Value} {sz : Nat} (h : VL w S ι H v (.nils sz)) : v = .slice none 0 0 := by cases h; rfl
theorem VL.ptr_inv {v : Value} {l o : Nat} (h : VL w S ι H v (.ptr l o)) : v = .pointer (some ⟨ι.bx l, o, none⟩) ∧ H.bx l ≠ none := by
  cases h with | ptr h => exact ⟨rfl, h⟩

theorem const_vl {t : TypeId} {v : Value} {x : AV} (h : slimConst P t v = some x) : VL w S ι H v x := by
  unfold slimConst at h
  split at h
  · cases h; exact VL.int _ _
  · cases h; exact VL.bool _
  · cases h
    rename_i s
    exact VL.const (by simp [constOk])
  · split at h
    · cases h; exact .nils _
    · cases h
  · cases h; exact .d (.oth _ rfl)
  · cases h; exact .d (.oth _ rfl)
  · cases h; exact .d (.oth _ rfl)
  · cases h; exact .d (.oth _ rfl)
  · cases h

/-- The slots tell of the frame. -/
def SL (w : World) (S : Nat → Prop) (ι : Io) (H : Hp) (a : Act) (s : Nat → AV) : Prop := ∀ i, VL w S ι H (a.tmps.getD i undef) (s i)

theorem arg_vl {st : St} {a : Act} {t : TypeId} {x : Operand} {y : SA} (h : slimArg P t x = some y) (V : SL w S ι H a st.s) : VL w S ι H (a.eval x) (st.get y) := by
  unfold slimArg at h
  split at h
  · cases h; exact V _
  · simp only [Option.map_eq_some_iff] at h
    obtain ⟨z, hz, rfl⟩ := h
    exact const_vl hz
  · cases h
    exact VL.clos (fs := []) (cs := []) rfl (fun j h => absurd h (by simp)) rfl (fun j h => absurd h (by simp))
  · cases h

theorem wrap_fit (k : IntKind) (n : Int) (h : (fit k n).p) : (fit k n).v = iv k (k.wrap n) := by
  cases k <;> simp only [fit, inK] at h ⊢ <;> simp only [iv, AV.d.injEq, DV.int.injEq, true_and] <;> simp [IntKind.wrap, IntKind.bits, IntKind.signed] <;> omega

theorem fit_al (k : IntKind) (n : Int) : (fit k n).al = .no := by cases k <;> rfl

/-- What is said of an operation: it runs in the world that it gets, and its value is told. -/
def Gives (P : Program) (w : World) (S : Nat → Prop) (ι : Io) (H : Hp) (s : Sem Next) (x : AV) : Prop :=
  ∃ v, s.run P w = .ok (.value v) w ∧ VL w S ι H v x

theorem bytes_toList (l : List UInt8) : (⟨l.toArray⟩ : ByteArray).toList = l := by
  have h : ∀ (n i : Nat) (r : List UInt8), n = l.length - i → ByteArray.toList.loop ⟨l.toArray⟩ i r = r.reverse ++ l.drop i := by
    intro n
    induction n with
    | zero =>
      intro i r hn
      unfold ByteArray.toList.loop
      have : ¬ i < l.length := by omega
      simp [ByteArray.size, this]
      have hd : l.drop i = [] := List.drop_eq_nil_of_le (by omega)
      simp [hd]; omega
    | succ n ih =>
      intro i r hn
      have hi : i < l.length := by omega
      unfold ByteArray.toList.loop
      simp only [ByteArray.size, List.size_toArray, hi, if_true]
      rw [ih _ _ (by omega), List.drop_eq_getElem_cons hi]
      simp [ByteArray.get!, hi]
  have := h l.length 0 [] (by omega)
  simpa [ByteArray.toList] using this

theorem fit_vl {k : IntKind} {n : Int} (h : (fit k n).p) : VL w S ι H (.int k (k.wrap n)) (fit k n).v := by rw [wrap_fit _ _ h]; exact VL.int _ _

theorem arI_ok {op : BinOp} {k : IntKind} {a b : Int} {t : TypeId} (h : (arI op k a b).p) :
    (arI op k a b).al = .no ∧ ∃ v, (binOp op t (.int k a) (.int k b)).run P w = .ok v w ∧ VL w S ι H v (arI op k a b).v := by
  cases op <;> simp only [arI] at h ⊢
  case add => exact ⟨fit_al _ _, .int k (k.wrap (a + b)), by simp [binOp, Op.intArith], fit_vl h⟩
  case sub => exact ⟨fit_al _ _, .int k (k.wrap (a - b)), by simp [binOp, Op.intArith], fit_vl h⟩
  case mul => exact ⟨fit_al _ _, .int k (k.wrap (a * b)), by simp [binOp, Op.intArith], fit_vl h⟩
  case quo => exact ⟨trivial, .int k (k.wrap (a.tdiv b)), by simp [binOp, Op.intDiv, h.1], fit_vl h.2⟩
  case rem => exact ⟨trivial, .int k (a.tmod b), by simp [binOp, Op.intDiv, h], VL.int _ _⟩
  case and => exact ⟨trivial, .int k (bitsI .and k a b), by simp [binOp]; rfl, VL.int _ _⟩
  case or => exact ⟨trivial, .int k (bitsI .or k a b), by simp [binOp]; rfl, VL.int _ _⟩
  case xor => exact ⟨trivial, .int k (bitsI .xor k a b), by simp [binOp]; rfl, VL.int _ _⟩
  case andNot => exact ⟨trivial, .int k (bitsI .andNot k a b), by simp [binOp]; rfl, VL.int _ _⟩
  case eql => exact ⟨trivial, .bool _, by simp [binOp, Op.intCmp], VL.bool _⟩
  case neq => exact ⟨trivial, .bool _, by simp [binOp, Op.intCmp], VL.bool _⟩
  case lss => exact ⟨trivial, .bool _, by simp [binOp, Op.intCmp], VL.bool _⟩
  case leq => exact ⟨trivial, .bool _, by simp [binOp, Op.intCmp], VL.bool _⟩
  case gtr => exact ⟨trivial, .bool _, by simp [binOp, Op.intCmp], VL.bool _⟩
  case geq => exact ⟨trivial, .bool _, by simp [binOp, Op.intCmp], VL.bool _⟩
  all_goals exact h.elim

theorem shI_ok {op : BinOp} {k yk : IntKind} {a b : Int} {t : TypeId} (h : (shI op k a b).p) :
    (shI op k a b).al = .no ∧ ∃ v, (binOp op t (.int k a) (.int yk b)).run P w = .ok v w ∧ VL w S ι H v (shI op k a b).v := by
  cases op <;> simp only [shI] at h ⊢
  case shl =>
    have h0 : ¬ b < 0 := by omega
    exact ⟨trivial, .int k (k.wrap (a * 2 ^ (min b.toNat k.bits))), by simp only [binOp, Op.shift, if_neg h0]; rfl, fit_vl h.2⟩
  case shr =>
    have h0 : ¬ b < 0 := by omega
    exact ⟨trivial, _, by simp only [binOp, Op.shift, if_neg h0]; rfl, VL.int _ _⟩
  all_goals exact h.elim

theorem append_bytes (x y : List UInt8) : (⟨x.toArray⟩ : ByteArray) ++ ⟨y.toArray⟩ = ⟨(x ++ y).toArray⟩ := by
  apply ByteArray.ext
  simp

theorem stI_ok {op : BinOp} {x y : List UInt8} {t : TypeId} (h : (stI op x y).p) :
    (stI op x y).al = .no ∧ ∃ v, (binOp op t (.string ⟨x.toArray⟩) (.string ⟨y.toArray⟩)).run P w = .ok v w ∧ VL w S ι H v (stI op x y).v := by
  cases op <;> simp only [stI] at h ⊢
  case add =>
    refine ⟨trivial, _, ?_, VL.str _⟩
    have h0 : ¬ ((x.length + y.length : Nat) : Int) > IntKind.i64.max := by
      have : IntKind.i64.max = 9223372036854775807 := by decide
      rw [this]; omega
    simp only [binOp, Op.stringOp, ByteArray.size, List.size_toArray, if_neg h0, append_bytes]; rfl
  case eql => exact ⟨trivial, _, by simp only [binOp, Op.stringOp, bytes_toList]; rfl, VL.bool _⟩
  case neq => exact ⟨trivial, _, by simp only [binOp, Op.stringOp, bytes_toList]; rfl, VL.bool _⟩
  case lss => exact ⟨trivial, _, by simp only [binOp, Op.stringOp, bytes_toList]; rfl, VL.bool _⟩
  case leq => exact ⟨trivial, _, by simp only [binOp, Op.stringOp, bytes_toList]; rfl, VL.bool _⟩
  case gtr => exact ⟨trivial, _, by simp only [binOp, Op.stringOp, bytes_toList]; rfl, VL.bool _⟩
  case geq => exact ⟨trivial, _, by simp only [binOp, Op.stringOp, bytes_toList]; rfl, VL.bool _⟩
  all_goals exact h.elim

theorem run_underlying {t : TypeId} {d : TypeDesc} (h : P.underlying t = some d) : (underlying t).run P w = .ok d w := by
  simp [underlying, h]
theorem run_sizeOf {t : TypeId} {n : Nat} (h : P.cellsOf t = n) (hn : n ≠ 0) : (sizeOf t).run P w = .ok n w := by
  unfold Program.cellsOf at h
  cases hi : P.info? t with
  | none => simp [hi] at h; omega
  | some i => simp [hi] at h; simp [sizeOf, typeInfo, hi, h]
theorem run_sizeOf' {t : TypeId} {d : TypeDesc} (h : P.underlying t = some d) : (sizeOf t).run P w = .ok (P.cellsOf t) w := by
  cases hi : P.info? t with
  | none => simp [Program.underlying, hi] at h
  | some i => simp [sizeOf, typeInfo, hi, Program.cellsOf]

theorem field_of {fs : Array Field} {i off n : Nat} {ft : TypeId} (h : fieldOf P fs i = some (off, n, ft)) :
    ∃ f, fs[i]? = some f ∧ f.offset = off ∧ f.type = ft ∧ P.cellsOf ft = n ∧ n ≠ 0 := by
  unfold fieldOf at h
  split at h
  · rename_i f hf
    split at h
    · cases h
    · rename_i h0
      simp at h
      obtain ⟨rfl, rfl, rfl⟩ := h
      exact ⟨f, hf, rfl, rfl, rfl, h0⟩
  · cases h

theorem add_addr (b o n : Nat) : (⟨b, o, none⟩ : Addr).add n = ⟨b, o + n, none⟩ := by
  unfold Addr.add; split <;> simp_all

theorem run_fieldAt {sT : TypeId} {fs : Array Field} {i off n : Nat} {ft : TypeId} (hu : P.underlying sT = some (.struct fs)) (hf : fieldOf P fs i = some (off, n, ft)) (b o : Nat) :
    (Instr.fieldAt sT (.pointer (some ⟨b, o, none⟩)) i).run P w = .ok (.pointer (some ⟨b, o + off, none⟩)) w := by
  obtain ⟨f, h1, rfl, rfl, h2, h3⟩ := field_of hf
  simp [Instr.fieldAt, run_underlying hu, h1, Instr.sureAddr, fieldPlace, run_sizeOf h2 h3, h3, add_addr]

theorem shape_one {t : TypeId} (h : shapeOf P t = some none) : (isAgg t).run P w = .ok false w := by
  unfold shapeOf at h
  split at h
  · simp at h
  · simp at h
  · rename_i d h1 h2 hd
    simp only [isAgg, Sem.run_bind, run_underlying hd, Result.andThen_ok]
    cases d <;> simp_all
  · simp at h
theorem shape_agg {t : TypeId} {n : Nat} (h : shapeOf P t = some (some n)) : (isAgg t).run P w = .ok true w ∧ (sizeOf t).run P w = .ok n w := by
  unfold shapeOf at h
  split at h
  · rename_i hd
    simp at h; subst h
    exact ⟨by simp [isAgg, run_underlying hd], run_sizeOf' hd⟩
  · simp at h
  · simp at h
  · simp at h

theorem cell_load {b o : Nat} {v : Value} (h : w.cell? ⟨b, o, none⟩ = some v) : (load ⟨b, o, none⟩).run P w = .ok v w := by
  simp [h]

theorem run_loadAt_one {t : TypeId} {b o : Nat} {v : Value} (ht : shapeOf P t = some none) (h : w.cell? ⟨b, o, none⟩ = some v) :
    (Instr.loadAt t (.pointer (some ⟨b, o, none⟩))).run P w = .ok v w := by
  simp [Instr.loadAt, Instr.sureAddr, loadVar, shape_one ht, h]

theorem run_loadAt_agg {t : TypeId} {b o n : Nat} {vs : List Value} (ht : shapeOf P t = some (some n)) (hn : vs.length = n)
    (h : ∀ j, j < n → w.cell? ⟨b, o + j, none⟩ = some (vs.getD j undef)) :
    (Instr.loadAt t (.pointer (some ⟨b, o, none⟩))).run P w = .ok (.agg vs.toArray) w := by
  have h2 := run_loadCells_list (P := P) (w := w) ⟨b, o, none⟩ vs (fun j v hv => by
    rw [add_addr]
    have hj : j < vs.length := by
      rcases Nat.lt_or_ge j vs.length with h' | h'
      · exact h'
      · simp [List.getElem?_eq_none h'] at hv
    rw [h j (by omega)]
    simp [hv])
  rw [hn] at h2
  simp [Instr.loadAt, Instr.sureAddr, loadVar, (shape_agg ht).1, (shape_agg ht).2, h2]

/-- Loads out of cells that are told. -/
theorem ld_cells {t : TypeId} {n : Option Nat} (ht : shapeOf P t = some n) {b o0 o : Nat} {cells : List AV} (cv : Nat → Value)
    (hc : ∀ j, j < cells.length → w.cell? ⟨b, o0 + j, none⟩ = some (cv j)) (hv : ∀ j (h : j < cells.length), VL w S ι H (cv j) (cells[j])) (hp : (ldC cells o n).p) :
    ∃ v, (Instr.loadAt t (.pointer (some ⟨b, o0 + o, none⟩))).run P w = .ok v w ∧ VL w S ι H v (ldC cells o n).v := by
  cases n with
  | none =>
    simp only [ldC] at hp ⊢
    cases hx : cells[o]? with
    | none => simp [hx, bad] at hp
    | some x =>
      have ho : o < cells.length := by
        rcases Nat.lt_or_ge o cells.length with h | h
        · exact h
        · simp [List.getElem?_eq_none h] at hx
      have := hv o ho
      simp [List.getElem?_eq_getElem ho] at hx
      exact ⟨cv o, run_loadAt_one ht (hc o ho), by rw [← hx]; exact this⟩
  | some m =>
    simp only [ldC] at hp ⊢
    refine ⟨.agg ((List.range m).map fun j => cv (o + j)).toArray, ?_, ?_⟩
    · refine run_loadAt_agg ht (by simp) (fun j hj => ?_)
      rw [Nat.add_assoc, hc (o + j) (by omega)]
      simp [List.getD, hj]
    · refine .agg (by simp; omega) (fun j hj => ?_)
      simp only [List.length_take, List.length_drop] at hj
      have hj' : j < m := by omega
      have h1 : ((List.range m).map fun j => cv (o + j)).getD j undef = cv (o + j) := by simp [List.getD, hj']
      have h2 : (List.take m (List.drop o cells))[j]'(by simp; omega) = cells[o + j]'(by omega) := by simp
      rw [h1, h2]
      exact hv _ _

theorem bx_cells (R : HR w S ι H) {l : Nat} {cs : List AV} (h : H.bx l = some cs) :
    ∃ cv : Nat → Value, (∀ j, j < cs.length → w.cell? ⟨ι.bx l, j, none⟩ = some (cv j)) ∧ (∀ j (h : j < cs.length), VL w S ι H (cv j) (cs[j])) := by
  obtain ⟨arr, T, h1, h2, h3⟩ := R.boxes _ _ h
  refine ⟨fun j => arr.getD j undef, fun j hj => ?_, h3⟩
  have : j < arr.size := by omega
  simp [World.cell?, h1, Array.getD, this]

theorem ld_ok {t : TypeId} {n : Option Nat} (ht : shapeOf P t = some n) (R : HR w S ι H) {v : Value} {x : AV} (hx : VL w S ι H v x) (hp : (ldF H.bx n x).p) :
    (ldF H.bx n x).al = .no ∧ ∃ u, (Instr.loadAt t v).run P w = .ok u w ∧ VL w S ι H u (ldF H.bx n x).v := by
  have hal : ∀ (cs : List AV) (o : Nat) (m : Option Nat), (ldC cs o m).p → (ldC cs o m).al = .no := by
    intro cs o m hm
    cases m with
    | none => simp only [ldC] at hm ⊢; split <;> simp_all [bad]
    | some m => rfl
  cases x <;> simp only [ldF] at hp ⊢ <;> try exact hp.elim
  case ptr l o =>
    obtain ⟨rfl, hl⟩ := hx.ptr_inv
    cases hb : H.bx l with
    | none => exact absurd hb hl
    | some cs =>
      simp only [hb] at hp ⊢
      obtain ⟨cv, h1, h2⟩ := bx_cells R hb
      refine ⟨hal _ _ _ hp, ?_⟩
      have := ld_cells (P := P) ht (b := ι.bx l) (o0 := 0) cv (fun j hj => by rw [Nat.zero_add]; exact h1 j hj) h2 hp
      simpa using this
  case rptr row =>
    cases hx with
    | rptr cv hS hc hr =>
      refine ⟨hal _ _ _ hp, ?_⟩
      exact ld_cells (P := P) ht (o := 0) (cells := row.map .d) cv (by simpa using hc) (fun j hj => by simp only [List.getElem_map]; exact .d (hr j (by simpa using hj))) hp
  case optr t' sz i j row =>
    cases hx with
    | optr h hι hi hsz cv hc hr =>
      refine ⟨hal _ _ _ hp, ?_⟩
      exact ld_cells (P := P) ht (o := j) (cells := row.map .d) cv (by simpa [hsz] using hc) (fun j hj => by simp only [List.getElem_map]; exact .d (hr j (by simpa using hj))) hp

theorem getElem?_lt {α : Type} {l : List α} {i : Nat} {x : α} (h : l[i]? = some x) : ∃ hi : i < l.length, l[i] = x := by
  rcases Nat.lt_or_ge i l.length with h' | h'
  · exact ⟨h', by simpa [List.getElem?_eq_getElem h'] using h⟩
  · simp [List.getElem?_eq_none h'] at h

theorem run_asIntOf (k : IntKind) (i : Int) : (asIntOf (.int k i)).run P w = .ok (k, i) w := rfl

theorem run_indexAt {t e : TypeId} {sz : Nat} (hu : P.underlying t = some (.slice e)) (hs : P.cellsOf e = sz) (h0 : sz ≠ 0) {b o len cap : Nat} {k : IntKind} {i : Int} (hi : 0 ≤ i) (hl : i < len) :
    (Instr.indexAt t (.slice (some ⟨b, o, none⟩) len cap) (.int k i)).run P w = .ok (.pointer (some ⟨b, o + i.toNat * sz, none⟩)) w := by
  have : (0 ≤ i ∧ i < (len : Int)) := ⟨hi, hl⟩
  simp [Instr.indexAt, run_asIntOf, run_underlying hu, run_sizeOf hs h0, this, add_addr]

theorem iad_ok {t e : TypeId} {sz : Nat} {z : List DV} (hu : P.underlying t = some (.slice e)) (hs : P.cellsOf e = sz) (h0 : sz ≠ 0) {v u : Value} {x y : AV} (hx : VL w S ι H v x) (hy : VL w S ι H u y) (hp : (iadF sz z x y).p) :
    (iadF sz z x y).al = .no ∧ ∃ r, (Instr.indexAt t v u).run P w = .ok r w ∧ VL w S ι H r (iadF sz z x y).v := by
  unfold iadF at hp ⊢
  split at hp
  · rename_i sz' rows k i
    obtain ⟨rfl, hi, hl⟩ := hp
    obtain rfl := hy.int_inv
    refine ⟨rfl, ?_⟩
    cases hx with
    | d hx =>
      cases hx with
      | nil => simp at hl; omega
      | @sl b o cap _ _ cv hcap hS hsz hc hr =>
        have hlt : i.toNat < rows.length := by omega
        refine ⟨_, run_indexAt hu hs h0 hi hl, ?_⟩
        have hg : rows.getD i.toNat z = rows[i.toNat] := by simp [List.getD, hlt]
        simp only [hg]
        have hlen : (rows[i.toNat]).length = sz' := hsz _ (List.getElem_mem hlt)
        exact .rptr (cv i.toNat) hS (fun j hj => hc _ _ hlt (by omega)) (fun j hj => hr _ _ hlt hj)
  · rename_i t' sz' off rows k i
    obtain ⟨rfl, hi, hl⟩ := hp
    obtain rfl := hy.int_inv
    refine ⟨rfl, ?_⟩
    cases hx with
    | onil => simp at hl; omega
    | oemp => simp at hl; omega
    | @own _ _ n b base _ cap _ h hι hn hsz cv hc hr hcap hroom =>
      have hlt : i.toNat < rows.length := by omega
      refine ⟨_, run_indexAt hu hs h0 hi hl, ?_⟩
      have hg : rows.getD i.toNat z = rows[i.toNat] := by simp [List.getD, hlt]
      simp only [hg]
      have hlen : (rows[i.toNat]).length = sz' := hsz _ (List.getElem_mem hlt)
      have := VL.optr (w := w) (S := S) (H := H) (ι := ι) (i := off + i.toNat) (j := 0) (row := rows[i.toNat]) h hι (by omega) hlen (cv i.toNat) (fun j hj => hc _ _ hlt hj) (fun j hj => hr _ _ hlt hj)
      rw [Nat.add_mul, ← Nat.add_assoc] at this
      exact this
  · exact hp.elim

theorem run_len_sl {t e ty : TypeId} (hu : P.underlying t = some (.slice e)) (a : Option Addr) (n c : Nat) : (Builtin.len_ #[t] ty #[.slice a n c]).run P w = .ok (.int .i64 n) w := by
  simp [Builtin.len_, run_underlying hu, goInt]
theorem len_ok {t e ty : TypeId} {v : Value} {x : AV} (hu : P.underlying t = some (.slice e)) (hx : VL w S ι H v x) (hp : (lenF x).p) :
    (lenF x).al = .no ∧ ∃ r, (Builtin.len_ #[t] ty #[v]).run P w = .ok r w ∧ VL w S ι H r (lenF x).v := by
  unfold lenF at hp ⊢
  split at hp
  · refine ⟨rfl, ?_⟩
    cases hx with
    | d hx => cases hx with
      | nil => exact ⟨_, run_len_sl hu _ _ _, VL.int _ _⟩
      | sl => exact ⟨_, run_len_sl hu _ _ _, VL.int _ _⟩
  · refine ⟨rfl, ?_⟩
    cases hx with
    | onil => exact ⟨_, run_len_sl hu _ _ _, VL.int _ _⟩
    | oemp => exact ⟨_, run_len_sl hu _ _ _, VL.int _ _⟩
    | own => exact ⟨_, run_len_sl hu _ _ _, VL.int _ _⟩
  · obtain rfl := hx.nils_inv
    exact ⟨rfl, _, run_len_sl hu _ _ _, VL.int _ _⟩
  · exact hp.elim
theorem sln_ok {t ty : TypeId} {v : Value} {x : AV} (hu : P.underlying t = some .string) (hx : VL w S ι H v x) (hp : (slnF x).p) :
    (slnF x).al = .no ∧ ∃ r, (Builtin.len_ #[t] ty #[v]).run P w = .ok r w ∧ VL w S ι H r (slnF x).v := by
  unfold slnF at hp ⊢
  split at hp
  · obtain rfl := hx.str_inv
    exact ⟨rfl, .int .i64 _, by simp [Builtin.len_, run_underlying hu, goInt]; rfl, VL.int _ _⟩
  · exact hp.elim

theorem ist_ok {t : TypeId} {v u : Value} {x y : AV} (hu : P.underlying t = some .string) (hx : VL w S ι H v x) (hy : VL w S ι H u y) (hp : (istF x y).p) :
    (istF x y).al = .no ∧ ∃ r, (Instr.index t v u).run P w = .ok r w ∧ VL w S ι H r (istF x y).v := by
  unfold istF at hp ⊢
  split at hp
  · rename_i s k i
    obtain rfl := hx.str_inv
    obtain rfl := hy.int_inv
    obtain ⟨h0, h1⟩ := hp
    have hlt : i.toNat < s.length := by omega
    refine ⟨rfl, .int .u8 (s.getD i.toNat 0).toNat, ?_, VL.int _ _⟩
    have : (⟨s.toArray⟩ : ByteArray)[i.toNat]? = some (s.getD i.toNat 0) := by
      have hs : i.toNat < (⟨s.toArray⟩ : ByteArray).size := by simpa [ByteArray.size] using hlt
      rw [getElem?_pos (⟨s.toArray⟩ : ByteArray) i.toNat hs]
      simp [List.getD, hlt]
      rfl
    simp [Instr.index, run_asIntOf, run_underlying hu, h0, this]
  · exact hp.elim

theorem lo_ok {lo : Option AV} {v : Option Value} {l : Int} (h : loOf lo = some l) (hv : ∀ x, lo = some x → ∃ u, v = some u ∧ VL w S ι H u x) (hn : lo = none → v = none) :
    (lo = none ∧ v = none ∧ l = 0) ∨ ∃ k, v = some (.int k l) := by
  unfold loOf at h
  split at h
  · left; exact ⟨rfl, hn rfl, by simpa using h.symm⟩
  · right
    obtain ⟨u, h1, h2⟩ := hv _ rfl
    obtain rfl := h2.int_inv
    simp at h; subst h
    exact ⟨_, h1⟩
  · cases h
theorem hi_ok {hi : Option AV} {v : Option Value} {n : Nat} {l : Int} (h : hiOf n hi = some l) (hv : ∀ x, hi = some x → ∃ u, v = some u ∧ VL w S ι H u x) (hn : hi = none → v = none) :
    (hi = none ∧ v = none ∧ l = n) ∨ ∃ k, v = some (.int k l) := by
  unfold hiOf at h
  split at h
  · left; exact ⟨rfl, hn rfl, by simpa using h.symm⟩
  · right
    obtain ⟨u, h1, h2⟩ := hv _ rfl
    obtain rfl := h2.int_inv
    simp at h; subst h
    exact ⟨_, h1⟩
  · cases h

theorem run_bound {k : IntKind} {i : Int} {y : Nat} {c : BoundsCode} (h0 : 0 ≤ i) (h1 : i ≤ y) : (Instr.sliceBound (.int k i) y c).run P w = .ok i.toNat w := by
  have : (0 ≤ i ∧ i ≤ (y : Int)) := ⟨h0, h1⟩
  simp [Instr.sliceBound, run_asIntOf, this]

/-- The bounds of a slice expression without a third number. -/
theorem run_bounds {isS : Bool} {len cap : Nat} {lo hi : Option Value} {l h : Int} (hl : (lo = none ∧ l = 0) ∨ ∃ k, lo = some (.int k l)) (hh : (hi = none ∧ h = len) ∨ ∃ k, hi = some (.int k h))
    (h0 : 0 ≤ l) (h1 : l ≤ h) (h2 : h ≤ cap) : (Instr.sliceBounds isS len cap lo hi none).run P w = .ok (l.toNat, h.toNat, cap) w := by
  rcases hl with ⟨rfl, rfl⟩ | ⟨k, rfl⟩ <;> rcases hh with ⟨rfl, rfl⟩ | ⟨k', rfl⟩
  · simp [Instr.sliceBounds]
  · simp [Instr.sliceBounds, run_bound (P := P) (w := w) (k := k') (i := h) (y := cap) (by omega) h2]
  · simp [Instr.sliceBounds, run_bound (P := P) (w := w) (k := k) (i := l) (y := len) h0 h1]
  · simp [Instr.sliceBounds, run_bound (P := P) (w := w) (k := k') (i := h) (y := cap) (by omega) h2, run_bound (P := P) (w := w) (k := k) (i := l) (y := h.toNat) h0 (by omega)]

theorem run_sliceAt_sl {t e : TypeId} {sz : Nat} (hu : P.underlying t = some (.slice e)) (hs : P.cellsOf e = sz) (h0 : sz ≠ 0) {a : Option Addr} {len cap : Nat} {lo hi : Option Value} {l h : Int}
    (hl : (lo = none ∧ l = 0) ∨ ∃ k, lo = some (.int k l)) (hh : (hi = none ∧ h = len) ∨ ∃ k, hi = some (.int k h)) (g0 : 0 ≤ l) (g1 : l ≤ h) (g2 : h ≤ cap) :
    (Instr.sliceAt t (.slice a len cap) lo hi none).run P w = .ok (.slice (if cap = l.toNat then a else a.map (·.add (l.toNat * sz))) (h.toNat - l.toNat) (cap - l.toNat)) w := by
  simp [Instr.sliceAt, run_underlying hu, Instr.slice, run_bounds hl hh g0 g1 g2, run_sizeOf hs h0]

theorem take_drop_get {α : Type} (rows : List α) (l h i : Nat) (hi : i < ((rows.take h).drop l).length) : ∃ h', ((rows.take h).drop l)[i] = rows[l + i]'h' := by
  simp only [List.length_drop, List.length_take] at hi
  exact ⟨by omega, by simp⟩

theorem sub_rows {rows : List (List DV)} {sz l h : Nat} (hsz : ∀ r ∈ rows, r.length = sz) : ∀ r ∈ (rows.take h).drop l, r.length = sz := fun r hr => hsz r (List.mem_of_mem_take (List.mem_of_mem_drop hr))

theorem sub_sl {b o cap sz l h : Nat} {rows : List (List DV)} (cv : Nat → Nat → Value) (hcap : rows.length ≤ cap) (hS : S b) (hsz : ∀ r ∈ rows, r.length = sz)
    (hc : ∀ i j, i < rows.length → j < sz → w.cell? ⟨b, o + i * sz + j, none⟩ = some (cv i j)) (hr : ∀ i j (hi : i < rows.length) (hj : j < (rows[i]).length), Rd w S (cv i j) ((rows[i])[j]))
    (hlh : l ≤ h) (hh : h ≤ rows.length) :
    Rd w S (.slice (if cap = l then some ⟨b, o, none⟩ else some ⟨b, o + l * sz, none⟩) (h - l) (cap - l)) (.sl sz ((rows.take h).drop l)) := by
  by_cases he : l = h
  · subst he
    have : (rows.take l).drop l = [] := List.drop_eq_nil_of_le (by simp; omega)
    rw [this, Nat.sub_self]
    exact .nil _ _ _
  · have hlen : ((rows.take h).drop l).length = h - l := by simp; omega
    rw [if_neg (by omega), ← hlen]
    refine .sl (fun i j => cv (l + i) j) (by omega) hS (sub_rows hsz) (fun i j hi hj => ?_) (fun i j hi hj => ?_)
    · have := hc (l + i) j (by omega) hj
      rw [← this]
      congr 2
      rw [Nat.add_mul]; omega
    · obtain ⟨h', e⟩ := take_drop_get rows l h i hi
      have hj' : j < (rows[l + i]).length := by rw [← e]; exact hj
      have := hr (l + i) j h' hj'
      simp only [e]
      exact this

theorem sli_ok {t e : TypeId} {sz : Nat} (hu : P.underlying t = some (.slice e)) (hs : P.cellsOf e = sz) (h0 : sz ≠ 0) {v : Value} {x : AV} {lo hi : Option AV} {vl vh : Option Value} (hx : VL w S ι H v x)
    (h1 : ∀ x, lo = some x → ∃ u, vl = some u ∧ VL w S ι H u x) (h2 : lo = none → vl = none) (h3 : ∀ x, hi = some x → ∃ u, vh = some u ∧ VL w S ι H u x) (h4 : hi = none → vh = none)
    (hp : (sliF sz x lo hi).p) : (sliF sz x lo hi).al = .no ∧ ∃ r, (Instr.sliceAt t v vl vh none).run P w = .ok r w ∧ VL w S ι H r (sliF sz x lo hi).v := by
  unfold sliF at hp ⊢
  split at hp
  · rename_i sz' rows
    split at hp
    · rename_i l h hl hh
      obtain ⟨rfl, g0, g1, g2⟩ := hp
      have hl' := lo_ok hl h1 h2
      have hh' := hi_ok hh h3 h4
      simp only [hl, hh]
      refine ⟨trivial, ?_⟩
      have hl'' : (vl = none ∧ l = 0) ∨ ∃ k, vl = some (.int k l) := hl'.imp (fun h => h.2) id
      have hh'' : (vh = none ∧ h = rows.length) ∨ ∃ k, vh = some (.int k h) := hh'.imp (fun h => h.2) id
      cases hx with
      | d hx =>
        cases hx with
        | nil a cap =>
          simp at g2
          obtain rfl : h = 0 := by omega
          obtain rfl : l = 0 := by omega
          refine ⟨_, run_sliceAt_sl hu hs h0 hl'' hh'' (by omega) (by omega) (by omega), ?_⟩
          simp
          exact .d (.nil _ _ _)
        | @sl b o cap _ _ cv hcap hS hsz hc hr =>
          refine ⟨_, run_sliceAt_sl hu hs h0 hl'' hh'' (by omega) (by omega) (by omega), ?_⟩
          have := sub_sl (l := l.toNat) (h := h.toNat) (o := o) cv hcap hS hsz hc hr (by omega) (by omega)
          simp only [Option.map_some, add_addr]
          exact .d this
    · exact hp.elim
  · split at hp
    · rename_i l h hl hh
      obtain ⟨rfl, rfl⟩ := hp
      have hl' := lo_ok hl h1 h2
      have hh' := hi_ok hh h3 h4
      simp only [hl, hh]
      obtain rfl := hx.nils_inv
      refine ⟨trivial, _, run_sliceAt_sl hu hs h0 (hl'.imp (fun h => h.2) id) (hh'.imp (fun h => h.2) id) (by omega) (by omega) (by omega), ?_⟩
      simp
      exact .nils _
    · exact hp.elim
  · rename_i t' sz' off rows
    split at hp
    · rename_i l h hl hh
      obtain ⟨rfl, g0, g1, g2⟩ := hp
      have hl' := lo_ok hl h1 h2
      have hh' := hi_ok hh h3 h4
      simp only [hl, hh]
      refine ⟨trivial, ?_⟩
      have hl'' : (vl = none ∧ l = 0) ∨ ∃ k, vl = some (.int k l) := hl'.imp (fun h => h.2) id
      have hh'' : (vh = none ∧ h = rows.length) ∨ ∃ k, vh = some (.int k h) := hh'.imp (fun h => h.2) id
      cases hx with
      | onil ht hι =>
        simp at g2
        obtain rfl : h = 0 := by omega
        obtain rfl : l = 0 := by omega
        refine ⟨_, run_sliceAt_sl hu hs h0 hl'' hh'' (by omega) (by omega) (by omega), ?_⟩
        simp
        exact .onil ht hι
      | oemp ht h5 h6 =>
        simp at g2
        obtain rfl : h = 0 := by omega
        obtain rfl : l = 0 := by omega
        refine ⟨_, run_sliceAt_sl hu hs h0 hl'' hh'' (by omega) (by omega) (by omega), ?_⟩
        simp
        exact .oemp ht h5 h6
      | @own _ _ n b base _ cap _ ht hι hn hsz cv hc hr hcap hroom =>
        refine ⟨_, run_sliceAt_sl hu hs h0 hl'' hh'' (by omega) (by omega) (by omega), ?_⟩
        simp only [Option.map_some, add_addr]
        by_cases he : l = h ∧ 0 < l
        · obtain ⟨rfl, hpos⟩ := he
          have : (rows.take l.toNat).drop l.toNat = [] := List.drop_eq_nil_of_le (by simp; omega)
          rw [this, Nat.sub_self]
          exact .oemp ht (by omega) (by omega)
        · have hlen : ((rows.take h.toNat).drop l.toNat).length = h.toNat - l.toNat := by simp; omega
          have hroom' := hroom
          obtain ⟨cs, T, fz, hb, hle⟩ := hroom
          by_cases hcl : cap = l.toNat
          · -- then nothing is cut off ahead: both bounds are 0
            obtain rfl : l = 0 := by omega
            have hcap0 : cap = 0 := by simpa using hcl
            have hr0 : rows.length = 0 := by omega
            have hr' : rows = [] := List.length_eq_zero_iff.1 hr0
            subst hr'
            simp only [hcl, if_true]
            have := VL.own (w := w) (S := S) (cap := 0) (off := off) (rows := []) ht hι hn hsz cv (fun i j hi => absurd hi (by simp)) (fun i j hi => absurd hi (by simp)) (by simp) ⟨cs, T, fz, hb, by rw [hcap0] at hle; exact hle⟩
            have h00 : h.toNat = 0 := by simp at g2; omega
            simp [h00]
            simpa using this
          · rw [if_neg hcl]
            have := VL.own (w := w) (S := S) (cap := cap - l.toNat) (off := off + l.toNat) (rows := (rows.take h.toNat).drop l.toNat) ht hι (by omega) (sub_rows hsz) (fun i j => cv (l.toNat + i) j)
              (fun i j hi hj => by rw [Nat.add_assoc off]; exact hc _ _ (by omega) hj)
              (fun i j hi hj => by
                obtain ⟨h', e⟩ := take_drop_get rows l.toNat h.toNat i hi
                have hj' : j < (rows[l.toNat + i]).length := by rw [← e]; exact hj
                have := hr (l.toNat + i) j h' hj'
                simp only [e]
                exact this)
              (by omega) ⟨cs, T, fz, hb, by rw [show off + l.toNat + (cap - l.toNat) = off + cap by omega]; exact hle⟩
            rw [hlen] at this
            rw [Nat.add_assoc, ← Nat.add_mul]
            exact this
    · exact hp.elim
  · exact hp.elim

theorem extract_bytes (s : List UInt8) (l h : Nat) : (⟨s.toArray⟩ : ByteArray).extract l h = ⟨((s.take h).drop l).toArray⟩ := by
  apply ByteArray.ext
  simp [List.drop_take]

theorem sst_ok {t : TypeId} (hu : P.underlying t = some .string) {v : Value} {x : AV} {lo hi : Option AV} {vl vh : Option Value} (hx : VL w S ι H v x)
    (h1 : ∀ x, lo = some x → ∃ u, vl = some u ∧ VL w S ι H u x) (h2 : lo = none → vl = none) (h3 : ∀ x, hi = some x → ∃ u, vh = some u ∧ VL w S ι H u x) (h4 : hi = none → vh = none)
    (hp : (sstF x lo hi).p) : (sstF x lo hi).al = .no ∧ ∃ r, (Instr.sliceAt t v vl vh none).run P w = .ok r w ∧ VL w S ι H r (sstF x lo hi).v := by
  unfold sstF at hp ⊢
  split at hp
  · rename_i s
    split at hp
    · rename_i l h hl hh
      obtain ⟨g0, g1, g2⟩ := hp
      have hl' := lo_ok hl h1 h2
      have hh' := hi_ok hh h3 h4
      simp only [hl, hh]
      obtain rfl := hx.str_inv
      have hl'' : (vl = none ∧ l = 0) ∨ ∃ k, vl = some (.int k l) := hl'.imp (fun h => h.2) id
      have hh'' : (vh = none ∧ h = (⟨s.toArray⟩ : ByteArray).size) ∨ ∃ k, vh = some (.int k h) := hh'.imp (fun h => h.2) id
      have hsz : (⟨s.toArray⟩ : ByteArray).size = s.length := rfl
      have hb := run_bounds (P := P) (w := w) (isS := false) (cap := s.length) hl'' hh'' g0 g1 g2
      rw [hsz] at hb
      refine ⟨trivial, .string _, ?_, VL.str _⟩
      simp [Instr.sliceAt, run_underlying hu, Instr.slice, hsz, hb, extract_bytes]
    · exact hp.elim
  · exact hp.elim

theorem ext_ok {j : Nat} {v : Value} {x : AV} (hx : VL w S ι H v x) (hp : (extF j x).p) : (extF j x).al = .no ∧ ∃ r, (Instr.extract v j).run P w = .ok r w ∧ VL w S ι H r (extF j x).v := by
  unfold extF at hp ⊢
  split at hp
  · rename_i vs
    split at hp
    · rename_i y hy
      simp only [hy]
      obtain ⟨hlt, rfl⟩ := getElem?_lt hy
      cases hx with
      | @tup us _ hl hr =>
        refine ⟨trivial, us.getD j undef, ?_, hr j hlt⟩
        have : j < us.length := by omega
        simp [Instr.extract, this]
    · exact hp.elim
  · exact hp.elim

theorem run_part {t : TypeId} {n : Option Nat} (ht : shapeOf P t = some n) {vs : List Value} {as : List AV} (hl : vs.length = as.length) (hr : ∀ j (h : j < as.length), VL w S ι H (vs.getD j undef) (as[j])) {off : Nat}
    (hp : (fldF off n (.agg as)).p) : (fldF off n (.agg as)).al = .no ∧ ∃ r, (part t vs.toArray off).run P w = .ok r w ∧ VL w S ι H r (fldF off n (.agg as)).v := by
  cases n with
  | none =>
    simp only [fldF] at hp ⊢
    split at hp
    · rename_i x hx
      obtain ⟨hlt, rfl⟩ := getElem?_lt hx
      simp only [hx]
      refine ⟨trivial, vs.getD off undef, ?_, hr off hlt⟩
      have : off < vs.length := by omega
      simp [part, shape_one ht, this]
    · exact hp.elim
  | some m =>
    simp only [fldF] at hp ⊢
    refine ⟨trivial, .agg ((vs.drop off).take m).toArray, ?_, ?_⟩
    · simp [part, (shape_agg ht).1, (shape_agg ht).2]
    · refine .agg (by simp; omega) (fun j hj => ?_)
      simp only [List.length_take, List.length_drop] at hj
      have h1 : ((vs.drop off).take m).getD j undef = vs.getD (off + j) undef := by
        have : off + j < vs.length := by omega
        have hjm : j < m := by omega
        simp [List.getD, hjm]
      have h2 : (List.take m (List.drop off as))[j]'(by simp; omega) = as[off + j]'(by omega) := by simp
      rw [h1, h2]
      exact hr _ _

theorem fld_ok {sT : TypeId} {fs : Array Field} {i off n : Nat} {ft : TypeId} {sh : Option Nat} (hu : P.underlying sT = some (.struct fs)) (hf : fieldOf P fs i = some (off, n, ft)) (hs : shapeOf P ft = some sh)
    {v : Value} {x : AV} (hx : VL w S ι H v x) (hp : (fldF off sh x).p) : (fldF off sh x).al = .no ∧ ∃ r, (Instr.field sT v i).run P w = .ok r w ∧ VL w S ι H r (fldF off sh x).v := by
  obtain ⟨f, h1, rfl, rfl, h2, h3⟩ := field_of hf
  cases x with
  | agg as =>
    cases hx with
    | agg hl hr =>
      obtain ⟨g1, r, g2, g3⟩ := run_part (P := P) hs hl hr hp
      exact ⟨g1, r, by simp [Instr.field, run_underlying hu, h1, asAgg, g2], g3⟩
  | _ => exact hp.elim

theorem fad_ok {sT : TypeId} {fs : Array Field} {i off n : Nat} {ft : TypeId} (hu : P.underlying sT = some (.struct fs)) (hf : fieldOf P fs i = some (off, n, ft))
    {v : Value} {x : AV} (hx : VL w S ι H v x) (hp : (addOff off x).p) : (addOff off x).al = .no ∧ ∃ r, (Instr.fieldAt sT v i).run P w = .ok r w ∧ VL w S ι H r (addOff off x).v := by
  cases x with
  | ptr l o =>
    obtain ⟨rfl, hl⟩ := hx.ptr_inv
    exact ⟨rfl, _, run_fieldAt hu hf _ _, .ptr hl⟩
  | rptr row =>
    cases hx with
    | @rptr b o _ cv hS hc hr =>
      refine ⟨rfl, _, run_fieldAt hu hf _ _, .rptr (fun j => cv (off + j)) hS (fun j hj => ?_) (fun j hj => ?_)⟩
      · simp only [List.length_drop] at hj
        rw [Nat.add_assoc]; exact hc _ (by omega)
      · simp only [List.length_drop] at hj
        simp only [List.getElem_drop]
        exact hr _ _
  | optr t sz i' j row =>
    cases hx with
    | @optr _ _ n' b base _ _ _ h hι hi hsz cv hc hr =>
      refine ⟨rfl, _, run_fieldAt hu hf _ _, ?_⟩
      have := VL.optr (w := w) (S := S) (j := j + off) h hι hi hsz cv hc hr
      rw [← Nat.add_assoc] at this
      exact this
  | _ => exact hp.elim

theorem byte_row {r : List DV} (h : isByte r = true) : ∃ n, r = [.int .u8 n] := by
  unfold isByte at h
  split at h
  · exact ⟨_, rfl⟩
  · cases h

/-- The bytes of told rows become a string. -/
theorem run_b2s {b o cap : Nat} {rows : List (List DV)} (cv : Nat → Nat → Value) (hb : rows.all isByte = true)
    (hc : ∀ i j, i < rows.length → j < 1 → w.cell? ⟨b, o + i * 1 + j, none⟩ = some (cv i j)) (hr : ∀ i j (hi : i < rows.length) (hj : j < (rows[i]).length), Rd w S (cv i j) ((rows[i])[j])) :
    (Conv.bytesToString (.slice (some ⟨b, o, none⟩) rows.length cap)).run P w = .ok (.string ⟨(rows.map byteOf).toArray⟩) w := by
  have hcell : ∀ i (hi : i < rows.length), ∃ n, rows[i] = [.int .u8 n] ∧ w.cell? ⟨b, o + i, none⟩ = some (.int .u8 n) := by
    intro i hi
    obtain ⟨n, hn⟩ := byte_row (List.all_eq_true.1 hb (rows[i]) (List.getElem_mem hi))
    have h1 := hc i 0 hi (by omega)
    have h2 := hr i 0 hi (by rw [hn]; simp)
    simp only [hn, List.getElem_cons_zero] at h2
    refine ⟨n, hn, ?_⟩
    have h3 : cv i 0 = .int .u8 n := by
      generalize cv i 0 = c at h2
      cases h2; rfl
    rw [← h3]
    simpa using h1
  let ns : List Int := rows.map fun r => match r with | [.int _ n] => n | _ => 0
  have hl : (loadCells ⟨b, o, none⟩ rows.length).run P w = .ok (ns.map (Value.int .u8)).toArray w := by
    have h2 := run_loadCells_list (P := P) (w := w) ⟨b, o, none⟩ (ns.map (Value.int .u8)) (fun j v hv => by
      rw [add_addr]
      obtain ⟨hj, rfl⟩ := getElem?_lt hv
      simp only [ns, List.length_map] at hj
      obtain ⟨n, hn, hw⟩ := hcell j hj
      simp [ns, hn, hw])
    simpa [ns] using h2
  rw [run_bytesToString (P := P) w _ _ cap ns hl]
  congr 2
  rw [foldl_push_bytes]
  apply ByteArray.ext
  simp [ns]
  intro r hr'
  obtain ⟨n, rfl⟩ := byte_row (List.all_eq_true.1 hb r hr')
  simp [byteOf]

theorem b2s_ok {src dst e : TypeId} (hs : P.underlying src = some (.slice e)) (he : P.underlying e = some (.int .u8)) (hd : P.underlying dst = some .string)
    {v : Value} {x : AV} (hx : VL w S ι H v x) (hp : (b2sF x).p) : (b2sF x).al = .no ∧ ∃ r, (convert src dst v).run P w = .ok r w ∧ VL w S ι H r (b2sF x).v := by
  have hemp : ∀ a c, (Conv.bytesToString (.slice a 0 c)).run P w = .ok (.string ⟨#[]⟩) w := by
    intro a c
    cases a with
    | none => simp [Conv.bytesToString]; rfl
    | some a =>
      have := run_bytesToString (P := P) w a 0 c [] (by simp [loadCells, loadCellsFrom])
      simp only [List.foldl_nil] at this
      exact this
  unfold b2sF at hp ⊢
  split at hp
  · rename_i sz rows
    obtain ⟨rfl, hb⟩ := hp
    refine ⟨rfl, ?_⟩
    cases hx with
    | d hx => cases hx with
      | nil a c => exact ⟨_, by rw [run_convert_bytes_string w src dst e _ _ _ hs he hd, hemp], VL.str []⟩
      | sl cv hcap hS hsz hc hr => exact ⟨_, by rw [run_convert_bytes_string w src dst e _ _ _ hs he hd, run_b2s cv hb hc hr], VL.str _⟩
  · rename_i t sz off rows
    obtain ⟨rfl, hb⟩ := hp
    refine ⟨rfl, ?_⟩
    cases hx with
    | onil => exact ⟨_, by rw [run_convert_bytes_string w src dst e _ _ _ hs he hd, hemp], VL.str []⟩
    | oemp => exact ⟨_, by rw [run_convert_bytes_string w src dst e _ _ _ hs he hd, hemp], VL.str []⟩
    | @own _ _ n b base _ cap _ h hι hn hsz cv hc hr hcap hroom =>
      exact ⟨_, by rw [run_convert_bytes_string w src dst e _ _ _ hs he hd, run_b2s cv hb (fun i j hi hj => by rw [← hc i j hi hj]; congr 2; omega) hr], VL.str _⟩
  · obtain rfl := hx.nils_inv
    exact ⟨rfl, _, by rw [run_convert_bytes_string w src dst e _ _ _ hs he hd, hemp], VL.str []⟩
  · exact hp.elim

theorem eqCell {t : TypeId} {c : CK} {x y : AV} {r : Bool} {v u : Value} {d : Nat} (h : cellEq c x y = some r) (hx : VL w S ι H v x) (hy : VL w S ι H u y) (ht : ckOf P t = some c) :
    (Op.equalIn (d + 1) t v u).run P w = .ok r w := by
  unfold cellEq at h
  unfold ckOf at ht
  split at h
  · split at h
    · rename_i hk
      obtain ⟨rfl, rfl⟩ := hk
      simp at h
      obtain rfl := hx.int_inv
      obtain rfl := hy.int_inv
      split at ht
      · rename_i k hu
        rw [run_equalIn_int w d t _ _ _ _ hu, ← h]
      all_goals simp at ht
    · cases h
  · simp at h
    obtain rfl := hx.bool_inv
    obtain rfl := hy.bool_inv
    split at ht
    · simp at ht
    · rename_i hu
      rw [run_equalIn_bool' w d t _ _ hu, ← h]
    all_goals simp at ht
  · simp at h
    obtain rfl := hx.str_inv
    obtain rfl := hy.str_inv
    split at ht
    · simp at ht
    · simp at ht
    · rename_i hu
      rw [run_equalIn_string w d t _ _ hu, bytes_toList, bytes_toList, ← h]
    all_goals simp at ht
  · cases h

theorem ck_one {t : TypeId} {c : CK} (h : ckOf P t = some c) : shapeOf P t = some none := by
  unfold ckOf at h
  unfold shapeOf
  split at h <;> simp_all

theorem run_part_one {t : TypeId} (ht : shapeOf P t = some none) {vs : List Value} {k : Nat} (hk : k < vs.length) : (part t vs.toArray k).run P w = .ok (vs.getD k undef) w := by
  simp [part, shape_one ht, hk]

theorem eqCells {d : Nat} {xs ys : List Value} {as bs : List AV} (hx : ∀ j (h : j < as.length), VL w S ι H (xs.getD j undef) (as[j])) (hy : ∀ j (h : j < bs.length), VL w S ι H (ys.getD j undef) (bs[j]))
    (lx : xs.length = as.length) (ly : ys.length = bs.length) : ∀ (fs : List Field) (k : Nat) (ks : List CK) (r : Bool), flatEq P k fs = some ks → cellsEq ks (as.drop k) (bs.drop k) = some r →
    (Op.eqFields (d + 1) xs.toArray ys.toArray fs).run P w = .ok r w := by
  intro fs
  induction fs with
  | nil =>
    intro k ks r hf hc
    simp [flatEq] at hf
    subst hf
    cases ha : as.drop k with
    | nil =>
      cases hb : bs.drop k with
      | nil => simp [ha, hb, cellsEq] at hc; subst hc; rfl
      | cons b bs' => simp [ha, hb, cellsEq] at hc
    | cons a as' => simp [ha, cellsEq] at hc
  | cons f fs ih =>
    intro k ks r hf hc
    simp only [flatEq] at hf
    split at hf
    · rename_i hof
      split at hf
      · rename_i c rest hck hrest
        simp at hf
        subst hf
        cases ha : as.drop k with
        | nil => simp [ha, cellsEq] at hc
        | cons a as' =>
          cases hb : bs.drop k with
          | nil => simp [ha, hb, cellsEq] at hc
          | cons b bs' =>
            have hka : k < as.length := by
              rcases Nat.lt_or_ge k as.length with h | h
              · exact h
              · rw [List.drop_eq_nil_of_le h] at ha; cases ha
            have hkb : k < bs.length := by
              rcases Nat.lt_or_ge k bs.length with h | h
              · exact h
              · rw [List.drop_eq_nil_of_le h] at hb; cases hb
            rw [List.drop_eq_getElem_cons hka] at ha
            rw [List.drop_eq_getElem_cons hkb] at hb
            obtain ⟨rfl, ha'⟩ := List.cons.inj ha
            obtain ⟨rfl, hb'⟩ := List.cons.inj hb
            rw [List.drop_eq_getElem_cons hka, List.drop_eq_getElem_cons hkb] at hc
            simp only [cellsEq] at hc
            split at hc
            · rename_i x y h1 h2
              simp at hc
              subst hc
              have e1 := eqCell (P := P) (d := d) h1 (hx k hka) (hy k hkb) hck
              have e2 := ih (k + 1) rest y hrest h2
              simp only [Op.eqFields, hof.1, ne_eq, hof.2, not_false_eq_true, if_true, Sem.run_bind, run_part_one (P := P) (w := w) (ck_one hck) (by omega : k < xs.length), run_part_one (P := P) (w := w) (ck_one hck) (by omega : k < ys.length), Result.andThen_ok, e1, Sem.run_ite, e2, Sem.run_pure]
              cases x <;> simp
            · cases hc
      · cases hf
    · cases hf

theorem abin_ok {op : BinOp} {t : TypeId} {fs : Array Field} {ks : List CK} (ho : op = .eql ∨ op = .neq) (hu : P.underlying t = some (.struct fs)) (hf : flatEq P 0 fs.toList = some ks) (hs : P.stoodInHeld t = false)
    {v u : Value} {a b : List AV} {r : Bool} (hx : VL w S ι H v (.agg a)) (hy : VL w S ι H u (.agg b)) (hc : cellsEq ks a b = some r) :
    (binOp op t v u).run P w = .ok (.bool (if op = .neq then !r else r)) w := by
  cases hx with
  | @agg xs _ lx hx =>
    cases hy with
    | @agg ys _ ly hy =>
      have hfs : P.fieldsOf t = fs := by simp [Program.fieldsOf, hu]
      have he := eqCells (P := P) (d := 9998) hx hy lx ly fs.toList 0 ks r hf (by simpa using hc)
      have h2 := run_equalIn_struct (P := P) w 9999 t xs.toArray ys.toArray (by rw [hfs]; exact hu) hs
      rw [hfs] at h2
      rcases ho with rfl | rfl
      · rw [run_eql_struct, h2, he]; rfl
      · rw [run_neq_struct, h2, he]; rfl

theorem foldl_set (off : Nat) : ∀ (l : List Value) (s : Nat) (cells : Array Value),
    ((l.zipIdx s).foldl (fun cs (x : Value × Nat) => cs.setIfInBounds (off + x.2) x.1) cells).size = cells.size ∧
    ∀ k, ((l.zipIdx s).foldl (fun cs (x : Value × Nat) => cs.setIfInBounds (off + x.2) x.1) cells).getD k undef =
      if off + s ≤ k ∧ k < off + s + l.length ∧ k < cells.size then l.getD (k - (off + s)) undef else cells.getD k undef
  | [], s, cells => by
    refine ⟨rfl, fun k => ?_⟩
    simp only [List.zipIdx_nil, List.foldl_nil, List.length_nil, Nat.add_zero]
    rw [if_neg (by omega)]
  | x :: l, s, cells => by
    obtain ⟨h1, h2⟩ := foldl_set off l (s + 1) (cells.setIfInBounds (off + s) x)
    simp only [List.zipIdx_cons, List.foldl_cons]
    refine ⟨by rw [h1]; simp, fun k => ?_⟩
    rw [h2 k]
    simp only [Array.size_setIfInBounds, List.length_cons]
    by_cases hk : k = off + s
    · subst hk
      rw [if_neg (by omega)]
      by_cases hs : off + s < cells.size
      · rw [if_pos (by omega)]; simp [Array.getD, hs]
      · rw [if_neg (by omega)]; simp [Array.getD, hs]
    · by_cases hr : off + (s + 1) ≤ k ∧ k < off + (s + 1) + l.length ∧ k < cells.size
      · rw [if_pos hr, if_pos (by omega)]
        obtain ⟨m, hm⟩ : ∃ m, k - (off + s) = m + 1 := ⟨k - (off + s) - 1, by omega⟩
        have hm' : k - (off + (s + 1)) = m := by omega
        rw [hm, hm']; rfl
      · rw [if_neg hr, if_neg (by omega)]
        simp [Array.getD_eq_getD_getElem?, Array.getElem?_setIfInBounds_ne (by omega : off + s ≠ k)]

theorem foldl_set' (off : Nat) (vs cells : Array Value) (k : Nat) :
    (vs.zipIdx.foldl (fun cs (c, j) => cs.setIfInBounds (off + j) c) cells).size = cells.size ∧
    (vs.zipIdx.foldl (fun cs (c, j) => cs.setIfInBounds (off + j) c) cells).getD k undef =
      if off ≤ k ∧ k < off + vs.size ∧ k < cells.size then vs.getD (k - off) undef else cells.getD k undef := by
  have h := foldl_set off vs.toList 0 cells
  have e : vs.zipIdx.foldl (fun cs (c, j) => cs.setIfInBounds (off + j) c) cells = (vs.toList.zipIdx 0).foldl (fun cs (x : Value × Nat) => cs.setIfInBounds (off + x.2) x.1) cells := by
    rw [← Array.foldl_toList]; simp
  rw [e]
  refine ⟨h.1, ?_⟩
  have := h.2 k
  simp only [Nat.add_zero, Array.length_toList] at this
  rw [this]
  simp [Array.getD_eq_getD_getElem?, List.getD]

theorem cells_one {v : Value} (h : cellB v = true) : v.cells = #[v] := by
  cases v <;> first | rfl | (simp [cellB] at h)

/-- A value's cells are told by its abstract cells. -/
theorem cells_vl {v : Value} {x : AV} (hx : VL w S ι H v x) (h1 : (cellsOf x).all AV.one = true) :
    v.cells.size = (cellsOf x).length ∧ ∀ j (h : j < (cellsOf x).length), VL w S ι H (v.cells.getD j undef) ((cellsOf x)[j]) ∧ cellB (v.cells.getD j undef) = true := by
  have single : cellsOf x = [x] → v.cells.size = (cellsOf x).length ∧ ∀ j (h : j < (cellsOf x).length), VL w S ι H (v.cells.getD j undef) ((cellsOf x)[j]) ∧ cellB (v.cells.getD j undef) = true := by
    intro e
    have hx1 : x.one = true := by simpa [e] using h1
    have hc := hx.one hx1
    simp only [e, cells_one hc]
    refine ⟨rfl, fun j h => ?_⟩
    obtain rfl : j = 0 := by simpa using h
    exact ⟨hx, hc⟩
  cases x with
  | agg as =>
    cases hx with
    | @agg vs _ hl hr =>
      refine ⟨by simpa [Value.cells, cellsOf] using hl, fun j h => ?_⟩
      have h' : j < as.length := h
      have e : (Value.agg vs.toArray).cells.getD j undef = vs.getD j undef := by simp [Value.cells, Array.getD_eq_getD_getElem?, List.getD]
      rw [e]
      have hv := hr j h'
      exact ⟨hv, hv.one (List.all_eq_true.1 h1 _ (List.getElem_mem h'))⟩
  | _ => exact single rfl

theorem fill_ok {place : Nat → Option (Nat × Nat)} : ∀ (ps : List (Nat × Nat × AV)) (qs : List (Nat × Value)) (arr : Array Value) (z : List AV),
    qs.length = ps.length → (∀ j (h : j < ps.length) (h' : j < qs.length), place (qs[j]).1 = some ((ps[j]).1, (ps[j]).2.1) ∧ VL w S ι H (qs[j]).2 (ps[j]).2.2) →
    arr.size = z.length → (∀ j (h : j < z.length), VL w S ι H (arr.getD j undef) (z[j])) → (fillA z ps).p →
    (fillA z ps).al = .no ∧ ∃ arr', Instr.fill place arr qs = some arr' ∧ VL w S ι H (.agg arr') (fillA z ps).v := by
  intro ps
  induction ps with
  | nil =>
    intro qs arr z hl _ hs hv _
    have : qs = [] := List.length_eq_zero_iff.1 (by simpa using hl)
    subst this
    refine ⟨rfl, arr, rfl, ?_⟩
    have := VL.agg (w := w) (S := S) (ι := ι) (H := H) (vs := arr.toList) (as := z) (by simpa using hs) (fun j h => by
      have e : arr.toList.getD j undef = arr.getD j undef := by simp [Array.getD_eq_getD_getElem?, List.getD]
      rw [e]; exact hv j h)
    simpa [fillA] using this
  | cons p ps ih =>
    obtain ⟨off, n, x⟩ := p
    intro qs arr z hl hq hs hv hp
    cases qs with
    | nil => simp at hl
    | cons q qs =>
      obtain ⟨i, v⟩ := q
      obtain ⟨h1, h2⟩ := hq 0 (by simp) (by simp)
      simp only [List.getElem_cons_zero] at h1 h2
      simp only [fillA] at hp ⊢
      obtain ⟨⟨hn, hoff, hone⟩, hp'⟩ := hp
      obtain ⟨hc1, hc2⟩ := cells_vl h2 hone
      refine ⟨trivial, ?_⟩
      have hsz : v.cells.size = n := by omega
      have hg := foldl_set' off v.cells arr
      have hlen : (splice z off (cellsOf x)).length = z.length := by simp [splice]; omega
      have step := ih qs (v.cells.zipIdx.foldl (fun cs (c, j) => cs.setIfInBounds (off + j) c) arr) (splice z off (cellsOf x)) (by simpa using hl)
        (fun j h h' => by have := hq (j + 1) (by simpa using h) (by simpa using h'); simpa using this)
        (by rw [(hg 0).1, hlen]; exact hs)
        (fun j h => by
          rw [hlen] at h
          rw [(hg j).2]
          by_cases hr : off ≤ j ∧ j < off + v.cells.size ∧ j < arr.size
          · rw [if_pos hr]
            have hj : j - off < (cellsOf x).length := by omega
            have := (hc2 (j - off) hj).1
            have e : (splice z off (cellsOf x))[j]'(by omega) = (cellsOf x)[j - off] := by
              simp only [splice]
              rw [List.getElem_append_left (by simp; omega), List.getElem_append_right (by simp; omega)]
              congr 1
              simp; omega
            rw [e]; exact this
          · rw [if_neg hr]
            have e : (splice z off (cellsOf x))[j]'(by omega) = z[j] := by
              simp only [splice]
              by_cases hlt : j < off
              · rw [List.getElem_append_left (by simp; omega), List.getElem_append_left (by simp; omega)]
                simp
              · rw [List.getElem_append_right (by simp; omega)]
                simp
                congr 1
                omega
            rw [e]; exact hv j h)
        hp'
      obtain ⟨hal, arr', hfill, hvl⟩ := step
      refine ⟨arr', ?_, hvl⟩
      rw [Instr.fill.eq_def]
      simp only [h1]
      have hno : ¬ (v.cells.size ≠ n ∨ off + v.cells.size > arr.size) := by
        rintro (h | h)
        · exact h hsz
        · rw [hs, hsz] at h; omega
      rw [if_neg (by simpa using hno)]
      exact hfill

end
end Go.Proofs.YtchmoleeajkioaaDoor.V
