/-
  THE LOGIC V, PART a: abstract values, and what they say of memory. Over any program.
-/
import Derived.Calls
import Derived.Orders
import Derived.Still
import Derived.Below
namespace Go.Proofs.YtchmoleeajkioaaDoor.V
open Go Go.RowKit
set_option linter.unusedSimpArgs false
set_option linter.unusedVariables false

/-- What may lie in one cell. -/
def cellB : Value → Bool
  | .agg _ | .tuple _ => false
  | _ => true

/-- A deep value: what a value of one cell reads as, all memory behind it included. 'sl': sz cells an element, the elements' cells. -/
inductive DV where
  | int (k : IntKind) (n : Int)
  | bool (b : Bool)
  | str (s : List UInt8)
  | oth (v : Value)
  | sl (sz : Nat) (rows : List (List DV))
  deriving Inhabited

/-- The value v reads as d in w, by blocks of S alone. -/
inductive Rd (w : World) (S : Nat → Prop) : Value → DV → Prop
  | int (k : IntKind) (n : Int) : Rd w S (.int k n) (.int k n)
  | bool (b : Bool) : Rd w S (.bool b) (.bool b)
  | str (s : List UInt8) : Rd w S (.string ⟨s.toArray⟩) (.str s)
  | oth (v : Value) (h : cellB v = true) : Rd w S v (.oth v)
  | nil (a : Option Addr) (cap sz : Nat) : Rd w S (.slice a 0 cap) (.sl sz [])
  | sl {b o cap sz : Nat} {rows : List (List DV)} (cv : Nat → Nat → Value) (hcap : rows.length ≤ cap) (hS : S b) (hsz : ∀ r ∈ rows, r.length = sz)
      (hc : ∀ i j, i < rows.length → j < sz → w.cell? ⟨b, o + i * sz + j, none⟩ = some (cv i j))
      (hr : ∀ i j (hi : i < rows.length) (hj : j < (rows[i]).length), Rd w S (cv i j) ((rows[i])[j])) :
      Rd w S (.slice (some ⟨b, o, none⟩) rows.length cap) (.sl sz rows)

theorem cell_of_block {w w' : World} {b o : Nat} (h : w'.heap[b]? = w.heap[b]?) : w'.cell? ⟨b, o, none⟩ = w.cell? ⟨b, o, none⟩ := by
  simp [World.cell?, h]

theorem Rd.keep {w w' : World} {S S' : Nat → Prop} (hS : ∀ b, S b → S' b) (hw : ∀ b, S b → w'.heap[b]? = w.heap[b]?) {v : Value} {d : DV} (h : Rd w S v d) :
    Rd w' S' v d := by
  induction h with
  | int k n => exact .int k n
  | bool b => exact .bool b
  | str s => exact .str s
  | oth v h => exact .oth v h
  | nil a cap sz => exact .nil a cap sz
  | sl cv hcap hSb hsz hc _ ih => exact .sl cv hcap (hS _ hSb) hsz (fun i j hi hj => by rw [cell_of_block (hw _ hSb)]; exact hc i j hi hj) ih

theorem Rd.cellB {w : World} {S : Nat → Prop} {v : Value} {d : DV} (h : Rd w S v d) : V.cellB v = true := by
  cases h <;> first | rfl | assumption

/-- Abstract values. 'd': a deep value · 'own': a row of this call's own, told by its tag t, from element off on · 'nils': the nil slice (sz cells an element) · 'ptr': an address in the box l · 'rptr': an address of cells that nobody writes · 'optr': the address of cell j of element i of the row t; row: the element's cells · 'agg': a struct's cells · 'clos': a function value. -/
inductive AV where
  | d (v : DV)
  | own (t sz off : Nat) (rows : List (List DV))
  | nils (sz : Nat)
  | ptr (l off : Nat)
  | rptr (row : List DV)
  | optr (t sz i j : Nat) (row : List DV)
  | agg (cells : List AV)
  | tup (vs : List AV)
  | clos (fn : Fn) (first captured : List AV)
  | any
  deriving Inhabited

/-- The abstract heap: boxes by label, rows by tag (cells an element, how many elements). -/
structure Hp where
  bx : Nat → Option (List AV)
  tg : Nat → Option (Nat × Nat)

/-- Where they lie: a box's block; a row's block and the place of its element 0 (none: it is nil as yet). -/
structure Io where
  bx : Nat → Nat
  tg : Nat → Option (Nat × Nat)

def Owned (ι : Io) (H : Hp) (b : Nat) : Prop :=
  (∃ l, H.bx l ≠ none ∧ ι.bx l = b) ∨ (∃ t base, H.tg t ≠ none ∧ ι.tg t = some (b, base))

/-- The block of a row. -/
structure RowAt (w : World) (b base sz n : Nat) : Prop where
  blk : ∃ cs T lo hi, w.heap[b]? = some (.cells cs T (lo, hi)) ∧ base + n * sz ≤ cs.size ∧ (lo = hi ∨ cs.size ≤ lo)

/-- The abstract value tells of the value. -/
inductive VL (w : World) (S : Nat → Prop) (ι : Io) (H : Hp) : Value → AV → Prop
  | any (v : Value) : VL w S ι H v .any
  | d {v : Value} {x : DV} (h : Rd w S v x) : VL w S ι H v (.d x)
  | nils (sz : Nat) : VL w S ι H (.slice none 0 0) (.nils sz)
  | ptr {l off : Nat} (h : H.bx l ≠ none) : VL w S ι H (.pointer (some ⟨ι.bx l, off, none⟩)) (.ptr l off)
  | onil {t sz n : Nat} (h : H.tg t = some (sz, n)) (hι : ι.tg t = none) : VL w S ι H (.slice none 0 0) (.own t sz 0 [])
  | oemp {t sz off n cap : Nat} {a : Option Addr} (h : H.tg t = some (sz, n)) (h0 : 0 < off) (hn : off ≤ n) : VL w S ι H (.slice a 0 cap) (.own t sz off [])
  | own {t sz n b base off cap : Nat} {rows : List (List DV)} (h : H.tg t = some (sz, n)) (hι : ι.tg t = some (b, base)) (hn : off + rows.length ≤ n)
      (hsz : ∀ r ∈ rows, r.length = sz) (cv : Nat → Nat → Value)
      (hc : ∀ i j, i < rows.length → j < sz → w.cell? ⟨b, base + (off + i) * sz + j, none⟩ = some (cv i j))
      (hr : ∀ i j (hi : i < rows.length) (hj : j < (rows[i]).length), Rd w S (cv i j) ((rows[i])[j]))
      (hcap : rows.length ≤ cap) (hroom : ∃ cs T fz, w.heap[b]? = some (.cells cs T fz) ∧ base + (off + cap) * sz ≤ cs.size) :
      VL w S ι H (.slice (some ⟨b, base + off * sz, none⟩) rows.length cap) (.own t sz off rows)
  | rptr {b o : Nat} {row : List DV} (cv : Nat → Value) (hS : S b) (hc : ∀ j, j < row.length → w.cell? ⟨b, o + j, none⟩ = some (cv j))
      (hr : ∀ j (h : j < row.length), Rd w S (cv j) (row[j])) : VL w S ι H (.pointer (some ⟨b, o, none⟩)) (.rptr row)
  | optr {t sz n b base i j : Nat} {row : List DV} (h : H.tg t = some (sz, n)) (hι : ι.tg t = some (b, base)) (hi : i < n) (hsz : row.length = sz)
      (cv : Nat → Value) (hc : ∀ j, j < sz → w.cell? ⟨b, base + i * sz + j, none⟩ = some (cv j))
      (hr : ∀ j (h : j < row.length), Rd w S (cv j) (row[j])) : VL w S ι H (.pointer (some ⟨b, base + i * sz + j, none⟩)) (.optr t sz i j row)
  | agg {vs : List Value} {as : List AV} (hl : vs.length = as.length) (hr : ∀ j (h : j < as.length), VL w S ι H (vs.getD j undef) (as[j])) :
      VL w S ι H (.agg vs.toArray) (.agg as)
  | tup {vs : List Value} {as : List AV} (hl : vs.length = as.length) (hr : ∀ j (h : j < as.length), VL w S ι H (vs.getD j undef) (as[j])) :
      VL w S ι H (.tuple vs.toArray) (.tup as)
  | clos {fn : Fn} {fs cs : List Value} {fa ca : List AV} (hf : fs.length = fa.length) (hfr : ∀ j (h : j < fa.length), VL w S ι H (fs.getD j undef) (fa[j]))
      (hc : cs.length = ca.length) (hcr : ∀ j (h : j < ca.length), VL w S ι H (cs.getD j undef) (ca[j])) :
      VL w S ι H (.func fn fs.toArray cs.toArray) (.clos fn fa ca)

/-- What surely stands in one cell. -/
def AV.one : AV → Bool
  | .agg _ | .tup _ | .any => false
  | _ => true

theorem VL.one {w : World} {S : Nat → Prop} {ι : Io} {H : Hp} {v : Value} {x : AV} (h : VL w S ι H v x) (hx : x.one = true) : cellB v = true := by
  cases h with
  | d h => exact h.cellB
  | any v => simp [AV.one] at hx
  | agg hl hr => simp [AV.one] at hx
  | tup hl hr => simp [AV.one] at hx
  | _ => rfl

/-- The abstract heap tells of the heap. -/
structure HR (w : World) (S : Nat → Prop) (ι : Io) (H : Hp) : Prop where
  stable : ∀ b, S b → b < w.heap.size ∧ ¬ Owned ι H b
  boxes : ∀ l cells, H.bx l = some cells → ∃ cs T, w.heap[ι.bx l]? = some (.cells cs T (0, 0)) ∧ cs.size = cells.length ∧
    (∀ j (h : j < cells.length), VL w S ι H (cs.getD j undef) (cells[j]))
  rows : ∀ t sz n, H.tg t = some (sz, n) → (∀ b base, ι.tg t = some (b, base) → RowAt w b base sz n) ∧ (ι.tg t = none → n = 0)
  injB : ∀ l m, H.bx l ≠ none → H.bx m ≠ none → ι.bx l = ι.bx m → l = m
  injT : ∀ t u b p q, H.tg t ≠ none → H.tg u ≠ none → ι.tg t = some (b, p) → ι.tg u = some (b, q) → t = u
  injBT : ∀ l t b p, H.bx l ≠ none → H.tg t ≠ none → ι.tg t = some (b, p) → ι.bx l ≠ b

/-- How the world may go on beside an abstract value that is not told anew: what is stable stays; boxes stay where they are; a row stays where it is, and what it had is as it was. -/
structure Ext (w : World) (S : Nat → Prop) (ι : Io) (H : Hp) (w' : World) (S' : Nat → Prop) (ι' : Io) (H' : Hp) : Prop where
  st : ∀ b, S b → S' b
  keep : ∀ b, S b → w'.heap[b]? = w.heap[b]?
  bx : ∀ l, H.bx l ≠ none → H'.bx l ≠ none ∧ ι'.bx l = ι.bx l
  tg : ∀ t sz n, H.tg t = some (sz, n) → ι'.tg t = ι.tg t ∧ ∃ n', n ≤ n' ∧ H'.tg t = some (sz, n')
  row : ∀ t sz n b base, H.tg t = some (sz, n) → ι.tg t = some (b, base) → ∀ cs T fz, w.heap[b]? = some (.cells cs T fz) →
    ∃ cs' T' fz', w'.heap[b]? = some (.cells cs' T' fz') ∧ cs.size ≤ cs'.size ∧ ∀ o, o < base + n * sz → cs'[o]? = cs[o]?

theorem cell_row {w w' : World} {b o m : Nat} {cs cs' : Array Value} {T T' : TypeId} {fz fz' : Nat × Nat} (h : w.heap[b]? = some (.cells cs T fz))
    (h' : w'.heap[b]? = some (.cells cs' T' fz')) (hk : ∀ o, o < m → cs'[o]? = cs[o]?) (ho : o < m) : w'.cell? ⟨b, o, none⟩ = w.cell? ⟨b, o, none⟩ := by
  simp [World.cell?, h, h', hk o ho]

theorem row_lt {i n j sz : Nat} (hi : i < n) (hj : j < sz) : i * sz + j < n * sz := by
  have h : i * sz + sz ≤ n * sz := by rw [← Nat.succ_mul]; exact Nat.mul_le_mul_right sz hi
  omega

theorem Ext.rd {w w' : World} {S S' : Nat → Prop} {ι ι' : Io} {H H' : Hp} (E : Ext w S ι H w' S' ι' H') {v : Value} {d : DV} (h : Rd w S v d) : Rd w' S' v d := h.keep E.st E.keep

theorem VL.ext {w w' : World} {S S' : Nat → Prop} {ι ι' : Io} {H H' : Hp} (E : Ext w S ι H w' S' ι' H') (R : HR w S ι H) {v : Value} {x : AV} (h : VL w S ι H v x) :
    VL w' S' ι' H' v x := by
  induction h with
  | any v => exact .any v
  | d h => exact .d (E.rd h)
  | nils sz => exact .nils sz
  | ptr h => have := E.bx _ h; rw [← this.2]; exact .ptr this.1
  | onil h hι =>
    obtain ⟨h1, n', _, h2⟩ := E.tg _ _ _ h
    exact .onil h2 (by rw [h1]; exact hι)
  | oemp h h0 hn =>
    obtain ⟨h1, n', h3, h2⟩ := E.tg _ _ _ h
    exact .oemp h2 h0 (by omega)
  | @own t sz n b base off cap rows h hι hn hsz cv hc hr hcap hroom =>
    obtain ⟨h1, n', hnn, h2⟩ := E.tg _ _ _ h
    obtain ⟨cs, T, fz, hb, hle⟩ := hroom
    obtain ⟨cs', T', fz', hb', hs, hk⟩ := E.row _ _ _ _ _ h hι _ _ _ hb
    refine .own h2 (by rw [h1]; exact hι) (by omega) hsz cv (fun i j hi hj => ?_) (fun i j hi hj => E.rd (hr i j hi hj)) hcap ⟨cs', T', fz', hb', by omega⟩
    rw [cell_row (m := base + n * sz) hb hb' hk]
    · exact hc i j hi hj
    · have := row_lt (i := off + i) (n := n) (by omega) hj; omega
  | @rptr b o row cv hS hc hr => exact .rptr cv (E.st _ hS) (fun j hj => by rw [cell_of_block (E.keep _ hS)]; exact hc j hj) (fun j hj => E.rd (hr j hj))
  | @optr t sz n b base i j row h hι hi hsz cv hc hr =>
    obtain ⟨h1, n', hnn, h2⟩ := E.tg _ _ _ h
    obtain ⟨⟨cs, T, lo, hi', hb, hle, _⟩⟩ := (R.rows _ _ _ h).1 _ _ hι
    obtain ⟨cs', T', fz', hb', hs, hk⟩ := E.row _ _ _ _ _ h hι _ _ _ hb
    refine .optr h2 (by rw [h1]; exact hι) (by omega) hsz cv (fun j hj => ?_) (fun j hj => E.rd (hr j hj))
    rw [cell_row (m := base + n * sz) hb hb' hk]
    · exact hc j hj
    · have := row_lt hi hj; omega
  | agg hl _ ih => exact .agg hl ih
  | tup hl _ ih => exact .tup hl ih
  | clos hf _ hc _ ih1 ih2 => exact .clos hf ih1 hc ih2

end Go.Proofs.YtchmoleeajkioaaDoor.V
