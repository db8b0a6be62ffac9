/-
  The program's types, and how their values lie in cells.
-/
import Derived.Test.YtchmoleeajkioaaDoorSa
namespace Go.Proofs.YtchmoleeajkioaaDoor.V
open Go Go.RowKit
set_option linter.unusedSimpArgs false
set_option linter.unusedVariables false

abbrev Txt := List UInt8

/-- A value that is not to be looked into. -/
noncomputable def hide {α : Type} (x : α) : α := (⟨x, rfl⟩ : ∃ y, y = x).choose
theorem hide_eq {α : Type} (x : α) : hide x = x := (⟨x, rfl⟩ : ∃ y, y = x).choose_spec

/-- Whole numbers, texts, in rows. -/
def encI (n : Int) : List DV := [.int .i64 n]
def encS (s : Txt) : List DV := [.str s]
def encB (b : UInt8) : List DV := [.int .u8 b.toNat]

structure Col where
  name : Txt
  typ : Int
  null : Bool
  deriving Inhabited
structure Idx where
  name : Txt
  cols : List Int
  deriving Inhabited
structure Tbl where
  name : Txt
  cols : List Col
  key : Int
  idx : List Idx
  deriving Inhabited
structure Ent where
  key : Txt
  val : Txt
  deriving Inhabited
structure Val where
  kind : Int
  n : Int
  t : Txt
  deriving Inhabited
structure Grd where
  table : Txt
  col : Int
  steps : List Ent
  deriving Inhabited

def col0 : Col := ⟨[], 0, false⟩
def idx0 : Idx := ⟨[], []⟩
def tbl0 : Tbl := ⟨[], [], 0, []⟩
def ent0 : Ent := ⟨[], []⟩
def val0 : Val := ⟨0, 0, []⟩

def dInts (l : List Int) : DV := .sl 1 (l.map encI)
def dTxts (l : List Txt) : DV := .sl 1 (l.map encS)
def dBytes (l : Txt) : DV := .sl 1 (l.map encB)
def encCol (c : Col) : List DV := [.str c.name, .int .i64 c.typ, .bool c.null]
def dCols (l : List Col) : DV := .sl 3 (l.map encCol)
def encIdx (x : Idx) : List DV := [.str x.name, .sl 1 (x.cols.map encI)]
def dIdxs (l : List Idx) : DV := .sl 2 (l.map encIdx)
def encTbl (t : Tbl) : List DV := [.str t.name, .sl 3 (t.cols.map encCol), .int .i64 t.key, .sl 2 (t.idx.map encIdx)]
def dTbls (l : List Tbl) : DV := .sl 4 (l.map encTbl)
def encEnt (e : Ent) : List DV := [.str e.key, .str e.val]
def dEnts (l : List Ent) : DV := .sl 2 (l.map encEnt)
def encVal (v : Val) : List DV := [.int .i64 v.kind, .int .i64 v.n, .str v.t]
def dRow (l : List Val) : DV := .sl 3 (l.map encVal)
def encGrd (g : Grd) : List DV := [.str g.table, .int .i64 g.col, .sl 2 (g.steps.map encEnt)]

/-- A struct by value. -/
def agg (l : List DV) : AV := .agg (l.map .d)
def aCol (c : Col) : AV := .agg [.d (.str c.name), .d (.int .i64 c.typ), .d (.bool c.null)]
def aIdx (x : Idx) : AV := .agg [.d (.str x.name), .d (.sl 1 (x.cols.map encI))]
def aTbl (t : Tbl) : AV := .agg [.d (.str t.name), .d (.sl 3 (t.cols.map encCol)), .d (.int .i64 t.key), .d (.sl 2 (t.idx.map encIdx))]
def aEnt (e : Ent) : AV := .agg [.d (.str e.key), .d (.str e.val)]
def aVal (v : Val) : AV := .agg [.d (.int .i64 v.kind), .d (.int .i64 v.n), .d (.str v.t)]
def aGrd (g : Grd) : AV := .agg [.d (.str g.table), .d (.int .i64 g.col), .d (.sl 2 (g.steps.map encEnt))]

section
variable {α : Type}
theorem getD_map (f : α → List DV) (l : List α) (i : Nat) (d : α) : (l.map f).getD i (f d) = f (l.getD i d) := by
  simp only [List.getD, List.getElem?_map]
  cases l[i]? <;> rfl
end
/-- A row that is being filled: the first i elements are there. -/
def fillT {α : Type} (f : α → List DV) (l : List α) (i : Nat) (z : List DV) : List (List DV) := (l.take i).map f ++ (l.drop i).map fun _ => z
section
variable {α : Type} (f : α → List DV) (l : List α) (i : Nat) (z : List DV)
theorem length_fillT : (fillT f l i z).length = l.length := by simp [fillT]; omega
theorem fillT_zero : fillT f l 0 z = List.replicate l.length z := by
  simp only [fillT, List.take_zero, List.map_nil, List.drop_zero, List.nil_append]
  exact List.map_const' ..
theorem fillT_all (h : l.length ≤ i) : fillT f l i z = l.map f := by simp [fillT, List.take_of_length_le h, List.drop_of_length_le h]
theorem getD_fillT : (fillT f l i z).getD i z = z := by
  simp only [fillT, List.getD]
  by_cases h : i < l.length
  · rw [List.getElem?_append_right (by simp; omega)]
    simp only [List.length_map, List.length_take]
    have : i - min i l.length = 0 := by omega
    rw [this]
    simp [List.getElem?_drop, h]
  · rw [List.getElem?_eq_none (by simp; omega)]; rfl
theorem modify_fillT {d : α} {g : List DV → List DV} (hg : g z = f (l.getD i d)) : (fillT f l i z).modify i g = fillT f l (i + 1) z := by
  by_cases h : i < l.length
  · apply List.ext_getElem?
    intro k
    simp only [fillT, List.getElem?_modify]
    by_cases hk : i = k
    · subst hk
      rw [List.getElem?_append_right (by simp; omega), List.getElem?_append_left (by simp; omega)]
      simp only [List.length_map, List.length_take]
      have : i - min i l.length = 0 := by omega
      rw [this]
      simp only [List.getD, List.getElem?_eq_getElem h, Option.getD_some] at hg
      simp [List.getElem?_drop, h, hg]
    · simp only [hk, if_false, Option.map_id_fun', id]
      by_cases hlt : k < i
      · rw [List.getElem?_append_left (by simp; omega), List.getElem?_append_left (by simp; omega)]
        simp [List.getElem?_take, hlt, show k < i + 1 by omega]
      · rw [List.getElem?_append_right (by simp; omega), List.getElem?_append_right (by simp; omega)]
        simp only [List.length_map, List.length_take, List.getElem?_map, List.getElem?_drop]
        have e : i + (k - min i l.length) = i + 1 + (k - min (i + 1) l.length) := by omega
        rw [e]
        cases l[i + 1 + (k - min (i + 1) l.length)]? <;> rfl
  · have h' : l.length ≤ i := by omega
    rw [fillT_all f l i z h', fillT_all f l (i + 1) z (by omega)]
    apply List.ext_getElem?
    intro k
    simp only [List.getElem?_modify]
    by_cases hk : i = k
    · subst hk
      rw [List.getElem?_eq_none (by simpa using h')]; rfl
    · simp [hk]
end
theorem get_I (l : List Int) (i : Nat) : (l.map encI).getD i [.int .i64 0] = [.int .i64 (l.getD i 0)] := getD_map encI l i 0
theorem get_S (l : List Txt) (i : Nat) : (l.map encS).getD i [.str []] = [.str (l.getD i [])] := getD_map encS l i []
theorem get_B (l : Txt) (i : Nat) : (l.map encB).getD i [.int .u8 0] = [.int .u8 (l.getD i 0).toNat] := getD_map encB l i 0
theorem get_Col (l : List Col) (i : Nat) : (l.map encCol).getD i [.str [], .int .i64 0, .bool false] = [.str (l.getD i col0).name, .int .i64 (l.getD i col0).typ, .bool (l.getD i col0).null] := getD_map encCol l i col0
theorem get_Idx (l : List Idx) (i : Nat) : (l.map encIdx).getD i [.str [], .sl 1 []] = [.str (l.getD i idx0).name, .sl 1 ((l.getD i idx0).cols.map encI)] := getD_map encIdx l i idx0
theorem get_Tbl (l : List Tbl) (i : Nat) : (l.map encTbl).getD i [.str [], .sl 3 [], .int .i64 0, .sl 2 []] = [.str (l.getD i tbl0).name, .sl 3 ((l.getD i tbl0).cols.map encCol), .int .i64 (l.getD i tbl0).key, .sl 2 ((l.getD i tbl0).idx.map encIdx)] := getD_map encTbl l i tbl0
theorem get_Ent (l : List Ent) (i : Nat) : (l.map encEnt).getD i [.str [], .str []] = [.str (l.getD i ent0).key, .str (l.getD i ent0).val] := getD_map encEnt l i ent0
theorem get_Val (l : List Val) (i : Nat) : (l.map encVal).getD i [.int .i64 0, .int .i64 0, .str []] = [.int .i64 (l.getD i val0).kind, .int .i64 (l.getD i val0).n, .str (l.getD i val0).t] := getD_map encVal l i val0

attribute [go_sem] get_I get_S get_B get_Col get_Idx get_Tbl get_Ent get_Val dInts dTxts dBytes dCols dIdxs dTbls dEnts dRow aCol aIdx aTbl aEnt aVal aGrd List.length_map length_fillT getD_fillT

/-! ### Telling less: forms for use -/
section
variable {H H' : Hp}
theorem Le.dI {k : IntKind} {a b : Int} (h : a = b) : Le H H' (.d (.int k a)) (.d (.int k b)) := by subst h; exact .d _
theorem Le.dS {a b : Txt} (h : a = b) : Le H H' (.d (.str a)) (.d (.str b)) := by subst h; exact .d _
theorem Le.dB {a b : Bool} (h : a = b) : Le H H' (.d (.bool a)) (.d (.bool b)) := by subst h; exact .d _
theorem Le.dL {sz : Nat} {a b : List (List DV)} (h : a = b) : Le H H' (.d (.sl sz a)) (.d (.sl sz b)) := by subst h; exact .d _
theorem Le.ow {t sz off : Nat} {a b : List (List DV)} (h : H'.tg t = H.tg t) (e : a = b) : Le H H' (.own t sz off a) (.own t sz off b) := by subst e; exact .own h
theorem Le.cl {f : Go.Fn} {a b c d : List AV} (h : Le H H' (.agg a) (.agg b)) (h' : Le H H' (.agg c) (.agg d)) : Le H H' (.clos f a c) (.clos f b d) := by
  cases h with
  | agg hl ha => cases h' with
    | agg hl' ha' => exact .clos hl ha hl' ha'
theorem LeA.nil : Le H H' (.agg []) (.agg []) := .agg rfl (fun j h => by simp at h)
theorem LeA.cons {x y : AV} {a b : List AV} (h : Le H H' x y) (t : Le H H' (.agg a) (.agg b)) : Le H H' (.agg (x :: a)) (.agg (y :: b)) := by
  cases t with
  | agg hl ht =>
    refine .agg (by simp [hl]) (fun j h1 h2 => ?_)
    cases j with
    | zero => exact h
    | succ j => exact ht j (by simpa using h1) (by simpa using h2)
end

/-! ### Boxes that a function only reads -/
/-- What stays as it is told. -/
def stbL : AV → Bool
  | .d _ | .rptr _ | .any => true
  | _ => false
section
variable {c : List AV} (h : c.all stbL = true)
include h
theorem stb_pure : c.all pureB = true := by
  simp only [List.all_eq_true] at h ⊢
  intro x hx
  have := h x hx
  cases x <;> simp_all [stbL, pureB, pure1, leafP]
theorem stb_ok : c.all finOkC = true := by
  simp only [List.all_eq_true] at h ⊢
  intro x hx
  have := h x hx
  cases x <;> simp_all [stbL, finOkC]
theorem stb_fin (k : Nat) (t : Option Nat) : c.map (finL k t) = c := by
  simp only [List.all_eq_true] at h
  refine (List.map_congr_left fun x hx => ?_).trans (List.map_id _)
  have := h x hx
  cases x <;> simp_all [stbL, finL]
theorem stb_le {H H' : Hp} : Le H H' (.agg c) (.agg c) := by
  refine .agg rfl (fun j h1 h2 => ?_)
  have := List.all_eq_true.1 h _ (List.getElem_mem h1)
  cases hx : c[j] <;> simp_all [stbL] <;> first | exact .d _ | exact .rptr _ | exact .any _
end
end Go.Proofs.YtchmoleeajkioaaDoor.V
