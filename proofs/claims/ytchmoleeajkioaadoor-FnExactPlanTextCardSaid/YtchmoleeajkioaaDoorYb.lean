/-
  The program's types as a row reads them.
-/
import Derived.Test.YtchmoleeajkioaaDoorYa
import Derived.Test.YtchmoleeajkioaaDoorPb
namespace Go.Proofs.YtchmoleeajkioaaDoor.V
open Go Go.RowKit Go.ChangeShapes Go.WideShapes
set_option linter.unusedSimpArgs false
set_option linter.unusedVariables false
noncomputable section

theorem uInt : Tryd.prog.underlying 3 = some (.int .i64) := by kernel_rfl
theorem uStr : Tryd.prog.underlying 9 = some .string := by kernel_rfl
theorem uBool : Tryd.prog.underlying 4 = some .bool := by kernel_rfl
theorem zInt : Tryd.prog.cellsOf 3 = 1 := by kernel_rfl
theorem zStr : Tryd.prog.cellsOf 9 = 1 := by kernel_rfl
theorem zBool : Tryd.prog.cellsOf 4 = 1 := by kernel_rfl
theorem rInt : Reads Tryd.prog 3 (fun n : Int => [.int .i64 n]) (fun n => (Lit.int .i64 n).wf = true) := reads_int uInt
theorem rStr : Reads Tryd.prog 9 (fun s : Txt => [.str s]) (fun s => s.length ≤ 140737488355328) := reads_str uStr
theorem rBool : Reads Tryd.prog 4 (fun b : Bool => [.bool b]) (fun _ => True) := reads_bool uBool

theorem rdl2 {w : World} {cs : List Value} {a b : DV} (hl : cs.length = 2) (h0 : Rd w (allS w) (cs.getD 0 undef) a) (h1 : Rd w (allS w) (cs.getD 1 undef) b) : RdL w cs [a, b] :=
  ⟨hl, fun j hj => match j, hj with | 0, _ => h0 | 1, _ => h1⟩
theorem rdl3 {w : World} {cs : List Value} {a b c : DV} (hl : cs.length = 3) (h0 : Rd w (allS w) (cs.getD 0 undef) a) (h1 : Rd w (allS w) (cs.getD 1 undef) b) (h2 : Rd w (allS w) (cs.getD 2 undef) c) : RdL w cs [a, b, c] :=
  ⟨hl, fun j hj => match j, hj with | 0, _ => h0 | 1, _ => h1 | 2, _ => h2⟩
theorem rdl4 {w : World} {cs : List Value} {a b c d : DV} (hl : cs.length = 4) (h0 : Rd w (allS w) (cs.getD 0 undef) a) (h1 : Rd w (allS w) (cs.getD 1 undef) b) (h2 : Rd w (allS w) (cs.getD 2 undef) c) (h3 : Rd w (allS w) (cs.getD 3 undef) d) : RdL w cs [a, b, c, d] :=
  ⟨hl, fun j hj => match j, hj with | 0, _ => h0 | 1, _ => h1 | 2, _ => h2 | 3, _ => h3⟩
theorem rdl5 {w : World} {cs : List Value} {a b c d e : DV} (hl : cs.length = 5) (h0 : Rd w (allS w) (cs.getD 0 undef) a) (h1 : Rd w (allS w) (cs.getD 1 undef) b) (h2 : Rd w (allS w) (cs.getD 2 undef) c) (h3 : Rd w (allS w) (cs.getD 3 undef) d) (h4 : Rd w (allS w) (cs.getD 4 undef) e) : RdL w cs [a, b, c, d, e] :=
  ⟨hl, fun j hj => match j, hj with | 0, _ => h0 | 1, _ => h1 | 2, _ => h2 | 3, _ => h3 | 4, _ => h4⟩

theorem stCol : stF Tryd.prog 70 = [(9, 0), (3, 1), (4, 2)] := by kernel_rfl
theorem zCol : Tryd.prog.cellsOf 70 = 3 := by kernel_rfl
theorem rCol : Reads Tryd.prog 70 encCol FitCol := by
  intro H enc w sp hd fuel cs d p h hs
  obtain ⟨hl, x0, p0, h0⟩ := st_cell (k := 0) (off := 0) h hs (by rw [stCol]; rfl) zStr (by rw [zCol]; decide) rStr
  obtain ⟨hl, x1, p1, h1⟩ := st_cell (k := 1) (off := 1) h hs (by rw [stCol]; rfl) zInt (by rw [zCol]; decide) rInt
  obtain ⟨hl, x2, p2, h2⟩ := st_cell (k := 2) (off := 2) h hs (by rw [stCol]; rfl) zBool (by rw [zCol]; decide) rBool
  exact ⟨⟨x0, x1, x2⟩, p0, rdl3 (by rw [hl, zCol]) h0 h1 h2⟩

theorem uColS : Tryd.prog.underlying 36 = some (.slice 70) := by kernel_rfl
theorem zColS : Tryd.prog.cellsOf 36 = 1 := by kernel_rfl
theorem rColS : Reads Tryd.prog 36 (fun l : List Col => [dCols l]) (fun l => l.length ≤ 140737488355328 ∧ ∀ y ∈ l, FitCol y) :=
  reads_slice uColS zCol (Nat.le_of_ble_eq_true (by kernel_rfl)) (by decide) (fun _ => rfl) rCol

theorem uIntS : Tryd.prog.underlying 48 = some (.slice 3) := by kernel_rfl
theorem zIntS : Tryd.prog.cellsOf 48 = 1 := by kernel_rfl
theorem rIntS : Reads Tryd.prog 48 (fun l : List Int => [dInts l]) (fun l => l.length ≤ 140737488355328 ∧ ∀ y ∈ l, (Lit.int .i64 y).wf = true) :=
  reads_slice uIntS zInt (Nat.le_of_ble_eq_true (by kernel_rfl)) (by decide) (fun _ => rfl) rInt
theorem stIdx : stF Tryd.prog 72 = [(9, 0), (48, 1)] := by kernel_rfl
theorem zIdx : Tryd.prog.cellsOf 72 = 2 := by kernel_rfl
theorem rIdx : Reads Tryd.prog 72 encIdx FitIdx := by
  intro H enc w sp hd fuel cs d p h hs
  obtain ⟨hl, x0, p0, h0⟩ := st_cell (k := 0) (off := 0) h hs (by rw [stIdx]; rfl) zStr (by rw [zIdx]; decide) rStr
  obtain ⟨hl, x1, p1, h1⟩ := st_cell (k := 1) (off := 1) h hs (by rw [stIdx]; rfl) zIntS (by rw [zIdx]; decide) rIntS
  exact ⟨⟨x0, x1⟩, ⟨p0, p1.1⟩, rdl2 (by rw [hl, zIdx]) h0 h1⟩

theorem uIdxS : Tryd.prog.underlying 37 = some (.slice 72) := by kernel_rfl
theorem zIdxS : Tryd.prog.cellsOf 37 = 1 := by kernel_rfl
theorem rIdxS : Reads Tryd.prog 37 (fun l : List Idx => [dIdxs l]) (fun l => l.length ≤ 140737488355328 ∧ ∀ y ∈ l, FitIdx y) :=
  reads_slice uIdxS zIdx (Nat.le_of_ble_eq_true (by kernel_rfl)) (by decide) (fun _ => rfl) rIdx

theorem stTbl : stF Tryd.prog 39 = [(9, 0), (36, 1), (3, 2), (37, 3)] := by kernel_rfl
theorem zTbl : Tryd.prog.cellsOf 39 = 4 := by kernel_rfl
theorem rTbl : Reads Tryd.prog 39 encTbl FitTbl := by
  intro H enc w sp hd fuel cs d p h hs
  obtain ⟨hl, x0, p0, h0⟩ := st_cell (k := 0) (off := 0) h hs (by rw [stTbl]; rfl) zStr (by rw [zTbl]; decide) rStr
  obtain ⟨hl, x1, p1, h1⟩ := st_cell (k := 1) (off := 1) h hs (by rw [stTbl]; rfl) zColS (by rw [zTbl]; decide) rColS
  obtain ⟨hl, x2, p2, h2⟩ := st_cell (k := 2) (off := 2) h hs (by rw [stTbl]; rfl) zInt (by rw [zTbl]; decide) rInt
  obtain ⟨hl, x3, p3, h3⟩ := st_cell (k := 3) (off := 3) h hs (by rw [stTbl]; rfl) zIdxS (by rw [zTbl]; decide) rIdxS
  exact ⟨⟨x0, x1, x2, x3⟩, ⟨p0, p1, p3⟩, rdl4 (by rw [hl, zTbl]) h0 h1 h2 h3⟩

theorem uTblS : Tryd.prog.underlying 24 = some (.slice 39) := by kernel_rfl
theorem zTblS : Tryd.prog.cellsOf 24 = 1 := by kernel_rfl
theorem rTblS : Reads Tryd.prog 24 (fun l : List Tbl => [dTbls l]) (fun l => l.length ≤ 140737488355328 ∧ ∀ y ∈ l, FitTbl y) :=
  reads_slice uTblS zTbl (Nat.le_of_ble_eq_true (by kernel_rfl)) (by decide) (fun _ => rfl) rTbl

end
end Go.Proofs.YtchmoleeajkioaaDoor.V
