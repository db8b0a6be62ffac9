/-
  The types of guards as a row reads them.
-/
-- FOR: guard
import Derived.Test.YthipieoadfbohaaDoorYb
import Derived.Test.YthipieoadfbohaaDoorPd
namespace Go.Proofs.YthipieoadfbohaaDoor.V
open Go Go.RowKit Go.ChangeShapes Go.WideShapes
set_option linter.unusedSimpArgs false
set_option linter.unusedVariables false
noncomputable section
theorem stEnt : stF Tryd.prog 60 = [(9, 0), (9, 1)] := by kernel_rfl
theorem zEnt : Tryd.prog.cellsOf 60 = 2 := by kernel_rfl
theorem rEnt : Reads Tryd.prog 60 encEnt FitEnt := by
  intro H enc w sp hd fuel cs d p h hs
  obtain ⟨hl, x0, p0, h0⟩ := st_cell (k := 0) (off := 0) h hs (by rw [stEnt]; rfl) zStr (by rw [zEnt]; decide) rStr
  obtain ⟨hl, x1, p1, h1⟩ := st_cell (k := 1) (off := 1) h hs (by rw [stEnt]; rfl) zStr (by rw [zEnt]; decide) rStr
  exact ⟨⟨x0, x1⟩, ⟨p0, p1⟩, rdl2 (by rw [hl, zEnt]) h0 h1⟩

theorem uEntS : Tryd.prog.underlying 22 = some (.slice 60) := by kernel_rfl
theorem zEntS : Tryd.prog.cellsOf 22 = 1 := by kernel_rfl
theorem rEntS : Reads Tryd.prog 22 (fun l : List Ent => [dEnts l]) (fun l => l.length ≤ 140737488355328 ∧ ∀ y ∈ l, FitEnt y) :=
  reads_slice uEntS zEnt (Nat.le_of_ble_eq_true (by kernel_rfl)) (by decide) (fun _ => rfl) rEnt

theorem stGrd : stF Tryd.prog 24 = [(9, 0), (3, 1), (22, 2)] := by kernel_rfl
theorem zGrd : Tryd.prog.cellsOf 24 = 3 := by kernel_rfl
theorem rGrd : Reads Tryd.prog 24 encGrd FitGrd := by
  intro H enc w sp hd fuel cs d p h hs
  obtain ⟨hl, x0, p0, h0⟩ := st_cell (k := 0) (off := 0) h hs (by rw [stGrd]; rfl) zStr (by rw [zGrd]; decide) rStr
  obtain ⟨hl, x1, p1, h1⟩ := st_cell (k := 1) (off := 1) h hs (by rw [stGrd]; rfl) zInt (by rw [zGrd]; decide) rInt
  obtain ⟨hl, x2, p2, h2⟩ := st_cell (k := 2) (off := 2) h hs (by rw [stGrd]; rfl) zEntS (by rw [zGrd]; decide) rEntS
  exact ⟨⟨x0, x1, x2⟩, ⟨p0, p2⟩, rdl3 (by rw [hl, zGrd]) h0 h1 h2⟩

end
end Go.Proofs.YthipieoadfbohaaDoor.V
