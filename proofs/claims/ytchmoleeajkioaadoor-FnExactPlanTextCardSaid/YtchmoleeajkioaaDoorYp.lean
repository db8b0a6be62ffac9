/-
  The type of plans as a row reads it.
-/
-- FOR: plantext
import Derived.Test.YtchmoleeajkioaaDoorYb
import Derived.Test.YtchmoleeajkioaaDoorPt
namespace Go.Proofs.YtchmoleeajkioaaDoor.V
open Go Go.RowKit Go.ChangeShapes Go.WideShapes
set_option linter.unusedSimpArgs false
set_option linter.unusedVariables false
noncomputable section
theorem stPln : stF Tryd.prog 23 = [(9, 0), (3, 1), (9, 2), (9, 3), (3, 4)] := by kernel_rfl
theorem zPln : Tryd.prog.cellsOf 23 = 5 := by kernel_rfl
theorem rPln : Reads Tryd.prog 23 encPln FitPln := by
  intro H enc w sp hd fuel cs d p h hs
  obtain ⟨hl, x0, p0, h0⟩ := st_cell (k := 0) (off := 0) h hs (by rw [stPln]; rfl) zStr (by rw [zPln]; decide) rStr
  obtain ⟨hl, x1, p1, h1⟩ := st_cell (k := 1) (off := 1) h hs (by rw [stPln]; rfl) zInt (by rw [zPln]; decide) rInt
  obtain ⟨hl, x2, p2, h2⟩ := st_cell (k := 2) (off := 2) h hs (by rw [stPln]; rfl) zStr (by rw [zPln]; decide) rStr
  obtain ⟨hl, x3, p3, h3⟩ := st_cell (k := 3) (off := 3) h hs (by rw [stPln]; rfl) zStr (by rw [zPln]; decide) rStr
  obtain ⟨hl, x4, p4, h4⟩ := st_cell (k := 4) (off := 4) h hs (by rw [stPln]; rfl) zInt (by rw [zPln]; decide) rInt
  exact ⟨⟨x0, x1, x2, x3, x4⟩, ⟨p0, p2, p3⟩, rdl5 (by rw [hl, zPln]) h0 h1 h2 h3 h4⟩

end
end Go.Proofs.YtchmoleeajkioaaDoor.V
