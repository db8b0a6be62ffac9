/-
  DERIVED. GIVEN WITH THE SEED: THE CARDS: each row of YthipieoadfbohaaDoorRows.lean that lists a variable, with what it lists TIED to the program's text (the seventh form; the later family's looks); each row that meets fmt, with fmt's text TOLD by the authors' own Lean function (tested against real Go, not proved from fmt's source: count such statements apart). THE CARD IS WHAT COUNTS. Prove the row's statement (the work); the ties are given (YthipieoadfbohaaDoorTie.lean); close each card by the builder's one call (the guide's Derived/Test/ToyasCard.lean, 'card_holds'). Laid BY PROGRAM, IN A SANDBOX (cutbox-door.mjs). By AI agents, Wed Nov 11 2026. No macro, syntax, notation, axiom, sorry.
-/
import Derived.Test.YthipieoadfbohaaDoorRows
import GoSem.ClaimSeven
namespace Go.Proofs.YthipieoadfbohaaDoor
namespace Rows

/-- THE TIED CARD OF 'laws.FnExactGuardOK'. -/
def fnExactGuardOKCard : Claim7 := { stood := { row := fnExactGuardOKRow, standIns := [], harness := (true, "80e140545e57880d7bd88dd30b2646ea9f25250c9ceac6a8474a0360d55705c1"), looks := false }, kinds := [], alts := [], laidByText := true, laidKinds := [.data, .pinned], laidTests := true, laidLooks := .later }
def FnExactGuardOKCardSaid : Prop := Claim7.holds Tryd.pinned (.plain (OpenSpec.ofChange fnExactGuardOKSpec)) fnExactGuardOKCard

/-- THE SECOND FORM's CARD OF 'laws.FnExactGuardOK'. -/
def fnExactGuardOKUptoCard : Claim7 := { stood := { row := fnExactGuardOKUptoRow, standIns := [], harness := (true, "80e140545e57880d7bd88dd30b2646ea9f25250c9ceac6a8474a0360d55705c1"), looks := false }, kinds := [], alts := [], laidByText := true, laidKinds := [.data, .pinned], laidTests := true, laidLooks := .later }
def FnExactGuardOKUptoCardSaid : Prop := Claim7.holds Tryd.pinned (.plain (OpenSpec.upto fnExactGuardOKSpec)) fnExactGuardOKUptoCard
end Rows
end Go.Proofs.YthipieoadfbohaaDoor
