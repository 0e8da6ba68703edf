/-
  DERIVED. GIVEN WITH THE SEED: THE CARDS: each row of YtjlnfficehomhaaDoorRows.lean that lists a variable, with what it lists TIED to the program's text (the seventh form; the later family's looks); each row that meets fmt, with fmt's text TOLD by the authors' own Lean function (tested against real Go, not proved from fmt's source: count such statements apart). THE CARD IS WHAT COUNTS. Prove the row's statement (the work); the ties are given (YtjlnfficehomhaaDoorTie.lean); close each card by the builder's one call (the guide's Derived/Test/ToyasCard.lean, 'card_holds'). Laid BY PROGRAM, IN A SANDBOX (cutbox-door.mjs). By AI agents, Wed Nov 11 2026. No macro, syntax, notation, axiom, sorry.
-/
import Derived.Test.YtjlnfficehomhaaDoorRows
import GoSem.ClaimSeven
namespace Go.Proofs.YtjlnfficehomhaaDoor
namespace Rows

/-- THE TIED CARD OF 'laws.FnExactStripChecks'. -/
def fnExactStripChecksCard : Claim7 := { stood := { row := fnExactStripChecksRow, standIns := [], harness := (true, "35eba59fd08a919c4d0754c155acd4250d310420596c4017976535cdd0e121c4"), looks := false }, kinds := [], alts := [], laidByText := true, laidKinds := [.data, .data, .data], laidTests := true, laidLooks := .later }
def FnExactStripChecksCardSaid : Prop := Claim7.holds Tryd.pinned (.plain (OpenSpec.ofChange fnExactStripChecksSpec)) fnExactStripChecksCard

/-- THE SECOND FORM's CARD OF 'laws.FnExactStripChecks'. -/
def fnExactStripChecksUptoCard : Claim7 := { stood := { row := fnExactStripChecksUptoRow, standIns := [], harness := (true, "35eba59fd08a919c4d0754c155acd4250d310420596c4017976535cdd0e121c4"), looks := false }, kinds := [], alts := [], laidByText := true, laidKinds := [.data, .data, .data], laidTests := true, laidLooks := .later }
def FnExactStripChecksUptoCardSaid : Prop := Claim7.holds Tryd.pinned (.plain (OpenSpec.upto fnExactStripChecksSpec)) fnExactStripChecksUptoCard
end Rows
end Go.Proofs.YtjlnfficehomhaaDoor
