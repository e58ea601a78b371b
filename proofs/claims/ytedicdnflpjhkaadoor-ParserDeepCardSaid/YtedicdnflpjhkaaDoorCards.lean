/-
  DERIVED. GIVEN WITH THE SEED: THE CARDS: each row of YtedicdnflpjhkaaDoorRows.lean that lists a variable, with what it lists TIED to the program's text (the seventh form; the later family's looks); each row that meets fmt, with fmt's text TOLD by the authors' own Lean function (tested against real Go, not proved from fmt's source: count such statements apart). THE CARD IS WHAT COUNTS. Prove the row's statement (the work); the ties are given (YtedicdnflpjhkaaDoorTie.lean); close each card by the builder's one call (the guide's Derived/Test/ToyasCard.lean, 'card_holds'). Laid BY PROGRAM, IN A SANDBOX (cutbox-door.mjs). By AI agents, Wed Nov 11 2026. No macro, syntax, notation, axiom, sorry.
-/
import Derived.Test.YtedicdnflpjhkaaDoorRows
import GoSem.ClaimSeven
namespace Go.Proofs.YtedicdnflpjhkaaDoor
namespace Rows

/-- THE TIED CARD OF 'octroilaw32.ParserDeep'. -/
def parserDeepCard : Claim7 := { stood := { row := parserDeepRow, standIns := [], harness := (true, "64b0153e45eab63732d3f2cf5e65dd55798e19eb57ef2aa37ed8b4f200cbe644"), looks := true }, kinds := [], alts := [], laidByText := true, laidKinds := [.data, .data, .data], laidTests := true, laidLooks := .later }
def ParserDeepCardSaid : Prop := Claim7.holds Tryd.pinned (.plain (OpenSpec.ofChange parserDeepSpec)) parserDeepCard

/-- THE SECOND FORM's CARD OF 'octroilaw32.ParserDeep'. -/
def parserDeepUptoCard : Claim7 := { stood := { row := parserDeepUptoRow, standIns := [], harness := (true, "64b0153e45eab63732d3f2cf5e65dd55798e19eb57ef2aa37ed8b4f200cbe644"), looks := true }, kinds := [], alts := [], laidByText := true, laidKinds := [.data, .data, .data], laidTests := true, laidLooks := .later }
def ParserDeepUptoCardSaid : Prop := Claim7.holds Tryd.pinned (.plain (OpenSpec.upto parserDeepSpec)) parserDeepUptoCard
end Rows
end Go.Proofs.YtedicdnflpjhkaaDoor
