/- The tied card of octroilaw32.ParserDeep: whatever the input, ParserDeep answers true. No condition beyond the card's own: its listed package variables are as the program's text lays them (the tie is given). -/
import Derived.Test.YtedicdnflpjhkaaDoorS23
import Derived.Test.YtedicdnflpjhkaaDoorCards
import Derived.Test.YtedicdnflpjhkaaDoorTie
import Derived.SevenTiedAt
namespace Go.Proofs.YtedicdnflpjhkaaDoor
open Go
theorem parserDeep_card : Rows.ParserDeepCardSaid :=
  Claim7.holds_tied_plain_at .later [] [.data, .data, .data] true (true, "64b0153e45eab63732d3f2cf5e65dd55798e19eb57ef2aa37ed8b4f200cbe644") true
    parserDeep.proved (fun _ h => by cases h) (by kernel_rfl) (fun _ h => by cases h) parserDeep_row_tie rfl ⟨rfl, rfl⟩ (by kernel_rfl) rfl
    (fun f fn hf hfn => by
      obtain rfl : f = 3 := Option.some.inj ((show Tryd.prog.funcNamed "octroi/octroilaw32.ParserDeep" = some 3 by kernel_rfl).symm.trans hf) |>.symm
      obtain rfl : fn = Tryd.f3 := (Option.some.inj (Tryd.func3.symm.trans hfn)).symm
      exact ⟨by kernel_rfl, fun j t ht => by
        rw [Tryd.params3] at ht
        have hm : t ∈ [3, 3] := by simpa using Array.mem_of_getElem? ht
        have hall : ([3, 3].all fun u => !Tryd.prog.wantsStandIn u) = true := by kernel_rfl
        exact (show Tryd.prog.wantsStandIn t = false by simpa using List.all_eq_true.1 hall t hm)⟩)
    (by kernel_rfl)
#print axioms parserDeep_card
end Go.Proofs.YtedicdnflpjhkaaDoor
