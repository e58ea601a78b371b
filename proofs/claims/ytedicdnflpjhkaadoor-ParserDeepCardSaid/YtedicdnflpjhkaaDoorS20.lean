/- The chapter's example, and the statement's own code: what they answer. No condition beyond the bounds named. -/
import Derived.Test.YtedicdnflpjhkaaDoorS19
set_option linter.unusedSimpArgs false
set_option linter.unusedVariables false
set_option maxRecDepth 100000
set_option maxHeartbeats 1000000
namespace Go.Proofs.YtedicdnflpjhkaaDoor
open Go.Aw
def liveS : List UInt8 := [98, 111, 120, 32, 49, 32, 61, 32, 49, 32, 45, 32, 50, 32, 45, 32, 51, 59]
def liveP : List UInt8 := [98, 111, 120, 32, 49, 32, 61, 32, 49, 32, 45, 32, 50, 32, 45, 32, 51, 59, 10]
def num (n : Int) : Ex := .mk 1 n [] [] []
def liveE : Ex := .mk 5 0 [] [] [.mk 5 0 [] [] [num 1, num 2], num 3]
def liveB : List (Nat × Ex) := [(1, liveE)]
theorem live_lex : lexF liveS 100 0 = some [⟨1, 0, [98, 111, 120], 0⟩, ⟨2, 4, [49], 1⟩, ⟨3, 6, [61], 0⟩, ⟨2, 8, [49], 1⟩, ⟨3, 10, [45], 0⟩, ⟨2, 12, [50], 2⟩, ⟨3, 14, [45], 0⟩, ⟨2, 16, [51], 3⟩, ⟨3, 17, [59], 0⟩] := by
  decide +kernel
theorem live_prog : progF liveS.length 50 10 [⟨1, 0, [98, 111, 120], 0⟩, ⟨2, 4, [49], 1⟩, ⟨3, 6, [61], 0⟩, ⟨2, 8, [49], 1⟩, ⟨3, 10, [45], 0⟩, ⟨2, 12, [50], 2⟩, ⟨3, 14, [45], 0⟩, ⟨2, 16, [51], 3⟩, ⟨3, 17, [59], 0⟩] = some liveB := by
  kernel_rfl
theorem live_right : rightAll 50 liveB = true := by decide +kernel
theorem live_print : printP 50 liveB = some liveP := by kernel_rfl
theorem live_ascii : Ascii liveS := by unfold Ascii; decide +kernel
theorem lives_ok (S : AS) : ACall Tryd.prog 4 [] S fun r T => r = .ret (.v (.bool true)) ∧ T = S := by
  refine ACall.by_code Tryd.func4 rfl Tryd.ntmps4 rfl ?_
  simp -implicitDefEqProofs only [go_sem, Nat.reduceAdd, Nat.reduceSub, Nat.reduceMul, Nat.reduceEqDiff, Nat.reduceLeDiff, Nat.reduceBEq, Nat.reduceBNe, ↓reduceIte, Int.reduceToNat, Int.reduceLT, Int.reduceLE, Int.reduceEq, Int.reduceAdd, Int.reduceSub, Int.reduceNeg, Int.reduceMul, reduceCtorEq, List.reduceReplicate, Nat.reduceGT, Int.reduceGT, Int.reduceGE, Int.reduceBEq, Int.natCast_zero, Int.natCast_one, Int.cast_ofNat_Int, List.range_zero, Nat.reduceMod, Nat.reduceLT, or_false, false_or, or_self]
  refine (Parse_ok liveS _ 100 50 10 liveB S live_ascii (by decide) (by omega) (by omega) live_lex live_prog live_right).mono ?_
  rintro _ _ ⟨rfl, rfl⟩
  simp -implicitDefEqProofs only [go_sem, Nat.reduceAdd, Nat.reduceSub, Nat.reduceMul, Nat.reduceEqDiff, Nat.reduceLeDiff, Nat.reduceBEq, Nat.reduceBNe, ↓reduceIte, Int.reduceToNat, Int.reduceLT, Int.reduceLE, Int.reduceEq, Int.reduceAdd, Int.reduceSub, Int.reduceNeg, Int.reduceMul, reduceCtorEq, List.reduceReplicate, Nat.reduceGT, Int.reduceGT, Int.reduceGE, Int.reduceBEq, Int.natCast_zero, Int.natCast_one, Int.cast_ofNat_Int, List.range_zero, Nat.reduceMod, Nat.reduceLT, or_false, false_or, or_self, liveB, liveE, num, encB, encE, encEs]
  refine (print_ok 50 liveB none liveP _ live_print (by decide) (by decide) (by decide)).mono ?_
  rintro _ _ ⟨rfl, rfl⟩
  simp -implicitDefEqProofs only [go_sem, Nat.reduceAdd, Nat.reduceSub, Nat.reduceMul, Nat.reduceEqDiff, Nat.reduceLeDiff, Nat.reduceBEq, Nat.reduceBNe, ↓reduceIte, Int.reduceToNat, Int.reduceLT, Int.reduceLE, Int.reduceEq, Int.reduceAdd, Int.reduceSub, Int.reduceNeg, Int.reduceMul, reduceCtorEq, List.reduceReplicate, Nat.reduceGT, Int.reduceGT, Int.reduceGE, Int.reduceBEq, Int.natCast_zero, Int.natCast_one, Int.cast_ofNat_Int, List.range_zero, Nat.reduceMod, Nat.reduceLT, or_false, false_or, or_self, liveP]
  exact resK_mk (AS.le_refl _) ⟨rfl, rfl⟩
end Go.Proofs.YtedicdnflpjhkaaDoor
