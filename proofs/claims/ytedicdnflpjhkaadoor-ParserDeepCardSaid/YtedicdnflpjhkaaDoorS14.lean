/- parser.Expr and parser.Parse: where the text has no fault of its words. No condition beyond the bounds named. -/
import Derived.Test.YtedicdnflpjhkaaDoorS13
set_option linter.unusedSimpArgs false
set_option linter.unusedVariables false
set_option maxRecDepth 100000
set_option maxHeartbeats 1000000
namespace Go.Proofs.YtedicdnflpjhkaaDoor
open Go.Aw
def exprV : PR → AV
  | .ok x _ => .tup [.agg (encE x), .v (.int .i64 0), .v (.int .i64 0)]
  | .bad p x => .tup [.agg [.v (.int .i64 0), .v (.int .i64 0), .str [], .sl [] none, .sl [] none], .v (.int .i64 p), .v (.int .i64 x)]
def fine (f : Nat) : PR → Bool
  | .ok x [] => rightAll f [(1, x)]
  | .ok _ (_ :: _) => false
  | .bad _ x => decide (x ≠ 0)
theorem Expr_ok (s : List UInt8) (toks : List Tk) (f0 f : Nat) (pr : PR) (S : AS) (hs : Ascii s) (hl : s.length ≤ 65536) (hf : f0 ≤ 100000) (h : lexF s f0 0 = some toks) (he : exprF s.length f toks 0 = some pr) (hfine : fine f pr = true) :
    ACall Tryd.prog 5 [.str s] S fun r T => r = .ret (exprV pr) ∧ T = S := by
  refine ACall.by_code Tryd.func5 rfl Tryd.ntmps5 rfl ?_
  simp -implicitDefEqProofs only [go_sem, Nat.reduceAdd, Nat.reduceSub, Nat.reduceMul, Nat.reduceEqDiff, Nat.reduceLeDiff, Nat.reduceBEq, Nat.reduceBNe, ↓reduceIte, Int.reduceToNat, Int.reduceLT, Int.reduceLE, Int.reduceEq, Int.reduceAdd, Int.reduceSub, Int.reduceNeg, Int.reduceMul, reduceCtorEq, List.reduceReplicate, Nat.reduceGT, Int.reduceGT, Int.reduceGE, Int.reduceBEq, Int.natCast_zero, Int.natCast_one, Int.cast_ofNat_Int, List.range_zero, Nat.reduceMod, Nat.reduceLT, or_false, false_or, or_self]
  intro B2 hB2
  have hr : ∀ x r, pr = .ok x r → r = [] := by
    rintro x r rfl
    cases r with
    | nil => rfl
    | cons t r => cases hfine
  cases pr with
  | bad p x =>
    have hx : ¬ x = 0 := by simpa [fine] using hfine
    refine (read_ok 9 s toks f0 f (.bad p x) _ hs hl hf h (by kernel_rfl) (fun B S hS => expr1_ok toks s.length f B _ S hS he hr) (fun bs e => by cases e)).mono ?_
    rintro _ _ ⟨rfl, rfl⟩
    simp -implicitDefEqProofs only [go_sem, Nat.reduceAdd, Nat.reduceSub, Nat.reduceMul, Nat.reduceEqDiff, Nat.reduceLeDiff, Nat.reduceBEq, Nat.reduceBNe, ↓reduceIte, Int.reduceToNat, Int.reduceLT, Int.reduceLE, Int.reduceEq, Int.reduceAdd, Int.reduceSub, Int.reduceNeg, Int.reduceMul, reduceCtorEq, List.reduceReplicate, Nat.reduceGT, Int.reduceGT, Int.reduceGE, Int.reduceBEq, Int.natCast_zero, Int.natCast_one, Int.cast_ofNat_Int, List.range_zero, Nat.reduceMod, Nat.reduceLT, or_false, false_or, or_self, outV, decide_eq_false hx]
    refine resK_seal (T := S) (by (first | (focus (repeat' (first | exact AS.le_refl _ | assumption | exact AS.del_le _ _ | refine AS.set_le_set ?_ | refine AS.del_skip ?_ | refine AS.del_del ?_ | refine AS.le_new ?_ (by simp [AS.set, AS.del, *]; done))); done) | (intro b' o' h'; simp only [AS.set, AS.del] at h' ⊢; (repeat' split at h') <;> (repeat' split) <;> simp_all))) ⟨?_, rfl⟩
    simp [AV.shut, sealL, sealLL, isNilSl, exprV]
  | ok x r =>
    cases hr x r rfl
    refine (read_ok 9 s toks f0 f (.ok [(1, x)]) _ hs hl hf h (by kernel_rfl) (fun B S hS => expr1_ok toks s.length f B _ S hS he hr) (fun bs e => by cases e; exact hfine)).mono ?_
    rintro _ _ ⟨rfl, rfl⟩
    simp -implicitDefEqProofs only [go_sem, Nat.reduceAdd, Nat.reduceSub, Nat.reduceMul, Nat.reduceEqDiff, Nat.reduceLeDiff, Nat.reduceBEq, Nat.reduceBNe, ↓reduceIte, Int.reduceToNat, Int.reduceLT, Int.reduceLE, Int.reduceEq, Int.reduceAdd, Int.reduceSub, Int.reduceNeg, Int.reduceMul, reduceCtorEq, List.reduceReplicate, Nat.reduceGT, Int.reduceGT, Int.reduceGE, Int.reduceBEq, Int.natCast_zero, Int.natCast_one, Int.cast_ofNat_Int, List.range_zero, Nat.reduceMod, Nat.reduceLT, or_false, false_or, or_self, outV, encB, encE_length, encE_one, encE_take]
    refine resK_mk (T := S) (by (first | (focus (repeat' (first | exact AS.le_refl _ | assumption | exact AS.del_le _ _ | refine AS.set_le_set ?_ | refine AS.del_skip ?_ | refine AS.del_del ?_ | refine AS.le_new ?_ (by simp [AS.set, AS.del, *]; done))); done) | (intro b' o' h'; simp only [AS.set, AS.del] at h' ⊢; (repeat' split at h') <;> (repeat' split) <;> simp_all))) ⟨?_, rfl⟩
    simp [exprV]
theorem Parse_ok (s : List UInt8) (toks : List Tk) (f0 f n0 : Nat) (bs : List (Nat × Ex)) (S : AS) (hs : Ascii s) (hl : s.length ≤ 65536) (hf : f0 ≤ 100000) (hn : n0 ≤ 100000) (h : lexF s f0 0 = some toks) (he : progF s.length f n0 toks = some bs) (hfine : rightAll f bs = true) :
    ACall Tryd.prog 6 [.str s] S fun r T => r = .ret (.tup [.sl (bs.map encB) none, .v (.int .i64 0), .v (.int .i64 0)]) ∧ T = S := by
  refine ACall.by_code Tryd.func6 rfl Tryd.ntmps6 rfl ?_
  simp -implicitDefEqProofs only [go_sem, Nat.reduceAdd, Nat.reduceSub, Nat.reduceMul, Nat.reduceEqDiff, Nat.reduceLeDiff, Nat.reduceBEq, Nat.reduceBNe, ↓reduceIte, Int.reduceToNat, Int.reduceLT, Int.reduceLE, Int.reduceEq, Int.reduceAdd, Int.reduceSub, Int.reduceNeg, Int.reduceMul, reduceCtorEq, List.reduceReplicate, Nat.reduceGT, Int.reduceGT, Int.reduceGE, Int.reduceBEq, Int.natCast_zero, Int.natCast_one, Int.cast_ofNat_Int, List.range_zero, Nat.reduceMod, Nat.reduceLT, or_false, false_or, or_self]
  refine (read_ok 12 s toks f0 f (.ok bs) _ hs hl hf h (by kernel_rfl) (fun B S hS => parse1_ok toks s.length f n0 B bs S hS hn he) (fun bs e => by cases e; exact hfine)).mono ?_
  rintro _ _ ⟨rfl, rfl⟩
  simp -implicitDefEqProofs only [go_sem, Nat.reduceAdd, Nat.reduceSub, Nat.reduceMul, Nat.reduceEqDiff, Nat.reduceLeDiff, Nat.reduceBEq, Nat.reduceBNe, ↓reduceIte, Int.reduceToNat, Int.reduceLT, Int.reduceLE, Int.reduceEq, Int.reduceAdd, Int.reduceSub, Int.reduceNeg, Int.reduceMul, reduceCtorEq, List.reduceReplicate, Nat.reduceGT, Int.reduceGT, Int.reduceGE, Int.reduceBEq, Int.natCast_zero, Int.natCast_one, Int.cast_ofNat_Int, List.range_zero, Nat.reduceMod, Nat.reduceLT, or_false, false_or, or_self, outV]
  exact resK_mk (AS.le_refl _) ⟨rfl, rfl⟩
end Go.Proofs.YtedicdnflpjhkaaDoor
