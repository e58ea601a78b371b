/- parser.read: where the text has no fault of its words. No condition beyond the bounds named. -/
import Derived.Test.YtedicdnflpjhkaaDoorS12
set_option linter.unusedSimpArgs false
set_option linter.unusedVariables false
set_option maxRecDepth 100000
set_option maxHeartbeats 1000000
namespace Go.Proofs.YtedicdnflpjhkaaDoor
open Go.Aw
inductive Out where
  | ok (bs : List (Nat × Ex))
  | bad (p : Nat) (x : Int)
def AnsR (S : AS) (B : Nat) : Out → AEnd → AS → Prop
  | .ok bs, r, T => r = .ret (.sl (bs.map encB) none) ∧ T = S.del B
  | .bad p x, r, T => r = .panic (fault p x) ∧ T = S.del B
def outV : Out → AV
  | .ok bs => .tup [.sl (bs.map encB) none, .v (.int .i64 0), .v (.int .i64 0)]
  | .bad p x => .tup [.sl [] none, .v (.int .i64 p), .v (.int .i64 x)]
theorem del_set_new {S : AS} {B : Nat} {o : AObj} (h : S B = none) : (S.set B o).del B = S := by
  funext b; unfold AS.del AS.set; split
  · rename_i e; subst e; exact h.symm
  · rfl
theorem set_id {S : AS} {B : Nat} {o : AObj} (h : S B = some o) : S.set B o = S := by
  funext b; unfold AS.set; split
  · rename_i e; subst e; exact h.symm
  · rfl
theorem read_ok (g : FuncId) (s : List UInt8) (toks : List Tk) (f0 f : Nat) (out : Out) (S : AS) (hs : Ascii s) (hl : s.length ≤ 65536) (hf : f0 ≤ 100000) (h : lexF s f0 0 = some toks) (hk : okF Tryd.prog g = true)
    (hby : ∀ B S, S B = some (rd toks s.length) → ACall Tryd.prog g [.ptr B 0] S (AnsR S B out)) (hout : ∀ bs, out = .ok bs → rightAll f bs = true) :
    ACall Tryd.prog 8 [.str s, .fn (.func g) []] S fun r T => r = .ret (outV out) ∧ T = S := by
  refine ACall.by_defer Tryd.func8 rfl Tryd.ntmps8 rfl ?_
  refine CWp.seq ?_
  simp -implicitDefEqProofs only [go_sem, Nat.reduceAdd, Nat.reduceSub, Nat.reduceMul, Nat.reduceEqDiff, Nat.reduceLeDiff, Nat.reduceBEq, Nat.reduceBNe, ↓reduceIte, Int.reduceToNat, Int.reduceLT, Int.reduceLE, Int.reduceEq, Int.reduceAdd, Int.reduceSub, Int.reduceNeg, Int.reduceMul, reduceCtorEq, List.reduceReplicate, Nat.reduceGT, Int.reduceGT, Int.reduceGE, Int.reduceBEq, Int.natCast_zero, Int.natCast_one, Int.cast_ofNat_Int, List.range_zero, Nat.reduceMod, Nat.reduceLT, or_false, false_or, or_self]
  intro B4 hB4
  intro B5 hB5; simp only [none_set_iff] at hB5; have hB5s := hB5; simp only [ne_comm (a := B5)] at hB5s
  intro B6 hB6; simp only [none_set_iff] at hB6; have hB6s := hB6; simp only [ne_comm (a := B6)] at hB6s
  refine CWp.seq ?_
  simp -implicitDefEqProofs only [go_sem, Nat.reduceAdd, Nat.reduceSub, Nat.reduceMul, Nat.reduceEqDiff, Nat.reduceLeDiff, Nat.reduceBEq, Nat.reduceBNe, ↓reduceIte, Int.reduceToNat, Int.reduceLT, Int.reduceLE, Int.reduceEq, Int.reduceAdd, Int.reduceSub, Int.reduceNeg, Int.reduceMul, reduceCtorEq, List.reduceReplicate, Nat.reduceGT, Int.reduceGT, Int.reduceGE, Int.reduceBEq, Int.natCast_zero, Int.natCast_one, Int.cast_ofNat_Int, List.range_zero, Nat.reduceMod, Nat.reduceLT, or_false, false_or, or_self, hB4, hB5, hB6, hB5s, hB6s]
  refine (lex_ok s toks f0 _ hs hl hf h).mono ?_
  rintro _ _ ⟨rfl, rfl⟩
  have h5 : (((S.set B4 (.var [.v (.slice none 0 0)] 31)).set B5 (.var [.v (.int .i64 0)] 3)).set B6 (.var [.v (.int .i64 0)] 27)).set B5 (.var [.v (.int .i64 0)] 3) = ((S.set B4 (.var [.v (.slice none 0 0)] 31)).set B5 (.var [.v (.int .i64 0)] 3)).set B6 (.var [.v (.int .i64 0)] 27) := set_id (by simp [AS.set, hB6s])
  simp -implicitDefEqProofs only [go_sem, Nat.reduceAdd, Nat.reduceSub, Nat.reduceMul, Nat.reduceEqDiff, Nat.reduceLeDiff, Nat.reduceBEq, Nat.reduceBNe, ↓reduceIte, Int.reduceToNat, Int.reduceLT, Int.reduceLE, Int.reduceEq, Int.reduceAdd, Int.reduceSub, Int.reduceNeg, Int.reduceMul, reduceCtorEq, List.reduceReplicate, Nat.reduceGT, Int.reduceGT, Int.reduceGE, Int.reduceBEq, Int.natCast_zero, Int.natCast_one, Int.cast_ofNat_Int, List.range_zero, Nat.reduceMod, Nat.reduceLT, or_false, false_or, or_self, hB4, hB5, hB6, hB5s, hB6s, h5, AS.set_set]
  refine CWp.seq ?_
  simp -implicitDefEqProofs only [go_sem, Nat.reduceAdd, Nat.reduceSub, Nat.reduceMul, Nat.reduceEqDiff, Nat.reduceLeDiff, Nat.reduceBEq, Nat.reduceBNe, ↓reduceIte, Int.reduceToNat, Int.reduceLT, Int.reduceLE, Int.reduceEq, Int.reduceAdd, Int.reduceSub, Int.reduceNeg, Int.reduceMul, reduceCtorEq, List.reduceReplicate, Nat.reduceGT, Int.reduceGT, Int.reduceGE, Int.reduceBEq, Int.natCast_zero, Int.natCast_one, Int.cast_ofNat_Int, List.range_zero, Nat.reduceMod, Nat.reduceLT, or_false, false_or, or_self, hB4, hB5, hB6, hB5s, hB6s]
  refine CWp.defer (by simp) (by kernel_rfl) ?_
  simp -implicitDefEqProofs only [go_sem, Nat.reduceAdd, Nat.reduceSub, Nat.reduceMul, Nat.reduceEqDiff, Nat.reduceLeDiff, Nat.reduceBEq, Nat.reduceBNe, ↓reduceIte, Int.reduceToNat, Int.reduceLT, Int.reduceLE, Int.reduceEq, Int.reduceAdd, Int.reduceSub, Int.reduceNeg, Int.reduceMul, reduceCtorEq, List.reduceReplicate, Nat.reduceGT, Int.reduceGT, Int.reduceGE, Int.reduceBEq, Int.natCast_zero, Int.natCast_one, Int.cast_ofNat_Int, List.range_zero, Nat.reduceMod, Nat.reduceLT, or_false, false_or, or_self]
  refine WC.sound _ _ _ _ ?_
  simp -implicitDefEqProofs only [go_sem, Nat.reduceAdd, Nat.reduceSub, Nat.reduceMul, Nat.reduceEqDiff, Nat.reduceLeDiff, Nat.reduceBEq, Nat.reduceBNe, ↓reduceIte, Int.reduceToNat, Int.reduceLT, Int.reduceLE, Int.reduceEq, Int.reduceAdd, Int.reduceSub, Int.reduceNeg, Int.reduceMul, reduceCtorEq, List.reduceReplicate, Nat.reduceGT, Int.reduceGT, Int.reduceGE, Int.reduceBEq, Int.natCast_zero, Int.natCast_one, Int.cast_ofNat_Int, List.range_zero, Nat.reduceMod, Nat.reduceLT, or_false, false_or, or_self]
  intro B7 hB7; simp only [none_set_iff] at hB7; have hB7s := hB7; simp only [ne_comm (a := B7)] at hB7s
  simp -implicitDefEqProofs only [go_sem, Nat.reduceAdd, Nat.reduceSub, Nat.reduceMul, Nat.reduceEqDiff, Nat.reduceLeDiff, Nat.reduceBEq, Nat.reduceBNe, ↓reduceIte, Int.reduceToNat, Int.reduceLT, Int.reduceLE, Int.reduceEq, Int.reduceAdd, Int.reduceSub, Int.reduceNeg, Int.reduceMul, reduceCtorEq, List.reduceReplicate, Nat.reduceGT, Int.reduceGT, Int.reduceGE, Int.reduceBEq, Int.natCast_zero, Int.natCast_one, Int.cast_ofNat_Int, List.range_zero, Nat.reduceMod, Nat.reduceLT, or_false, false_or, or_self, hk]
  refine ACall.less (R := (((S.set B4 (.var [.v (.slice none 0 0)] 31)).set B5 (.var [.v (.int .i64 0)] 3)).set B6 (.var [.v (.int .i64 0)] 27)).set B7 (rd toks s.length)) (by unfold rd; (first | (focus (repeat' (first | exact AS.le_refl _ | assumption | exact AS.del_le _ _ | refine AS.set_le_set ?_ | refine AS.del_skip ?_ | refine AS.del_del ?_ | refine AS.le_new ?_ (by simp [AS.set, AS.del, *]; done))); done) | (intro b' o' h'; simp only [AS.set, AS.del] at h' ⊢; (repeat' split at h') <;> (repeat' split) <;> simp_all))) ((hby B7 _ (by simp)).mono ?_)
  have hdel : ((((S.set B4 (.var [.v (.slice none 0 0)] 31)).set B5 (.var [.v (.int .i64 0)] 3)).set B6 (.var [.v (.int .i64 0)] 27)).set B7 (rd toks s.length)).del B7 = ((S.set B4 (.var [.v (.slice none 0 0)] 31)).set B5 (.var [.v (.int .i64 0)] 3)).set B6 (.var [.v (.int .i64 0)] 27) := del_set_new (by simp [AS.set, hB7])
  cases out with
  | ok bs =>
    rintro _ _ ⟨rfl, rfl⟩
    rw [hdel]
    simp -implicitDefEqProofs only [go_sem, Nat.reduceAdd, Nat.reduceSub, Nat.reduceMul, Nat.reduceEqDiff, Nat.reduceLeDiff, Nat.reduceBEq, Nat.reduceBNe, ↓reduceIte, Int.reduceToNat, Int.reduceLT, Int.reduceLE, Int.reduceEq, Int.reduceAdd, Int.reduceSub, Int.reduceNeg, Int.reduceMul, reduceCtorEq, List.reduceReplicate, Nat.reduceGT, Int.reduceGT, Int.reduceGE, Int.reduceBEq, Int.natCast_zero, Int.natCast_one, Int.cast_ofNat_Int, List.range_zero, Nat.reduceMod, Nat.reduceLT, or_false, false_or, or_self, hB4, hB5, hB6, hB5s, hB6s]
    refine (wrong_ok f bs none _ (hout bs rfl)).mono ?_
    rintro _ _ ⟨rfl, rfl⟩
    simp -implicitDefEqProofs only [go_sem, Nat.reduceAdd, Nat.reduceSub, Nat.reduceMul, Nat.reduceEqDiff, Nat.reduceLeDiff, Nat.reduceBEq, Nat.reduceBNe, ↓reduceIte, Int.reduceToNat, Int.reduceLT, Int.reduceLE, Int.reduceEq, Int.reduceAdd, Int.reduceSub, Int.reduceNeg, Int.reduceMul, reduceCtorEq, List.reduceReplicate, Nat.reduceGT, Int.reduceGT, Int.reduceGE, Int.reduceBEq, Int.natCast_zero, Int.natCast_one, Int.cast_ofNat_Int, List.range_zero, Nat.reduceMod, Nat.reduceLT, or_false, false_or, or_self, hB4, hB5, hB6, hB5s, hB6s]
    refine (read1_ret B4 B5 B6 _).mono ?_
    rintro _ _ ⟨rfl, rfl⟩
    refine ⟨rfl, ?_⟩
    unfold Go.Aw.Ends
    simp -implicitDefEqProofs only [go_sem, Nat.reduceAdd, Nat.reduceSub, Nat.reduceMul, Nat.reduceEqDiff, Nat.reduceLeDiff, Nat.reduceBEq, Nat.reduceBNe, ↓reduceIte, Int.reduceToNat, Int.reduceLT, Int.reduceLE, Int.reduceEq, Int.reduceAdd, Int.reduceSub, Int.reduceNeg, Int.reduceMul, reduceCtorEq, List.reduceReplicate, Nat.reduceGT, Int.reduceGT, Int.reduceGE, Int.reduceBEq, Int.natCast_zero, Int.natCast_one, Int.cast_ofNat_Int, List.range_zero, Nat.reduceMod, Nat.reduceLT, or_false, false_or, or_self, hB4, hB5, hB6, hB5s, hB6s]
    refine ⟨_, S, rfl, ?_, .inr ⟨?_, rfl⟩⟩
    · (first | (focus (repeat' (first | exact AS.le_refl _ | assumption | exact AS.del_le _ _ | refine AS.set_le_set ?_ | refine AS.del_skip ?_ | refine AS.del_del ?_ | refine AS.le_new ?_ (by simp [AS.set, AS.del, *]; done))); done) | (intro b' o' h'; simp only [AS.set, AS.del] at h' ⊢; (repeat' split at h') <;> (repeat' split) <;> simp_all))
    · simp [AV.shut, sealL, sealLL, sealBs, isNilSl, outV]
  | bad p x =>
    rintro _ _ ⟨rfl, rfl⟩
    rw [hdel]
    simp -implicitDefEqProofs only [go_sem, Nat.reduceAdd, Nat.reduceSub, Nat.reduceMul, Nat.reduceEqDiff, Nat.reduceLeDiff, Nat.reduceBEq, Nat.reduceBNe, ↓reduceIte, Int.reduceToNat, Int.reduceLT, Int.reduceLE, Int.reduceEq, Int.reduceAdd, Int.reduceSub, Int.reduceNeg, Int.reduceMul, reduceCtorEq, List.reduceReplicate, Nat.reduceGT, Int.reduceGT, Int.reduceGE, Int.reduceBEq, Int.natCast_zero, Int.natCast_one, Int.cast_ofNat_Int, List.range_zero, Nat.reduceMod, Nat.reduceLT, or_false, false_or, or_self, hB4, hB5, hB6, hB5s, hB6s]
    refine (read1_panic p x (.v (.slice none 0 0)) (.v (.int .i64 0)) (.v (.int .i64 0)) B4 B5 B6 _ (by simp [AS.set, hB5s, hB6s]) (by simp [AS.set, hB5s, hB6s]) (by simp [AS.set]) hB5s.1 hB6s.2.1 hB6s.1).mono ?_
    rintro _ _ ⟨rfl, rfl⟩
    refine ⟨rfl, ?_⟩
    unfold Go.Aw.Ends
    simp -implicitDefEqProofs only [go_sem, Nat.reduceAdd, Nat.reduceSub, Nat.reduceMul, Nat.reduceEqDiff, Nat.reduceLeDiff, Nat.reduceBEq, Nat.reduceBNe, ↓reduceIte, Int.reduceToNat, Int.reduceLT, Int.reduceLE, Int.reduceEq, Int.reduceAdd, Int.reduceSub, Int.reduceNeg, Int.reduceMul, reduceCtorEq, List.reduceReplicate, Nat.reduceGT, Int.reduceGT, Int.reduceGE, Int.reduceBEq, Int.natCast_zero, Int.natCast_one, Int.cast_ofNat_Int, List.range_zero, Nat.reduceMod, Nat.reduceLT, or_false, false_or, or_self, hB4, hB5, hB6, hB5s, hB6s]
    refine ⟨_, S, rfl, ?_, .inr ⟨?_, rfl⟩⟩
    · (first | (focus (repeat' (first | exact AS.le_refl _ | assumption | exact AS.del_le _ _ | refine AS.set_le_set ?_ | refine AS.del_skip ?_ | refine AS.del_del ?_ | refine AS.le_new ?_ (by simp [AS.set, AS.del, *]; done))); done) | (intro b' o' h'; simp only [AS.set, AS.del] at h' ⊢; (repeat' split at h') <;> (repeat' split) <;> simp_all))
    · simp [AV.shut, sealL, sealLL, sealBs, isNilSl, outV]
end Go.Proofs.YtedicdnflpjhkaaDoor
