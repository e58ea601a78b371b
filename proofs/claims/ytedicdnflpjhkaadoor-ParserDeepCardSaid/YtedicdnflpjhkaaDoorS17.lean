/- strconv.Itoa of one digit; syntax.bit; writer.put. No condition beyond the bounds named. -/
import Derived.Test.YtedicdnflpjhkaaDoorS16
set_option linter.unusedSimpArgs false
set_option linter.unusedVariables false
set_option maxRecDepth 100000
set_option maxHeartbeats 1000000
namespace Go.Proofs.YtedicdnflpjhkaaDoor
open Go.Aw
def digit (n : Nat) : List UInt8 := [UInt8.ofNat (48 + n)]
theorem small_ok (n : Nat) (S : AS) (h : n < 10) : ACall Tryd.prog 67 [.v (.int .i64 n)] S fun r T => r = .ret (.str (digit n)) ∧ T = S := by
  refine ACall.by_code Tryd.func67 rfl Tryd.ntmps67 rfl ?_
  have h1 : (n : Int) < 10 := by omega
  have w1 : IntKind.i64.wrap ((n : Int) + 1) = ((n + 1 : Nat) : Int) := wrap_eq (by omega) (by omega)
  have h2 : n ≤ n + 1 := by omega
  have h3 : n ≤ 35 := by omega
  simp -implicitDefEqProofs only [go_sem, Nat.reduceAdd, Nat.reduceSub, Nat.reduceMul, Nat.reduceEqDiff, Nat.reduceLeDiff, Nat.reduceBEq, Nat.reduceBNe, ↓reduceIte, Int.reduceToNat, Int.reduceLT, Int.reduceLE, Int.reduceEq, Int.reduceAdd, Int.reduceSub, Int.reduceNeg, Int.reduceMul, reduceCtorEq, List.reduceReplicate, Nat.reduceGT, Int.reduceGT, Int.reduceGE, Int.reduceBEq, Int.natCast_zero, Int.natCast_one, Int.cast_ofNat_Int, List.range_zero, Nat.reduceMod, Nat.reduceLT, or_false, false_or, or_self, decide_eq_true h1, w1, h2, h3]
  refine resK_mk (AS.le_refl _) ⟨?_, rfl⟩
  have : n = 0 ∨ n = 1 ∨ n = 2 ∨ n = 3 ∨ n = 4 ∨ n = 5 ∨ n = 6 ∨ n = 7 ∨ n = 8 ∨ n = 9 := by omega
  rcases this with rfl | rfl | rfl | rfl | rfl | rfl | rfl | rfl | rfl | rfl <;> rfl
theorem formatInt_ok (n : Nat) (S : AS) (h : n < 10) : ACall Tryd.prog 51 [.v (.int .i64 n), .v (.int .i64 10)] S fun r T => r = .ret (.str (digit n)) ∧ T = S := by
  refine ACall.by_code Tryd.func51 rfl Tryd.ntmps51 rfl ?_
  have h1 : (0 : Int) ≤ (n : Int) := by omega
  have h2 : (n : Int) < 100 := by omega
  simp -implicitDefEqProofs only [go_sem, Nat.reduceAdd, Nat.reduceSub, Nat.reduceMul, Nat.reduceEqDiff, Nat.reduceLeDiff, Nat.reduceBEq, Nat.reduceBNe, ↓reduceIte, Int.reduceToNat, Int.reduceLT, Int.reduceLE, Int.reduceEq, Int.reduceAdd, Int.reduceSub, Int.reduceNeg, Int.reduceMul, reduceCtorEq, List.reduceReplicate, Nat.reduceGT, Int.reduceGT, Int.reduceGE, Int.reduceBEq, Int.natCast_zero, Int.natCast_one, Int.cast_ofNat_Int, List.range_zero, Nat.reduceMod, Nat.reduceLT, or_false, false_or, or_self, decide_eq_true h1, decide_eq_true h2]
  refine (small_ok n S h).mono ?_
  rintro _ _ ⟨rfl, rfl⟩
  simp -implicitDefEqProofs only [go_sem, Nat.reduceAdd, Nat.reduceSub, Nat.reduceMul, Nat.reduceEqDiff, Nat.reduceLeDiff, Nat.reduceBEq, Nat.reduceBNe, ↓reduceIte, Int.reduceToNat, Int.reduceLT, Int.reduceLE, Int.reduceEq, Int.reduceAdd, Int.reduceSub, Int.reduceNeg, Int.reduceMul, reduceCtorEq, List.reduceReplicate, Nat.reduceGT, Int.reduceGT, Int.reduceGE, Int.reduceBEq, Int.natCast_zero, Int.natCast_one, Int.cast_ofNat_Int, List.range_zero, Nat.reduceMod, Nat.reduceLT, or_false, false_or, or_self]
  exact resK_mk (AS.le_refl _) ⟨rfl, rfl⟩
theorem itoa32_ok (n : Nat) (S : AS) (h : n < 10) : ACall Tryd.prog 32 [.v (.int .i64 n)] S fun r T => r = .ret (.str (digit n)) ∧ T = S := by
  refine ACall.by_code Tryd.func32 rfl Tryd.ntmps32 rfl ?_
  simp -implicitDefEqProofs only [go_sem, Nat.reduceAdd, Nat.reduceSub, Nat.reduceMul, Nat.reduceEqDiff, Nat.reduceLeDiff, Nat.reduceBEq, Nat.reduceBNe, ↓reduceIte, Int.reduceToNat, Int.reduceLT, Int.reduceLE, Int.reduceEq, Int.reduceAdd, Int.reduceSub, Int.reduceNeg, Int.reduceMul, reduceCtorEq, List.reduceReplicate, Nat.reduceGT, Int.reduceGT, Int.reduceGE, Int.reduceBEq, Int.natCast_zero, Int.natCast_one, Int.cast_ofNat_Int, List.range_zero, Nat.reduceMod, Nat.reduceLT, or_false, false_or, or_self]
  refine (formatInt_ok n S h).mono ?_
  rintro _ _ ⟨rfl, rfl⟩
  simp -implicitDefEqProofs only [go_sem, Nat.reduceAdd, Nat.reduceSub, Nat.reduceMul, Nat.reduceEqDiff, Nat.reduceLeDiff, Nat.reduceBEq, Nat.reduceBNe, ↓reduceIte, Int.reduceToNat, Int.reduceLT, Int.reduceLE, Int.reduceEq, Int.reduceAdd, Int.reduceSub, Int.reduceNeg, Int.reduceMul, reduceCtorEq, List.reduceReplicate, Nat.reduceGT, Int.reduceGT, Int.reduceGE, Int.reduceBEq, Int.natCast_zero, Int.natCast_one, Int.cast_ofNat_Int, List.range_zero, Nat.reduceMod, Nat.reduceLT, or_false, false_or, or_self]
  exact resK_mk (AS.le_refl _) ⟨rfl, rfl⟩
theorem itoa_ok (n : Nat) (S : AS) (h : n < 10) : ACall Tryd.prog 16 [.v (.int .i64 n)] S fun r T => r = .ret (.str (digit n)) ∧ T = S := by
  refine ACall.by_code Tryd.func16 rfl Tryd.ntmps16 rfl ?_
  simp -implicitDefEqProofs only [go_sem, Nat.reduceAdd, Nat.reduceSub, Nat.reduceMul, Nat.reduceEqDiff, Nat.reduceLeDiff, Nat.reduceBEq, Nat.reduceBNe, ↓reduceIte, Int.reduceToNat, Int.reduceLT, Int.reduceLE, Int.reduceEq, Int.reduceAdd, Int.reduceSub, Int.reduceNeg, Int.reduceMul, reduceCtorEq, List.reduceReplicate, Nat.reduceGT, Int.reduceGT, Int.reduceGE, Int.reduceBEq, Int.natCast_zero, Int.natCast_one, Int.cast_ofNat_Int, List.range_zero, Nat.reduceMod, Nat.reduceLT, or_false, false_or, or_self]
  refine (itoa32_ok n S h).mono ?_
  rintro _ _ ⟨rfl, rfl⟩
  simp -implicitDefEqProofs only [go_sem, Nat.reduceAdd, Nat.reduceSub, Nat.reduceMul, Nat.reduceEqDiff, Nat.reduceLeDiff, Nat.reduceBEq, Nat.reduceBNe, ↓reduceIte, Int.reduceToNat, Int.reduceLT, Int.reduceLE, Int.reduceEq, Int.reduceAdd, Int.reduceSub, Int.reduceNeg, Int.reduceMul, reduceCtorEq, List.reduceReplicate, Nat.reduceGT, Int.reduceGT, Int.reduceGE, Int.reduceBEq, Int.natCast_zero, Int.natCast_one, Int.cast_ofNat_Int, List.range_zero, Nat.reduceMod, Nat.reduceLT, or_false, false_or, or_self]
  exact resK_mk (AS.le_refl _) ⟨rfl, rfl⟩
theorem expr1d_ok (n : Nat) (S : AS) (h : n < 10) : ACall Tryd.prog 33 [.v (.int .i64 n)] S fun r T => r = .ret (.str (digit n)) ∧ T = S := by
  refine ACall.by_code Tryd.func33 rfl Tryd.ntmps33 rfl ?_
  simp -implicitDefEqProofs only [go_sem, Nat.reduceAdd, Nat.reduceSub, Nat.reduceMul, Nat.reduceEqDiff, Nat.reduceLeDiff, Nat.reduceBEq, Nat.reduceBNe, ↓reduceIte, Int.reduceToNat, Int.reduceLT, Int.reduceLE, Int.reduceEq, Int.reduceAdd, Int.reduceSub, Int.reduceNeg, Int.reduceMul, reduceCtorEq, List.reduceReplicate, Nat.reduceGT, Int.reduceGT, Int.reduceGE, Int.reduceBEq, Int.natCast_zero, Int.natCast_one, Int.cast_ofNat_Int, List.range_zero, Nat.reduceMod, Nat.reduceLT, or_false, false_or, or_self]
  refine (itoa_ok n S h).mono ?_
  rintro _ _ ⟨rfl, rfl⟩
  simp -implicitDefEqProofs only [go_sem, Nat.reduceAdd, Nat.reduceSub, Nat.reduceMul, Nat.reduceEqDiff, Nat.reduceLeDiff, Nat.reduceBEq, Nat.reduceBNe, ↓reduceIte, Int.reduceToNat, Int.reduceLT, Int.reduceLE, Int.reduceEq, Int.reduceAdd, Int.reduceSub, Int.reduceNeg, Int.reduceMul, reduceCtorEq, List.reduceReplicate, Nat.reduceGT, Int.reduceGT, Int.reduceGE, Int.reduceBEq, Int.natCast_zero, Int.natCast_one, Int.cast_ofNat_Int, List.range_zero, Nat.reduceMod, Nat.reduceLT, or_false, false_or, or_self]
  exact resK_mk (AS.le_refl _) ⟨rfl, rfl⟩
theorem bit_ok (b : Bool) (S : AS) : ACall Tryd.prog 34 [.v (.bool b)] S fun r T => r = .ret (.v (.int .i64 (if b then 1 else 0))) ∧ T = S := by
  refine ACall.by_code Tryd.func34 rfl Tryd.ntmps34 rfl ?_
  cases b
  · simp -implicitDefEqProofs only [go_sem, Nat.reduceAdd, Nat.reduceSub, Nat.reduceMul, Nat.reduceEqDiff, Nat.reduceLeDiff, Nat.reduceBEq, Nat.reduceBNe, ↓reduceIte, Int.reduceToNat, Int.reduceLT, Int.reduceLE, Int.reduceEq, Int.reduceAdd, Int.reduceSub, Int.reduceNeg, Int.reduceMul, reduceCtorEq, List.reduceReplicate, Nat.reduceGT, Int.reduceGT, Int.reduceGE, Int.reduceBEq, Int.natCast_zero, Int.natCast_one, Int.cast_ofNat_Int, List.range_zero, Nat.reduceMod, Nat.reduceLT, or_false, false_or, or_self]
    exact resK_mk (AS.le_refl _) ⟨rfl, rfl⟩
  · simp -implicitDefEqProofs only [go_sem, Nat.reduceAdd, Nat.reduceSub, Nat.reduceMul, Nat.reduceEqDiff, Nat.reduceLeDiff, Nat.reduceBEq, Nat.reduceBNe, ↓reduceIte, Int.reduceToNat, Int.reduceLT, Int.reduceLE, Int.reduceEq, Int.reduceAdd, Int.reduceSub, Int.reduceNeg, Int.reduceMul, reduceCtorEq, List.reduceReplicate, Nat.reduceGT, Int.reduceGT, Int.reduceGE, Int.reduceBEq, Int.natCast_zero, Int.natCast_one, Int.cast_ofNat_Int, List.range_zero, Nat.reduceMod, Nat.reduceLT, or_false, false_or, or_self]
    exact resK_mk (AS.le_refl _) ⟨rfl, rfl⟩
theorem put_ok (R : AS) (B : Nat) (l : List UInt8) (ss : List (List UInt8)) (own : Option (Nat × Nat)) (S : AS) (h : WrT R B l S) (hss : ∀ s ∈ ss, s ≠ []) (hl : l.length + ss.flatten.length ≤ 1000000) (hn : ss.length ≤ 1000) :
    ACall Tryd.prog 15 [.ptr B 0, .sl (ss.map encS) own] S fun r T => r = .ret (.tup []) ∧ WrT R B (l ++ ss.flatten) T := by
  refine ACall.by_code Tryd.func15 rfl Tryd.ntmps15 rfl ?_
  simp -implicitDefEqProofs only [go_sem, Nat.reduceAdd, Nat.reduceSub, Nat.reduceMul, Nat.reduceEqDiff, Nat.reduceLeDiff, Nat.reduceBEq, Nat.reduceBNe, ↓reduceIte, Int.reduceToNat, Int.reduceLT, Int.reduceLE, Int.reduceEq, Int.reduceAdd, Int.reduceSub, Int.reduceNeg, Int.reduceMul, reduceCtorEq, List.reduceReplicate, Nat.reduceGT, Int.reduceGT, Int.reduceGE, Int.reduceBEq, Int.natCast_zero, Int.natCast_one, Int.cast_ofNat_Int, List.range_zero, Nat.reduceMod, Nat.reduceLT, or_false, false_or, or_self]
  refine AWp.loop (fun n a T => ∃ i : Nat, i + n = ss.length ∧ WrT R B (l ++ (ss.take i).flatten) T ∧ ∃ j2 j3 j4 j5 j9 j10 j11 j12 j13 j14 j15 j16 j17 : AV, a = ⟨[.ptr B 0, .sl (ss.map encS) own, j2, j3, j4, j5, .sl (ss.map encS) own, int ss.length, int i, j9, j10, j11, j12, j13, j14, j15, j16, j17]⟩) ss.length ?_ ?_
  · exact ⟨0, by omega, by simpa using h, ⟨_, _, _, _, _, _, _, _, _, _, _, _, _, rfl⟩⟩
  · rintro n a T ⟨i, hi, hT, ⟨j2, j3, j4, j5, j9, j10, j11, j12, j13, j14, j15, j16, j17, rfl⟩⟩
    refine WC.sound _ _ _ _ ?_
    simp -implicitDefEqProofs only [go_sem, Nat.reduceAdd, Nat.reduceSub, Nat.reduceMul, Nat.reduceEqDiff, Nat.reduceLeDiff, Nat.reduceBEq, Nat.reduceBNe, ↓reduceIte, Int.reduceToNat, Int.reduceLT, Int.reduceLE, Int.reduceEq, Int.reduceAdd, Int.reduceSub, Int.reduceNeg, Int.reduceMul, reduceCtorEq, List.reduceReplicate, Nat.reduceGT, Int.reduceGT, Int.reduceGE, Int.reduceBEq, Int.natCast_zero, Int.natCast_one, Int.cast_ofNat_Int, List.range_zero, Nat.reduceMod, Nat.reduceLT, or_false, false_or, or_self, int]
    refine condK_split (fun h => ?_) (fun h => ?_)
    · have hlt : i < ss.length := by simpa using h
      have hg : ss[i]? = some ss[i] := List.getElem?_eq_getElem hlt
      have w1 : IntKind.i64.wrap ((i : Int) + 1) = ((i + 1 : Nat) : Int) := wrap_eq (by omega) (by omega)
      have hsplit : ss.flatten = (ss.take i).flatten ++ (ss[i] ++ (ss.drop (i + 1)).flatten) := by
        have : ss = ss.take i ++ ss[i] :: ss.drop (i + 1) := by rw [← List.drop_eq_getElem_cons hlt, List.take_append_drop]
        have h2 := congrArg List.flatten this
        rw [List.flatten_append, List.flatten_cons] at h2
        exact h2
      have hlen : (l ++ (ss.take i).flatten).length + ss[i].length ≤ 1000000 := by
        rw [hsplit] at hl; simp only [List.length_append] at hl ⊢; omega
      simp -implicitDefEqProofs only [go_sem, Nat.reduceAdd, Nat.reduceSub, Nat.reduceMul, Nat.reduceEqDiff, Nat.reduceLeDiff, Nat.reduceBEq, Nat.reduceBNe, ↓reduceIte, Int.reduceToNat, Int.reduceLT, Int.reduceLE, Int.reduceEq, Int.reduceAdd, Int.reduceSub, Int.reduceNeg, Int.reduceMul, reduceCtorEq, List.reduceReplicate, Nat.reduceGT, Int.reduceGT, Int.reduceGE, Int.reduceBEq, Int.natCast_zero, Int.natCast_one, Int.cast_ofNat_Int, List.range_zero, Nat.reduceMod, Nat.reduceLT, or_false, false_or, or_self, hg, encS]
      refine (writeString_ok R B _ ss[i] T hT (hss _ (List.getElem_mem _)) hlen).mono ?_
      rintro _ T' ⟨rfl, hT'⟩
      simp -implicitDefEqProofs only [go_sem, Nat.reduceAdd, Nat.reduceSub, Nat.reduceMul, Nat.reduceEqDiff, Nat.reduceLeDiff, Nat.reduceBEq, Nat.reduceBNe, ↓reduceIte, Int.reduceToNat, Int.reduceLT, Int.reduceLE, Int.reduceEq, Int.reduceAdd, Int.reduceSub, Int.reduceNeg, Int.reduceMul, reduceCtorEq, List.reduceReplicate, Nat.reduceGT, Int.reduceGT, Int.reduceGE, Int.reduceBEq, Int.natCast_zero, Int.natCast_one, Int.cast_ofNat_Int, List.range_zero, Nat.reduceMod, Nat.reduceLT, or_false, false_or, or_self, w1, int]
      refine ⟨n - 1, by omega, i + 1, by omega, ?_, ⟨_, _, _, _, _, _, _, _, _, _, _, _, _, rfl⟩⟩
      rw [List.take_succ_eq_append_getElem hlt, List.flatten_append, ← List.append_assoc]
      simpa using hT'
    · simp -implicitDefEqProofs only [go_sem, Nat.reduceAdd, Nat.reduceSub, Nat.reduceMul, Nat.reduceEqDiff, Nat.reduceLeDiff, Nat.reduceBEq, Nat.reduceBNe, ↓reduceIte, Int.reduceToNat, Int.reduceLT, Int.reduceLE, Int.reduceEq, Int.reduceAdd, Int.reduceSub, Int.reduceNeg, Int.reduceMul, reduceCtorEq, List.reduceReplicate, Nat.reduceGT, Int.reduceGT, Int.reduceGE, Int.reduceBEq, Int.natCast_zero, Int.natCast_one, Int.cast_ofNat_Int, List.range_zero, Nat.reduceMod, Nat.reduceLT, or_false, false_or, or_self]
      have hge : ¬ i < ss.length := by simpa using h
      rw [List.take_of_length_le (by omega)] at hT
      exact resK_mk (AS.le_refl _) ⟨rfl, hT⟩
end Go.Proofs.YtedicdnflpjhkaaDoor
