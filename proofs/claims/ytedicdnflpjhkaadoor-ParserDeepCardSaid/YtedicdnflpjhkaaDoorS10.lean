/- parser.some, parser.wrong, syntax.Good of programs without totals in which nothing is wrong. No condition beyond the bounds named. -/
import Derived.Test.YtedicdnflpjhkaaDoorS9
set_option linter.unusedSimpArgs false
set_option linter.unusedVariables false
set_option maxRecDepth 100000
set_option maxHeartbeats 1000000
namespace Go.Proofs.YtedicdnflpjhkaaDoor
open Go.Aw
theorem index72_ok (l : List (Nat × Ex)) (own : Option (Nat × Nat)) (g : FuncId) (cap : List AV) (S : AS) (hl : l.length ≤ 1000000) (hk : okF Tryd.prog g = true) (hF : ∀ x ∈ l, ∀ S', S.le S' → ACall Tryd.prog g (.agg (encB x) :: cap) S' fun r T => r = .ret (.v (.bool false)) ∧ T = S') :
    ACall Tryd.prog 72 [.sl (l.map encB) own, .fn (.func g) cap] S fun r T => r = .ret (.v (.int .i64 (-1))) ∧ T = S := by
  refine ACall.by_code Tryd.func72 rfl Tryd.ntmps72 rfl ?_
  simp -implicitDefEqProofs only [go_sem, Nat.reduceAdd, Nat.reduceSub, Nat.reduceMul, Nat.reduceEqDiff, Nat.reduceLeDiff, Nat.reduceBEq, Nat.reduceBNe, ↓reduceIte, Int.reduceToNat, Int.reduceLT, Int.reduceLE, Int.reduceEq, Int.reduceAdd, Int.reduceSub, Int.reduceNeg, Int.reduceMul, reduceCtorEq, List.reduceReplicate, Nat.reduceGT, Int.reduceGT, Int.reduceGE, Int.reduceBEq, Int.natCast_zero, Int.natCast_one, Int.cast_ofNat_Int, List.range_zero, Nat.reduceMod, Nat.reduceLT, or_false, false_or, or_self]
  refine AWp.loop (fun n a T => ∃ i : Nat, i + n = l.length ∧ T = S ∧ ∃ j2 j3 j4 j5 j6 j9 j10 j11 j12 j13 j14 j15 j16 j17 j18 : AV, a = ⟨[.sl (l.map encB) own, .fn (.func g) cap, j2, j3, j4, j5, j6, int l.length, int i, j9, j10, j11, j12, j13, j14, j15, j16, j17, j18]⟩) l.length ?_ ?_
  · exact ⟨0, by omega, rfl, ⟨_, _, _, _, _, _, _, _, _, _, _, _, _, _, _, rfl⟩⟩
  · rintro n a T ⟨i, hi, rfl, ⟨j2, j3, j4, j5, j6, j9, j10, j11, j12, j13, j14, j15, j16, j17, j18, rfl⟩⟩
    refine WC.sound _ _ _ _ ?_
    simp -implicitDefEqProofs only [go_sem, Nat.reduceAdd, Nat.reduceSub, Nat.reduceMul, Nat.reduceEqDiff, Nat.reduceLeDiff, Nat.reduceBEq, Nat.reduceBNe, ↓reduceIte, Int.reduceToNat, Int.reduceLT, Int.reduceLE, Int.reduceEq, Int.reduceAdd, Int.reduceSub, Int.reduceNeg, Int.reduceMul, reduceCtorEq, List.reduceReplicate, Nat.reduceGT, Int.reduceGT, Int.reduceGE, Int.reduceBEq, Int.natCast_zero, Int.natCast_one, Int.cast_ofNat_Int, List.range_zero, Nat.reduceMod, Nat.reduceLT, or_false, false_or, or_self, int]
    refine condK_split (fun h => ?_) (fun h => ?_)
    · have hlt : i < l.length := by simpa using h
      have hg : l[i]? = some l[i] := List.getElem?_eq_getElem hlt
      have w1 : IntKind.i64.wrap ((i : Int) + 1) = ((i + 1 : Nat) : Int) := wrap_eq (by omega) (by omega)
      simp -implicitDefEqProofs only [go_sem, Nat.reduceAdd, Nat.reduceSub, Nat.reduceMul, Nat.reduceEqDiff, Nat.reduceLeDiff, Nat.reduceBEq, Nat.reduceBNe, ↓reduceIte, Int.reduceToNat, Int.reduceLT, Int.reduceLE, Int.reduceEq, Int.reduceAdd, Int.reduceSub, Int.reduceNeg, Int.reduceMul, reduceCtorEq, List.reduceReplicate, Nat.reduceGT, Int.reduceGT, Int.reduceGE, Int.reduceBEq, Int.natCast_zero, Int.natCast_one, Int.cast_ofNat_Int, List.range_zero, Nat.reduceMod, Nat.reduceLT, or_false, false_or, or_self, hg, encB_length, encB_take6]
      simp -implicitDefEqProofs only [go_sem, Nat.reduceAdd, Nat.reduceSub, Nat.reduceMul, Nat.reduceEqDiff, Nat.reduceLeDiff, Nat.reduceBEq, Nat.reduceBNe, ↓reduceIte, Int.reduceToNat, Int.reduceLT, Int.reduceLE, Int.reduceEq, Int.reduceAdd, Int.reduceSub, Int.reduceNeg, Int.reduceMul, reduceCtorEq, List.reduceReplicate, Nat.reduceGT, Int.reduceGT, Int.reduceGE, Int.reduceBEq, Int.natCast_zero, Int.natCast_one, Int.cast_ofNat_Int, List.range_zero, Nat.reduceMod, Nat.reduceLT, or_false, false_or, or_self, hk]
      refine (hF l[i] (List.getElem_mem _) _ (AS.le_refl _)).mono ?_
      rintro _ _ ⟨rfl, rfl⟩
      simp -implicitDefEqProofs only [go_sem, Nat.reduceAdd, Nat.reduceSub, Nat.reduceMul, Nat.reduceEqDiff, Nat.reduceLeDiff, Nat.reduceBEq, Nat.reduceBNe, ↓reduceIte, Int.reduceToNat, Int.reduceLT, Int.reduceLE, Int.reduceEq, Int.reduceAdd, Int.reduceSub, Int.reduceNeg, Int.reduceMul, reduceCtorEq, List.reduceReplicate, Nat.reduceGT, Int.reduceGT, Int.reduceGE, Int.reduceBEq, Int.natCast_zero, Int.natCast_one, Int.cast_ofNat_Int, List.range_zero, Nat.reduceMod, Nat.reduceLT, or_false, false_or, or_self, w1, int]
      exact ⟨n - 1, by omega, i + 1, by omega, ⟨_, _, _, _, _, _, _, _, _, _, _, _, _, _, _, rfl⟩⟩
    · simp -implicitDefEqProofs only [go_sem, Nat.reduceAdd, Nat.reduceSub, Nat.reduceMul, Nat.reduceEqDiff, Nat.reduceLeDiff, Nat.reduceBEq, Nat.reduceBNe, ↓reduceIte, Int.reduceToNat, Int.reduceLT, Int.reduceLE, Int.reduceEq, Int.reduceAdd, Int.reduceSub, Int.reduceNeg, Int.reduceMul, reduceCtorEq, List.reduceReplicate, Nat.reduceGT, Int.reduceGT, Int.reduceGE, Int.reduceBEq, Int.natCast_zero, Int.natCast_one, Int.cast_ofNat_Int, List.range_zero, Nat.reduceMod, Nat.reduceLT, or_false, false_or, or_self]
      exact resK_mk (AS.le_refl _) ⟨rfl, rfl⟩
theorem contains53_ok (l : List (Nat × Ex)) (own : Option (Nat × Nat)) (g : FuncId) (cap : List AV) (S : AS) (hl : l.length ≤ 1000000) (hk : okF Tryd.prog g = true) (hF : ∀ x ∈ l, ∀ S', S.le S' → ACall Tryd.prog g (.agg (encB x) :: cap) S' fun r T => r = .ret (.v (.bool false)) ∧ T = S') :
    ACall Tryd.prog 53 [.sl (l.map encB) own, .fn (.func g) cap] S fun r T => r = .ret (.v (.bool false)) ∧ T = S := by
  refine ACall.by_code Tryd.func53 rfl Tryd.ntmps53 rfl ?_
  simp -implicitDefEqProofs only [go_sem, Nat.reduceAdd, Nat.reduceSub, Nat.reduceMul, Nat.reduceEqDiff, Nat.reduceLeDiff, Nat.reduceBEq, Nat.reduceBNe, ↓reduceIte, Int.reduceToNat, Int.reduceLT, Int.reduceLE, Int.reduceEq, Int.reduceAdd, Int.reduceSub, Int.reduceNeg, Int.reduceMul, reduceCtorEq, List.reduceReplicate, Nat.reduceGT, Int.reduceGT, Int.reduceGE, Int.reduceBEq, Int.natCast_zero, Int.natCast_one, Int.cast_ofNat_Int, List.range_zero, Nat.reduceMod, Nat.reduceLT, or_false, false_or, or_self]
  refine (index72_ok l own g cap S hl hk hF).mono ?_
  rintro _ _ ⟨rfl, rfl⟩
  simp -implicitDefEqProofs only [go_sem, Nat.reduceAdd, Nat.reduceSub, Nat.reduceMul, Nat.reduceEqDiff, Nat.reduceLeDiff, Nat.reduceBEq, Nat.reduceBNe, ↓reduceIte, Int.reduceToNat, Int.reduceLT, Int.reduceLE, Int.reduceEq, Int.reduceAdd, Int.reduceSub, Int.reduceNeg, Int.reduceMul, reduceCtorEq, List.reduceReplicate, Nat.reduceGT, Int.reduceGT, Int.reduceGE, Int.reduceBEq, Int.natCast_zero, Int.natCast_one, Int.cast_ofNat_Int, List.range_zero, Nat.reduceMod, Nat.reduceLT, or_false, false_or, or_self]
  exact resK_mk (AS.le_refl _) ⟨rfl, rfl⟩
theorem index78_ok (l : List Ex) (own : Option (Nat × Nat)) (g : FuncId) (cap : List AV) (S : AS) (hl : l.length ≤ 1000000) (hk : okF Tryd.prog g = true) (hF : ∀ x ∈ l, ∀ S', S.le S' → ACall Tryd.prog g (.agg (encE x) :: cap) S' fun r T => r = .ret (.v (.bool false)) ∧ T = S') :
    ACall Tryd.prog 78 [.sl (l.map encE) own, .fn (.func g) cap] S fun r T => r = .ret (.v (.int .i64 (-1))) ∧ T = S := by
  refine ACall.by_code Tryd.func78 rfl Tryd.ntmps78 rfl ?_
  simp -implicitDefEqProofs only [go_sem, Nat.reduceAdd, Nat.reduceSub, Nat.reduceMul, Nat.reduceEqDiff, Nat.reduceLeDiff, Nat.reduceBEq, Nat.reduceBNe, ↓reduceIte, Int.reduceToNat, Int.reduceLT, Int.reduceLE, Int.reduceEq, Int.reduceAdd, Int.reduceSub, Int.reduceNeg, Int.reduceMul, reduceCtorEq, List.reduceReplicate, Nat.reduceGT, Int.reduceGT, Int.reduceGE, Int.reduceBEq, Int.natCast_zero, Int.natCast_one, Int.cast_ofNat_Int, List.range_zero, Nat.reduceMod, Nat.reduceLT, or_false, false_or, or_self]
  refine AWp.loop (fun n a T => ∃ i : Nat, i + n = l.length ∧ T = S ∧ ∃ j2 j3 j4 j5 j6 j9 j10 j11 j12 j13 j14 j15 j16 j17 j18 : AV, a = ⟨[.sl (l.map encE) own, .fn (.func g) cap, j2, j3, j4, j5, j6, int l.length, int i, j9, j10, j11, j12, j13, j14, j15, j16, j17, j18]⟩) l.length ?_ ?_
  · exact ⟨0, by omega, rfl, ⟨_, _, _, _, _, _, _, _, _, _, _, _, _, _, _, rfl⟩⟩
  · rintro n a T ⟨i, hi, rfl, ⟨j2, j3, j4, j5, j6, j9, j10, j11, j12, j13, j14, j15, j16, j17, j18, rfl⟩⟩
    refine WC.sound _ _ _ _ ?_
    simp -implicitDefEqProofs only [go_sem, Nat.reduceAdd, Nat.reduceSub, Nat.reduceMul, Nat.reduceEqDiff, Nat.reduceLeDiff, Nat.reduceBEq, Nat.reduceBNe, ↓reduceIte, Int.reduceToNat, Int.reduceLT, Int.reduceLE, Int.reduceEq, Int.reduceAdd, Int.reduceSub, Int.reduceNeg, Int.reduceMul, reduceCtorEq, List.reduceReplicate, Nat.reduceGT, Int.reduceGT, Int.reduceGE, Int.reduceBEq, Int.natCast_zero, Int.natCast_one, Int.cast_ofNat_Int, List.range_zero, Nat.reduceMod, Nat.reduceLT, or_false, false_or, or_self, int]
    refine condK_split (fun h => ?_) (fun h => ?_)
    · have hlt : i < l.length := by simpa using h
      have hg : l[i]? = some l[i] := List.getElem?_eq_getElem hlt
      have w1 : IntKind.i64.wrap ((i : Int) + 1) = ((i + 1 : Nat) : Int) := wrap_eq (by omega) (by omega)
      simp -implicitDefEqProofs only [go_sem, Nat.reduceAdd, Nat.reduceSub, Nat.reduceMul, Nat.reduceEqDiff, Nat.reduceLeDiff, Nat.reduceBEq, Nat.reduceBNe, ↓reduceIte, Int.reduceToNat, Int.reduceLT, Int.reduceLE, Int.reduceEq, Int.reduceAdd, Int.reduceSub, Int.reduceNeg, Int.reduceMul, reduceCtorEq, List.reduceReplicate, Nat.reduceGT, Int.reduceGT, Int.reduceGE, Int.reduceBEq, Int.natCast_zero, Int.natCast_one, Int.cast_ofNat_Int, List.range_zero, Nat.reduceMod, Nat.reduceLT, or_false, false_or, or_self, hg, encE_length, encE_take]
      simp -implicitDefEqProofs only [go_sem, Nat.reduceAdd, Nat.reduceSub, Nat.reduceMul, Nat.reduceEqDiff, Nat.reduceLeDiff, Nat.reduceBEq, Nat.reduceBNe, ↓reduceIte, Int.reduceToNat, Int.reduceLT, Int.reduceLE, Int.reduceEq, Int.reduceAdd, Int.reduceSub, Int.reduceNeg, Int.reduceMul, reduceCtorEq, List.reduceReplicate, Nat.reduceGT, Int.reduceGT, Int.reduceGE, Int.reduceBEq, Int.natCast_zero, Int.natCast_one, Int.cast_ofNat_Int, List.range_zero, Nat.reduceMod, Nat.reduceLT, or_false, false_or, or_self, hk]
      refine (hF l[i] (List.getElem_mem _) _ (AS.le_refl _)).mono ?_
      rintro _ _ ⟨rfl, rfl⟩
      simp -implicitDefEqProofs only [go_sem, Nat.reduceAdd, Nat.reduceSub, Nat.reduceMul, Nat.reduceEqDiff, Nat.reduceLeDiff, Nat.reduceBEq, Nat.reduceBNe, ↓reduceIte, Int.reduceToNat, Int.reduceLT, Int.reduceLE, Int.reduceEq, Int.reduceAdd, Int.reduceSub, Int.reduceNeg, Int.reduceMul, reduceCtorEq, List.reduceReplicate, Nat.reduceGT, Int.reduceGT, Int.reduceGE, Int.reduceBEq, Int.natCast_zero, Int.natCast_one, Int.cast_ofNat_Int, List.range_zero, Nat.reduceMod, Nat.reduceLT, or_false, false_or, or_self, w1, int]
      exact ⟨n - 1, by omega, i + 1, by omega, ⟨_, _, _, _, _, _, _, _, _, _, _, _, _, _, _, rfl⟩⟩
    · simp -implicitDefEqProofs only [go_sem, Nat.reduceAdd, Nat.reduceSub, Nat.reduceMul, Nat.reduceEqDiff, Nat.reduceLeDiff, Nat.reduceBEq, Nat.reduceBNe, ↓reduceIte, Int.reduceToNat, Int.reduceLT, Int.reduceLE, Int.reduceEq, Int.reduceAdd, Int.reduceSub, Int.reduceNeg, Int.reduceMul, reduceCtorEq, List.reduceReplicate, Nat.reduceGT, Int.reduceGT, Int.reduceGE, Int.reduceBEq, Int.natCast_zero, Int.natCast_one, Int.cast_ofNat_Int, List.range_zero, Nat.reduceMod, Nat.reduceLT, or_false, false_or, or_self]
      exact resK_mk (AS.le_refl _) ⟨rfl, rfl⟩
theorem contains65_ok (l : List Ex) (own : Option (Nat × Nat)) (g : FuncId) (cap : List AV) (S : AS) (hl : l.length ≤ 1000000) (hk : okF Tryd.prog g = true) (hF : ∀ x ∈ l, ∀ S', S.le S' → ACall Tryd.prog g (.agg (encE x) :: cap) S' fun r T => r = .ret (.v (.bool false)) ∧ T = S') :
    ACall Tryd.prog 65 [.sl (l.map encE) own, .fn (.func g) cap] S fun r T => r = .ret (.v (.bool false)) ∧ T = S := by
  refine ACall.by_code Tryd.func65 rfl Tryd.ntmps65 rfl ?_
  simp -implicitDefEqProofs only [go_sem, Nat.reduceAdd, Nat.reduceSub, Nat.reduceMul, Nat.reduceEqDiff, Nat.reduceLeDiff, Nat.reduceBEq, Nat.reduceBNe, ↓reduceIte, Int.reduceToNat, Int.reduceLT, Int.reduceLE, Int.reduceEq, Int.reduceAdd, Int.reduceSub, Int.reduceNeg, Int.reduceMul, reduceCtorEq, List.reduceReplicate, Nat.reduceGT, Int.reduceGT, Int.reduceGE, Int.reduceBEq, Int.natCast_zero, Int.natCast_one, Int.cast_ofNat_Int, List.range_zero, Nat.reduceMod, Nat.reduceLT, or_false, false_or, or_self]
  refine (index78_ok l own g cap S hl hk hF).mono ?_
  rintro _ _ ⟨rfl, rfl⟩
  simp -implicitDefEqProofs only [go_sem, Nat.reduceAdd, Nat.reduceSub, Nat.reduceMul, Nat.reduceEqDiff, Nat.reduceLeDiff, Nat.reduceBEq, Nat.reduceBNe, ↓reduceIte, Int.reduceToNat, Int.reduceLT, Int.reduceLE, Int.reduceEq, Int.reduceAdd, Int.reduceSub, Int.reduceNeg, Int.reduceMul, reduceCtorEq, List.reduceReplicate, Nat.reduceGT, Int.reduceGT, Int.reduceGE, Int.reduceBEq, Int.natCast_zero, Int.natCast_one, Int.cast_ofNat_Int, List.range_zero, Nat.reduceMod, Nat.reduceLT, or_false, false_or, or_self]
  exact resK_mk (AS.le_refl _) ⟨rfl, rfl⟩
theorem boxed_ok (n : Int) (S : AS) (h : 1 ≤ n ∧ n ≤ 9999) : ACall Tryd.prog 29 [.v (.int .i64 n)] S fun r T => r = .ret (.v (.bool true)) ∧ T = S := by
  refine ACall.by_code Tryd.func29 rfl Tryd.ntmps29 rfl ?_
  simp -implicitDefEqProofs only [go_sem, Nat.reduceAdd, Nat.reduceSub, Nat.reduceMul, Nat.reduceEqDiff, Nat.reduceLeDiff, Nat.reduceBEq, Nat.reduceBNe, ↓reduceIte, Int.reduceToNat, Int.reduceLT, Int.reduceLE, Int.reduceEq, Int.reduceAdd, Int.reduceSub, Int.reduceNeg, Int.reduceMul, reduceCtorEq, List.reduceReplicate, Nat.reduceGT, Int.reduceGT, Int.reduceGE, Int.reduceBEq, Int.natCast_zero, Int.natCast_one, Int.cast_ofNat_Int, List.range_zero, Nat.reduceMod, Nat.reduceLT, or_false, false_or, or_self, decide_eq_true h.1, decide_eq_true h.2]
  exact resK_mk (AS.le_refl _) ⟨rfl, rfl⟩
theorem num_ok (n : Int) (S : AS) (h : 0 ≤ n ∧ n ≤ 999999999999999999) : ACall Tryd.prog 59 [.v (.int .i64 n)] S fun r T => r = .ret (.v (.bool true)) ∧ T = S := by
  refine ACall.by_code Tryd.func59 rfl Tryd.ntmps59 rfl ?_
  simp -implicitDefEqProofs only [go_sem, Nat.reduceAdd, Nat.reduceSub, Nat.reduceMul, Nat.reduceEqDiff, Nat.reduceLeDiff, Nat.reduceBEq, Nat.reduceBNe, ↓reduceIte, Int.reduceToNat, Int.reduceLT, Int.reduceLE, Int.reduceEq, Int.reduceAdd, Int.reduceSub, Int.reduceNeg, Int.reduceMul, reduceCtorEq, List.reduceReplicate, Nat.reduceGT, Int.reduceGT, Int.reduceGE, Int.reduceBEq, Int.natCast_zero, Int.natCast_one, Int.cast_ofNat_Int, List.range_zero, Nat.reduceMod, Nat.reduceLT, or_false, false_or, or_self, decide_eq_true h.1, decide_eq_true h.2]
  exact resK_mk (AS.le_refl _) ⟨rfl, rfl⟩
def kidsN (k : Int) : Int × Bool := if k = 1 ∨ k = 2 ∨ k = 3 then (0, true) else if k = 6 then (1, true) else if k = 4 ∨ k = 5 ∨ k = 7 ∨ k = 8 then (2, true) else if k = 9 then (3, true) else (0, false)
theorem kids_ok (k : Int) (S : AS) : ACall Tryd.prog 58 [.v (.int .i64 k)] S fun r T => r = .ret (.tup [.v (.int .i64 (kidsN k).1), .v (.bool (kidsN k).2)]) ∧ T = S := by
  refine ACall.by_code Tryd.func58 rfl Tryd.ntmps58 rfl ?_
  simp -implicitDefEqProofs only [go_sem, Nat.reduceAdd, Nat.reduceSub, Nat.reduceMul, Nat.reduceEqDiff, Nat.reduceLeDiff, Nat.reduceBEq, Nat.reduceBNe, ↓reduceIte, Int.reduceToNat, Int.reduceLT, Int.reduceLE, Int.reduceEq, Int.reduceAdd, Int.reduceSub, Int.reduceNeg, Int.reduceMul, reduceCtorEq, List.reduceReplicate, Nat.reduceGT, Int.reduceGT, Int.reduceGE, Int.reduceBEq, Int.natCast_zero, Int.natCast_one, Int.cast_ofNat_Int, List.range_zero, Nat.reduceMod, Nat.reduceLT, or_false, false_or, or_self]
  repeat' (refine condK_split (fun h => ?_) (fun h => ?_) <;> simp -implicitDefEqProofs only [go_sem, Nat.reduceAdd, Nat.reduceSub, Nat.reduceMul, Nat.reduceEqDiff, Nat.reduceLeDiff, Nat.reduceBEq, Nat.reduceBNe, ↓reduceIte, Int.reduceToNat, Int.reduceLT, Int.reduceLE, Int.reduceEq, Int.reduceAdd, Int.reduceSub, Int.reduceNeg, Int.reduceMul, reduceCtorEq, List.reduceReplicate, Nat.reduceGT, Int.reduceGT, Int.reduceGE, Int.reduceBEq, Int.natCast_zero, Int.natCast_one, Int.cast_ofNat_Int, List.range_zero, Nat.reduceMod, Nat.reduceLT, or_false, false_or, or_self])
  all_goals
    refine resK_mk (AS.le_refl _) ⟨?_, rfl⟩
    simp only [decide_eq_true_eq, decide_eq_false_iff_not] at *
    unfold kidsN
    (repeat' split) <;> first | rfl | (exfalso; omega)
/-- What may be, of expressions without totals. -/
def goodT : Nat → Ex → Bool
  | 0, _ => false
  | f + 1, e => decide (kidsN e.kind = ((e.kids.length : Int), true)) && decide (e.kind ≠ 3) && decide (e.field = []) && decide (e.filters.length = 0) && decide (e.kids.length ≤ 1000000) &&
    (if e.kind = 1 then decide (0 ≤ e.n) && decide (e.n ≤ 999999999999999999) else if e.kind = 2 then decide (1 ≤ e.n) && decide (e.n ≤ 9999) else decide (e.n = 0) && e.kids.all (goodT f))
theorem right2_ok (f : Nat) (x : Ex) (S : AS) (ih : ∀ S, ACall Tryd.prog 49 [.agg (encE x)] S fun r T => r = .ret (.v (.bool true)) ∧ T = S) : ACall Tryd.prog 64 [.agg (encE x)] S fun r T => r = .ret (.v (.bool false)) ∧ T = S := by
  refine ACall.by_code Tryd.func64 rfl Tryd.ntmps64 rfl ?_
  simp -implicitDefEqProofs only [go_sem, Nat.reduceAdd, Nat.reduceSub, Nat.reduceMul, Nat.reduceEqDiff, Nat.reduceLeDiff, Nat.reduceBEq, Nat.reduceBNe, ↓reduceIte, Int.reduceToNat, Int.reduceLT, Int.reduceLE, Int.reduceEq, Int.reduceAdd, Int.reduceSub, Int.reduceNeg, Int.reduceMul, reduceCtorEq, List.reduceReplicate, Nat.reduceGT, Int.reduceGT, Int.reduceGE, Int.reduceBEq, Int.natCast_zero, Int.natCast_one, Int.cast_ofNat_Int, List.range_zero, Nat.reduceMod, Nat.reduceLT, or_false, false_or, or_self]
  intro B hB
  simp -implicitDefEqProofs only [go_sem, Nat.reduceAdd, Nat.reduceSub, Nat.reduceMul, Nat.reduceEqDiff, Nat.reduceLeDiff, Nat.reduceBEq, Nat.reduceBNe, ↓reduceIte, Int.reduceToNat, Int.reduceLT, Int.reduceLE, Int.reduceEq, Int.reduceAdd, Int.reduceSub, Int.reduceNeg, Int.reduceMul, reduceCtorEq, List.reduceReplicate, Nat.reduceGT, Int.reduceGT, Int.reduceGE, Int.reduceBEq, Int.natCast_zero, Int.natCast_one, Int.cast_ofNat_Int, List.range_zero, Nat.reduceMod, Nat.reduceLT, or_false, false_or, or_self, encE_length, encE_take]
  refine (ih _).mono ?_
  rintro _ _ ⟨rfl, rfl⟩
  simp -implicitDefEqProofs only [go_sem, Nat.reduceAdd, Nat.reduceSub, Nat.reduceMul, Nat.reduceEqDiff, Nat.reduceLeDiff, Nat.reduceBEq, Nat.reduceBNe, ↓reduceIte, Int.reduceToNat, Int.reduceLT, Int.reduceLE, Int.reduceEq, Int.reduceAdd, Int.reduceSub, Int.reduceNeg, Int.reduceMul, reduceCtorEq, List.reduceReplicate, Nat.reduceGT, Int.reduceGT, Int.reduceGE, Int.reduceBEq, Int.natCast_zero, Int.natCast_one, Int.cast_ofNat_Int, List.range_zero, Nat.reduceMod, Nat.reduceLT, or_false, false_or, or_self]
  exact resK_mk (AS.le_set hB) ⟨rfl, rfl⟩
theorem right_ok : ∀ (f : Nat) (e : Ex) (S : AS), goodT f e = true → ACall Tryd.prog 49 [.agg (encE e)] S fun r T => r = .ret (.v (.bool true)) ∧ T = S := by
  intro f
  induction f with
  | zero => intro e S h; cases h
  | succ f ih =>
    intro e S h
    unfold goodT at h
    simp only [Bool.and_eq_true, decide_eq_true_eq] at h
    obtain ⟨⟨⟨⟨⟨h1, h2⟩, h3⟩, h4⟩, h5⟩, h6⟩ := h
    have hf : e.filters = [] := List.eq_nil_of_length_eq_zero h4
    refine ACall.by_code Tryd.func49 rfl Tryd.ntmps49 rfl ?_
    have he := encE_eq e
    simp -implicitDefEqProofs only [go_sem, Nat.reduceAdd, Nat.reduceSub, Nat.reduceMul, Nat.reduceEqDiff, Nat.reduceLeDiff, Nat.reduceBEq, Nat.reduceBNe, ↓reduceIte, Int.reduceToNat, Int.reduceLT, Int.reduceLE, Int.reduceEq, Int.reduceAdd, Int.reduceSub, Int.reduceNeg, Int.reduceMul, reduceCtorEq, List.reduceReplicate, Nat.reduceGT, Int.reduceGT, Int.reduceGE, Int.reduceBEq, Int.natCast_zero, Int.natCast_one, Int.cast_ofNat_Int, List.range_zero, Nat.reduceMod, Nat.reduceLT, or_false, false_or, or_self]
    intro B hB
    simp -implicitDefEqProofs only [go_sem, Nat.reduceAdd, Nat.reduceSub, Nat.reduceMul, Nat.reduceEqDiff, Nat.reduceLeDiff, Nat.reduceBEq, Nat.reduceBNe, ↓reduceIte, Int.reduceToNat, Int.reduceLT, Int.reduceLE, Int.reduceEq, Int.reduceAdd, Int.reduceSub, Int.reduceNeg, Int.reduceMul, reduceCtorEq, List.reduceReplicate, Nat.reduceGT, Int.reduceGT, Int.reduceGE, Int.reduceBEq, Int.natCast_zero, Int.natCast_one, Int.cast_ofNat_Int, List.range_zero, Nat.reduceMod, Nat.reduceLT, or_false, false_or, or_self, he]
    refine (kids_ok _ _).mono ?_
    rintro _ _ ⟨rfl, rfl⟩
    have h2' : ¬ e.kind = 3 := h2
    simp -implicitDefEqProofs only [go_sem, Nat.reduceAdd, Nat.reduceSub, Nat.reduceMul, Nat.reduceEqDiff, Nat.reduceLeDiff, Nat.reduceBEq, Nat.reduceBNe, ↓reduceIte, Int.reduceToNat, Int.reduceLT, Int.reduceLE, Int.reduceEq, Int.reduceAdd, Int.reduceSub, Int.reduceNeg, Int.reduceMul, reduceCtorEq, List.reduceReplicate, Nat.reduceGT, Int.reduceGT, Int.reduceGE, Int.reduceBEq, Int.natCast_zero, Int.natCast_one, Int.cast_ofNat_Int, List.range_zero, Nat.reduceMod, Nat.reduceLT, or_false, false_or, or_self, h1, he, decide_eq_false h2', h3, hf]
    refine condK_split (fun hk => ?_) (fun hk => ?_)
    · have hk : e.kind = 1 := by simpa using hk
      rw [if_pos hk] at h6
      simp -implicitDefEqProofs only [go_sem, Nat.reduceAdd, Nat.reduceSub, Nat.reduceMul, Nat.reduceEqDiff, Nat.reduceLeDiff, Nat.reduceBEq, Nat.reduceBNe, ↓reduceIte, Int.reduceToNat, Int.reduceLT, Int.reduceLE, Int.reduceEq, Int.reduceAdd, Int.reduceSub, Int.reduceNeg, Int.reduceMul, reduceCtorEq, List.reduceReplicate, Nat.reduceGT, Int.reduceGT, Int.reduceGE, Int.reduceBEq, Int.natCast_zero, Int.natCast_one, Int.cast_ofNat_Int, List.range_zero, Nat.reduceMod, Nat.reduceLT, or_false, false_or, or_self, he]
      refine (num_ok _ _ (by simpa using h6)).mono ?_
      rintro _ _ ⟨rfl, rfl⟩
      simp -implicitDefEqProofs only [go_sem, Nat.reduceAdd, Nat.reduceSub, Nat.reduceMul, Nat.reduceEqDiff, Nat.reduceLeDiff, Nat.reduceBEq, Nat.reduceBNe, ↓reduceIte, Int.reduceToNat, Int.reduceLT, Int.reduceLE, Int.reduceEq, Int.reduceAdd, Int.reduceSub, Int.reduceNeg, Int.reduceMul, reduceCtorEq, List.reduceReplicate, Nat.reduceGT, Int.reduceGT, Int.reduceGE, Int.reduceBEq, Int.natCast_zero, Int.natCast_one, Int.cast_ofNat_Int, List.range_zero, Nat.reduceMod, Nat.reduceLT, or_false, false_or, or_self]
      exact resK_mk (AS.le_set hB) ⟨rfl, rfl⟩
    · have hk : ¬ e.kind = 1 := by simpa using hk
      rw [if_neg hk] at h6
      simp -implicitDefEqProofs only [go_sem, Nat.reduceAdd, Nat.reduceSub, Nat.reduceMul, Nat.reduceEqDiff, Nat.reduceLeDiff, Nat.reduceBEq, Nat.reduceBNe, ↓reduceIte, Int.reduceToNat, Int.reduceLT, Int.reduceLE, Int.reduceEq, Int.reduceAdd, Int.reduceSub, Int.reduceNeg, Int.reduceMul, reduceCtorEq, List.reduceReplicate, Nat.reduceGT, Int.reduceGT, Int.reduceGE, Int.reduceBEq, Int.natCast_zero, Int.natCast_one, Int.cast_ofNat_Int, List.range_zero, Nat.reduceMod, Nat.reduceLT, or_false, false_or, or_self]
      refine condK_split (fun hk2 => ?_) (fun hk2 => ?_)
      · have hk2 : e.kind = 2 := by simpa using hk2
        rw [if_pos hk2] at h6
        simp -implicitDefEqProofs only [go_sem, Nat.reduceAdd, Nat.reduceSub, Nat.reduceMul, Nat.reduceEqDiff, Nat.reduceLeDiff, Nat.reduceBEq, Nat.reduceBNe, ↓reduceIte, Int.reduceToNat, Int.reduceLT, Int.reduceLE, Int.reduceEq, Int.reduceAdd, Int.reduceSub, Int.reduceNeg, Int.reduceMul, reduceCtorEq, List.reduceReplicate, Nat.reduceGT, Int.reduceGT, Int.reduceGE, Int.reduceBEq, Int.natCast_zero, Int.natCast_one, Int.cast_ofNat_Int, List.range_zero, Nat.reduceMod, Nat.reduceLT, or_false, false_or, or_self, he]
        refine (boxed_ok _ _ (by simpa using h6)).mono ?_
        rintro _ _ ⟨rfl, rfl⟩
        simp -implicitDefEqProofs only [go_sem, Nat.reduceAdd, Nat.reduceSub, Nat.reduceMul, Nat.reduceEqDiff, Nat.reduceLeDiff, Nat.reduceBEq, Nat.reduceBNe, ↓reduceIte, Int.reduceToNat, Int.reduceLT, Int.reduceLE, Int.reduceEq, Int.reduceAdd, Int.reduceSub, Int.reduceNeg, Int.reduceMul, reduceCtorEq, List.reduceReplicate, Nat.reduceGT, Int.reduceGT, Int.reduceGE, Int.reduceBEq, Int.natCast_zero, Int.natCast_one, Int.cast_ofNat_Int, List.range_zero, Nat.reduceMod, Nat.reduceLT, or_false, false_or, or_self]
        exact resK_mk (AS.le_set hB) ⟨rfl, rfl⟩
      · have hk2 : ¬ e.kind = 2 := by simpa using hk2
        rw [if_neg hk2] at h6
        simp only [Bool.and_eq_true, decide_eq_true_eq, List.all_eq_true] at h6
        simp -implicitDefEqProofs only [go_sem, Nat.reduceAdd, Nat.reduceSub, Nat.reduceMul, Nat.reduceEqDiff, Nat.reduceLeDiff, Nat.reduceBEq, Nat.reduceBNe, ↓reduceIte, Int.reduceToNat, Int.reduceLT, Int.reduceLE, Int.reduceEq, Int.reduceAdd, Int.reduceSub, Int.reduceNeg, Int.reduceMul, reduceCtorEq, List.reduceReplicate, Nat.reduceGT, Int.reduceGT, Int.reduceGE, Int.reduceBEq, Int.natCast_zero, Int.natCast_one, Int.cast_ofNat_Int, List.range_zero, Nat.reduceMod, Nat.reduceLT, or_false, false_or, or_self, he, h6.1, decide_eq_false h2']
        refine (contains65_ok e.kids none 64 [] _ h5 (by kernel_rfl) ?_).mono ?_
        · intro x hx S' _
          exact right2_ok f x S' fun S'' => ih x S'' (h6.2 x hx)
        · rintro _ _ ⟨rfl, rfl⟩
          simp -implicitDefEqProofs only [go_sem, Nat.reduceAdd, Nat.reduceSub, Nat.reduceMul, Nat.reduceEqDiff, Nat.reduceLeDiff, Nat.reduceBEq, Nat.reduceBNe, ↓reduceIte, Int.reduceToNat, Int.reduceLT, Int.reduceLE, Int.reduceEq, Int.reduceAdd, Int.reduceSub, Int.reduceNeg, Int.reduceMul, reduceCtorEq, List.reduceReplicate, Nat.reduceGT, Int.reduceGT, Int.reduceGE, Int.reduceBEq, Int.natCast_zero, Int.natCast_one, Int.cast_ofNat_Int, List.range_zero, Nat.reduceMod, Nat.reduceLT, or_false, false_or, or_self]
          exact resK_mk (AS.le_set hB) ⟨rfl, rfl⟩
theorem deep_ok (e : Ex) (S : AS) : ACall Tryd.prog 48 [.agg (encE e)] S fun r T => r = .ret (.v (.int .i64 (depthL 64 e))) ∧ T = S := by
  refine ACall.by_code Tryd.func48 rfl Tryd.ntmps48 rfl ?_
  simp -implicitDefEqProofs only [go_sem, Nat.reduceAdd, Nat.reduceSub, Nat.reduceMul, Nat.reduceEqDiff, Nat.reduceLeDiff, Nat.reduceBEq, Nat.reduceBNe, ↓reduceIte, Int.reduceToNat, Int.reduceLT, Int.reduceLE, Int.reduceEq, Int.reduceAdd, Int.reduceSub, Int.reduceNeg, Int.reduceMul, reduceCtorEq, List.reduceReplicate, Nat.reduceGT, Int.reduceGT, Int.reduceGE, Int.reduceBEq, Int.natCast_zero, Int.natCast_one, Int.cast_ofNat_Int, List.range_zero, Nat.reduceMod, Nat.reduceLT, or_false, false_or, or_self]
  intro B hB
  simp -implicitDefEqProofs only [go_sem, Nat.reduceAdd, Nat.reduceSub, Nat.reduceMul, Nat.reduceEqDiff, Nat.reduceLeDiff, Nat.reduceBEq, Nat.reduceBNe, ↓reduceIte, Int.reduceToNat, Int.reduceLT, Int.reduceLE, Int.reduceEq, Int.reduceAdd, Int.reduceSub, Int.reduceNeg, Int.reduceMul, reduceCtorEq, List.reduceReplicate, Nat.reduceGT, Int.reduceGT, Int.reduceGE, Int.reduceBEq, Int.natCast_zero, Int.natCast_one, Int.cast_ofNat_Int, List.range_zero, Nat.reduceMod, Nat.reduceLT, or_false, false_or, or_self, encE_length, encE_take]
  refine (depth_ok 64 e _ (by omega)).mono ?_
  rintro _ _ ⟨rfl, rfl⟩
  simp -implicitDefEqProofs only [go_sem, Nat.reduceAdd, Nat.reduceSub, Nat.reduceMul, Nat.reduceEqDiff, Nat.reduceLeDiff, Nat.reduceBEq, Nat.reduceBNe, ↓reduceIte, Int.reduceToNat, Int.reduceLT, Int.reduceLE, Int.reduceEq, Int.reduceAdd, Int.reduceSub, Int.reduceNeg, Int.reduceMul, reduceCtorEq, List.reduceReplicate, Nat.reduceGT, Int.reduceGT, Int.reduceGE, Int.reduceBEq, Int.natCast_zero, Int.natCast_one, Int.cast_ofNat_Int, List.range_zero, Nat.reduceMod, Nat.reduceLT, or_false, false_or, or_self]
  exact resK_mk (AS.le_set hB) ⟨rfl, rfl⟩
theorem goodexpr_ok (f : Nat) (e : Ex) (S : AS) (h : goodT f e = true) (hd : depthL 64 e ≤ 64) : ACall Tryd.prog 30 [.agg (encE e)] S fun r T => r = .ret (.v (.bool true)) ∧ T = S := by
  refine ACall.by_code Tryd.func30 rfl Tryd.ntmps30 rfl ?_
  simp -implicitDefEqProofs only [go_sem, Nat.reduceAdd, Nat.reduceSub, Nat.reduceMul, Nat.reduceEqDiff, Nat.reduceLeDiff, Nat.reduceBEq, Nat.reduceBNe, ↓reduceIte, Int.reduceToNat, Int.reduceLT, Int.reduceLE, Int.reduceEq, Int.reduceAdd, Int.reduceSub, Int.reduceNeg, Int.reduceMul, reduceCtorEq, List.reduceReplicate, Nat.reduceGT, Int.reduceGT, Int.reduceGE, Int.reduceBEq, Int.natCast_zero, Int.natCast_one, Int.cast_ofNat_Int, List.range_zero, Nat.reduceMod, Nat.reduceLT, or_false, false_or, or_self]
  intro B hB
  simp -implicitDefEqProofs only [go_sem, Nat.reduceAdd, Nat.reduceSub, Nat.reduceMul, Nat.reduceEqDiff, Nat.reduceLeDiff, Nat.reduceBEq, Nat.reduceBNe, ↓reduceIte, Int.reduceToNat, Int.reduceLT, Int.reduceLE, Int.reduceEq, Int.reduceAdd, Int.reduceSub, Int.reduceNeg, Int.reduceMul, reduceCtorEq, List.reduceReplicate, Nat.reduceGT, Int.reduceGT, Int.reduceGE, Int.reduceBEq, Int.natCast_zero, Int.natCast_one, Int.cast_ofNat_Int, List.range_zero, Nat.reduceMod, Nat.reduceLT, or_false, false_or, or_self, encE_length, encE_take]
  refine (deep_ok e _).mono ?_
  rintro _ _ ⟨rfl, rfl⟩
  have hd' : ((depthL 64 e : Nat) : Int) ≤ 64 := by omega
  simp -implicitDefEqProofs only [go_sem, Nat.reduceAdd, Nat.reduceSub, Nat.reduceMul, Nat.reduceEqDiff, Nat.reduceLeDiff, Nat.reduceBEq, Nat.reduceBNe, ↓reduceIte, Int.reduceToNat, Int.reduceLT, Int.reduceLE, Int.reduceEq, Int.reduceAdd, Int.reduceSub, Int.reduceNeg, Int.reduceMul, reduceCtorEq, List.reduceReplicate, Nat.reduceGT, Int.reduceGT, Int.reduceGE, Int.reduceBEq, Int.natCast_zero, Int.natCast_one, Int.cast_ofNat_Int, List.range_zero, Nat.reduceMod, Nat.reduceLT, or_false, false_or, or_self, decide_eq_true hd', encE_length, encE_take]
  refine (right_ok f e _ h).mono ?_
  rintro _ _ ⟨rfl, rfl⟩
  simp -implicitDefEqProofs only [go_sem, Nat.reduceAdd, Nat.reduceSub, Nat.reduceMul, Nat.reduceEqDiff, Nat.reduceLeDiff, Nat.reduceBEq, Nat.reduceBNe, ↓reduceIte, Int.reduceToNat, Int.reduceLT, Int.reduceLE, Int.reduceEq, Int.reduceAdd, Int.reduceSub, Int.reduceNeg, Int.reduceMul, reduceCtorEq, List.reduceReplicate, Nat.reduceGT, Int.reduceGT, Int.reduceGE, Int.reduceBEq, Int.natCast_zero, Int.natCast_one, Int.cast_ofNat_Int, List.range_zero, Nat.reduceMod, Nat.reduceLT, or_false, false_or, or_self]
  exact resK_mk (AS.le_set hB) ⟨rfl, rfl⟩
def goodB (f : Nat) (b : Nat × Ex) : Bool := decide (1 ≤ b.1) && decide (b.1 ≤ 9999) && goodT f b.2 && decide (depthL 64 b.2 ≤ 64)
theorem may2_ok (f : Nat) (b : Nat × Ex) (S : AS) (h : goodB f b = true) : ACall Tryd.prog 14 [.agg (encB b)] S fun r T => r = .ret (.v (.bool true)) ∧ T = S := by
  simp only [goodB, Bool.and_eq_true, decide_eq_true_eq] at h
  obtain ⟨⟨⟨h1, h2⟩, h3⟩, h4⟩ := h
  refine ACall.by_code Tryd.func14 rfl Tryd.ntmps14 rfl ?_
  simp -implicitDefEqProofs only [go_sem, Nat.reduceAdd, Nat.reduceSub, Nat.reduceMul, Nat.reduceEqDiff, Nat.reduceLeDiff, Nat.reduceBEq, Nat.reduceBNe, ↓reduceIte, Int.reduceToNat, Int.reduceLT, Int.reduceLE, Int.reduceEq, Int.reduceAdd, Int.reduceSub, Int.reduceNeg, Int.reduceMul, reduceCtorEq, List.reduceReplicate, Nat.reduceGT, Int.reduceGT, Int.reduceGE, Int.reduceBEq, Int.natCast_zero, Int.natCast_one, Int.cast_ofNat_Int, List.range_zero, Nat.reduceMod, Nat.reduceLT, or_false, false_or, or_self]
  intro B hB
  simp -implicitDefEqProofs only [go_sem, Nat.reduceAdd, Nat.reduceSub, Nat.reduceMul, Nat.reduceEqDiff, Nat.reduceLeDiff, Nat.reduceBEq, Nat.reduceBNe, ↓reduceIte, Int.reduceToNat, Int.reduceLT, Int.reduceLE, Int.reduceEq, Int.reduceAdd, Int.reduceSub, Int.reduceNeg, Int.reduceMul, reduceCtorEq, List.reduceReplicate, Nat.reduceGT, Int.reduceGT, Int.reduceGE, Int.reduceBEq, Int.natCast_zero, Int.natCast_one, Int.cast_ofNat_Int, List.range_zero, Nat.reduceMod, Nat.reduceLT, or_false, false_or, or_self, encB, encE_length, encE_take]
  refine (boxed_ok _ _ (by omega)).mono ?_
  rintro _ _ ⟨rfl, rfl⟩
  simp -implicitDefEqProofs only [go_sem, Nat.reduceAdd, Nat.reduceSub, Nat.reduceMul, Nat.reduceEqDiff, Nat.reduceLeDiff, Nat.reduceBEq, Nat.reduceBNe, ↓reduceIte, Int.reduceToNat, Int.reduceLT, Int.reduceLE, Int.reduceEq, Int.reduceAdd, Int.reduceSub, Int.reduceNeg, Int.reduceMul, reduceCtorEq, List.reduceReplicate, Nat.reduceGT, Int.reduceGT, Int.reduceGE, Int.reduceBEq, Int.natCast_zero, Int.natCast_one, Int.cast_ofNat_Int, List.range_zero, Nat.reduceMod, Nat.reduceLT, or_false, false_or, or_self, encB, encE_length, encE_take]
  refine (goodexpr_ok f b.2 _ h3 h4).mono ?_
  rintro _ _ ⟨rfl, rfl⟩
  simp -implicitDefEqProofs only [go_sem, Nat.reduceAdd, Nat.reduceSub, Nat.reduceMul, Nat.reduceEqDiff, Nat.reduceLeDiff, Nat.reduceBEq, Nat.reduceBNe, ↓reduceIte, Int.reduceToNat, Int.reduceLT, Int.reduceLE, Int.reduceEq, Int.reduceAdd, Int.reduceSub, Int.reduceNeg, Int.reduceMul, reduceCtorEq, List.reduceReplicate, Nat.reduceGT, Int.reduceGT, Int.reduceGE, Int.reduceBEq, Int.natCast_zero, Int.natCast_one, Int.cast_ofNat_Int, List.range_zero, Nat.reduceMod, Nat.reduceLT, or_false, false_or, or_self]
  exact resK_mk (AS.le_set hB) ⟨rfl, rfl⟩
theorem good1_ok (f : Nat) (b : Nat × Ex) (S : AS) (h : goodB f b = true) : ACall Tryd.prog 54 [.agg (encB b)] S fun r T => r = .ret (.v (.bool false)) ∧ T = S := by
  refine ACall.by_code Tryd.func54 rfl Tryd.ntmps54 rfl ?_
  simp -implicitDefEqProofs only [go_sem, Nat.reduceAdd, Nat.reduceSub, Nat.reduceMul, Nat.reduceEqDiff, Nat.reduceLeDiff, Nat.reduceBEq, Nat.reduceBNe, ↓reduceIte, Int.reduceToNat, Int.reduceLT, Int.reduceLE, Int.reduceEq, Int.reduceAdd, Int.reduceSub, Int.reduceNeg, Int.reduceMul, reduceCtorEq, List.reduceReplicate, Nat.reduceGT, Int.reduceGT, Int.reduceGE, Int.reduceBEq, Int.natCast_zero, Int.natCast_one, Int.cast_ofNat_Int, List.range_zero, Nat.reduceMod, Nat.reduceLT, or_false, false_or, or_self]
  intro B hB
  simp -implicitDefEqProofs only [go_sem, Nat.reduceAdd, Nat.reduceSub, Nat.reduceMul, Nat.reduceEqDiff, Nat.reduceLeDiff, Nat.reduceBEq, Nat.reduceBNe, ↓reduceIte, Int.reduceToNat, Int.reduceLT, Int.reduceLE, Int.reduceEq, Int.reduceAdd, Int.reduceSub, Int.reduceNeg, Int.reduceMul, reduceCtorEq, List.reduceReplicate, Nat.reduceGT, Int.reduceGT, Int.reduceGE, Int.reduceBEq, Int.natCast_zero, Int.natCast_one, Int.cast_ofNat_Int, List.range_zero, Nat.reduceMod, Nat.reduceLT, or_false, false_or, or_self, encB_length, encB_take6]
  refine (may2_ok f b _ h).mono ?_
  rintro _ _ ⟨rfl, rfl⟩
  simp -implicitDefEqProofs only [go_sem, Nat.reduceAdd, Nat.reduceSub, Nat.reduceMul, Nat.reduceEqDiff, Nat.reduceLeDiff, Nat.reduceBEq, Nat.reduceBNe, ↓reduceIte, Int.reduceToNat, Int.reduceLT, Int.reduceLE, Int.reduceEq, Int.reduceAdd, Int.reduceSub, Int.reduceNeg, Int.reduceMul, reduceCtorEq, List.reduceReplicate, Nat.reduceGT, Int.reduceGT, Int.reduceGE, Int.reduceBEq, Int.natCast_zero, Int.natCast_one, Int.cast_ofNat_Int, List.range_zero, Nat.reduceMod, Nat.reduceLT, or_false, false_or, or_self]
  exact resK_mk (AS.le_set hB) ⟨rfl, rfl⟩
theorem good_ok (f : Nat) (l : List (Nat × Ex)) (own : Option (Nat × Nat)) (S : AS) (h : ∀ b ∈ l, goodB f b = true) (hl : l.length ≤ 256) : ACall Tryd.prog 46 [.sl (l.map encB) own] S fun r T => r = .ret (.v (.bool true)) ∧ T = S := by
  refine ACall.by_code Tryd.func46 rfl Tryd.ntmps46 rfl ?_
  have hl' : ((l.length : Nat) : Int) ≤ 256 := by omega
  simp -implicitDefEqProofs only [go_sem, Nat.reduceAdd, Nat.reduceSub, Nat.reduceMul, Nat.reduceEqDiff, Nat.reduceLeDiff, Nat.reduceBEq, Nat.reduceBNe, ↓reduceIte, Int.reduceToNat, Int.reduceLT, Int.reduceLE, Int.reduceEq, Int.reduceAdd, Int.reduceSub, Int.reduceNeg, Int.reduceMul, reduceCtorEq, List.reduceReplicate, Nat.reduceGT, Int.reduceGT, Int.reduceGE, Int.reduceBEq, Int.natCast_zero, Int.natCast_one, Int.cast_ofNat_Int, List.range_zero, Nat.reduceMod, Nat.reduceLT, or_false, false_or, or_self, decide_eq_true hl']
  refine (contains53_ok l own 54 [] _ (by omega) (by kernel_rfl) ?_).mono ?_
  · intro b hb S' _
    exact good1_ok f b S' (h b hb)
  · rintro _ _ ⟨rfl, rfl⟩
    simp -implicitDefEqProofs only [go_sem, Nat.reduceAdd, Nat.reduceSub, Nat.reduceMul, Nat.reduceEqDiff, Nat.reduceLeDiff, Nat.reduceBEq, Nat.reduceBNe, ↓reduceIte, Int.reduceToNat, Int.reduceLT, Int.reduceLE, Int.reduceEq, Int.reduceAdd, Int.reduceSub, Int.reduceNeg, Int.reduceMul, reduceCtorEq, List.reduceReplicate, Nat.reduceGT, Int.reduceGT, Int.reduceGE, Int.reduceBEq, Int.natCast_zero, Int.natCast_one, Int.cast_ofNat_Int, List.range_zero, Nat.reduceMod, Nat.reduceLT, or_false, false_or, or_self]
    exact resK_mk (AS.le_refl _) ⟨rfl, rfl⟩
end Go.Proofs.YtedicdnflpjhkaaDoor
