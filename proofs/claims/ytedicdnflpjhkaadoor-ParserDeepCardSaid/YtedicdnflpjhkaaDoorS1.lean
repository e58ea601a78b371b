/- syntax.depth, syntax.number, syntax.kids, syntax.boxed: what they answer. No condition beyond the bounds named. -/
import Derived.Test.YtedicdnflpjhkaaDoorAB
import Derived.Test.YtedicdnflpjhkaaDoorS0
set_option linter.unusedSimpArgs false
set_option linter.unusedVariables false
set_option maxRecDepth 100000
set_option maxHeartbeats 1000000
namespace Go.Proofs.YtedicdnflpjhkaaDoor
open Go.Aw
/-- How deep an expression is, as far as so many. -/
def depthL : Nat → Ex → Nat
  | 0, _ => 1
  | m + 1, e => e.kids.foldl (fun d k => max d (1 + depthL m k)) 1
theorem foldl_max_le (f : Ex → Nat) (b : Nat) (hf : ∀ k, f k ≤ b) : ∀ (l : List Ex) (d : Nat), d ≤ b → l.foldl (fun d k => max d (f k)) d ≤ b
  | [], d, h => h
  | k :: l, d, h => foldl_max_le f b hf l _ (Nat.max_le.2 ⟨h, hf k⟩)
theorem depthL_le : ∀ (m : Nat) (e : Ex), depthL m e ≤ m + 1
  | 0, _ => by simp [depthL]
  | m + 1, e => by
    unfold depthL
    exact foldl_max_le (fun k => 1 + depthL m k) _ (fun k => by have := depthL_le m k; omega) _ _ (by omega)
theorem wrap_eq {x y : Int} (h : -9223372036854775808 ≤ x ∧ x ≤ 9223372036854775807) (e : x = y) : IntKind.i64.wrap x = y := by rw [Go.IntWalk.i64_in x h, e]
theorem max_nat (d x : Nat) : (if (d : Int) < ((x : Nat) : Int) then ((x : Nat) : Int) else (d : Int)) = ((max d x : Nat) : Int) := by
  split <;> omega
theorem depth_ok : ∀ (m : Nat) (e : Ex) (S : AS), m ≤ 1000 → ACall Tryd.prog 57 [.agg (encE e), .v (.int .i64 m)] S fun r T => r = .ret (.v (.int .i64 (depthL m e))) ∧ T = S := by
  intro m
  induction m with
  | zero =>
    intro e S hm
    refine ACall.by_code Tryd.func57 rfl Tryd.ntmps57 rfl ?_
    have he := encE_eq e
    simp -implicitDefEqProofs only [go_sem, Nat.reduceAdd, Nat.reduceSub, Nat.reduceMul, Nat.reduceEqDiff, Nat.reduceLeDiff, Nat.reduceBEq, Nat.reduceBNe, ↓reduceIte, Int.reduceToNat, Int.reduceLT, Int.reduceLE, Int.reduceEq, Int.reduceAdd, Int.reduceSub, Int.reduceNeg, Int.reduceMul, reduceCtorEq, List.reduceReplicate, Nat.reduceGT, Int.reduceGT, Int.reduceGE, Int.reduceBEq, Int.natCast_zero, Int.natCast_one, Int.cast_ofNat_Int, List.range_zero, Nat.reduceMod, Nat.reduceLT, or_false, false_or, or_self]
    intro B hB
    simp -implicitDefEqProofs only [go_sem, Nat.reduceAdd, Nat.reduceSub, Nat.reduceMul, Nat.reduceEqDiff, Nat.reduceLeDiff, Nat.reduceBEq, Nat.reduceBNe, ↓reduceIte, Int.reduceToNat, Int.reduceLT, Int.reduceLE, Int.reduceEq, Int.reduceAdd, Int.reduceSub, Int.reduceNeg, Int.reduceMul, reduceCtorEq, List.reduceReplicate, Nat.reduceGT, Int.reduceGT, Int.reduceGE, Int.reduceBEq, Int.natCast_zero, Int.natCast_one, Int.cast_ofNat_Int, List.range_zero, Nat.reduceMod, Nat.reduceLT, or_false, false_or, or_self, he]
    refine AWp.loop (fun n a T => S.le T ∧ ∃ j3 j4 j6 j7 j8 j12 j13 j14 j15 j16 j17 j18 j19 j20 j21 j22 j23 j24 j25 : AV, a = ⟨[.agg (encE e), int 0, .ptr B 0, j3, j4, int 1, j6, j7, j8, .sl (e.kids.map encE) none, int e.kids.length, int 0, j12, j13, j14, j15, j16, j17, j18, j19, j20, j21, j22, j23, j24, j25]⟩) 0 ?_ ?_
    · exact ⟨AS.le_set hB, by rw [he]; simp -implicitDefEqProofs only [go_sem, Nat.reduceAdd, Nat.reduceSub, Nat.reduceMul, Nat.reduceEqDiff, Nat.reduceLeDiff, Nat.reduceBEq, Nat.reduceBNe, ↓reduceIte, Int.reduceToNat, Int.reduceLT, Int.reduceLE, Int.reduceEq, Int.reduceAdd, Int.reduceSub, Int.reduceNeg, Int.reduceMul, reduceCtorEq, List.reduceReplicate, Nat.reduceGT, Int.reduceGT, Int.reduceGE, Int.reduceBEq, Int.natCast_zero, Int.natCast_one, Int.cast_ofNat_Int, List.range_zero, Nat.reduceMod, Nat.reduceLT, or_false, false_or, or_self, int]; exact ⟨_, _, _, _, _, _, _, _, _, _, _, _, _, _, _, _, _, _, _, rfl⟩⟩
    · rintro n a T ⟨hT, ⟨j3, j4, j6, j7, j8, j12, j13, j14, j15, j16, j17, j18, j19, j20, j21, j22, j23, j24, j25, rfl⟩⟩
      refine WC.sound _ _ _ _ ?_
      simp -implicitDefEqProofs only [go_sem, Nat.reduceAdd, Nat.reduceSub, Nat.reduceMul, Nat.reduceEqDiff, Nat.reduceLeDiff, Nat.reduceBEq, Nat.reduceBNe, ↓reduceIte, Int.reduceToNat, Int.reduceLT, Int.reduceLE, Int.reduceEq, Int.reduceAdd, Int.reduceSub, Int.reduceNeg, Int.reduceMul, reduceCtorEq, List.reduceReplicate, Nat.reduceGT, Int.reduceGT, Int.reduceGE, Int.reduceBEq, Int.natCast_zero, Int.natCast_one, Int.cast_ofNat_Int, List.range_zero, Nat.reduceMod, Nat.reduceLT, or_false, false_or, or_self, int, bool, encE_take]
      refine condK_split (fun h => ?_) (fun h => ?_)
      · have hlt : 0 < e.kids.length := by simpa using h
        have hk : e.kids[0]? = some e.kids[0] := List.getElem?_eq_getElem hlt
        simp -implicitDefEqProofs only [go_sem, Nat.reduceAdd, Nat.reduceSub, Nat.reduceMul, Nat.reduceEqDiff, Nat.reduceLeDiff, Nat.reduceBEq, Nat.reduceBNe, ↓reduceIte, Int.reduceToNat, Int.reduceLT, Int.reduceLE, Int.reduceEq, Int.reduceAdd, Int.reduceSub, Int.reduceNeg, Int.reduceMul, reduceCtorEq, List.reduceReplicate, Nat.reduceGT, Int.reduceGT, Int.reduceGE, Int.reduceBEq, Int.natCast_zero, Int.natCast_one, Int.cast_ofNat_Int, List.range_zero, Nat.reduceMod, Nat.reduceLT, or_false, false_or, or_self, int, bool, hk, encE_length, encE_take, encE_one]
        intro B' hB'
        exact resK_mk (AS.le_trans hT (AS.le_trans (AS.le_set hB') (by rw [AS.set_set]; exact AS.le_refl _))) ⟨rfl, rfl⟩
      · simp -implicitDefEqProofs only [go_sem, Nat.reduceAdd, Nat.reduceSub, Nat.reduceMul, Nat.reduceEqDiff, Nat.reduceLeDiff, Nat.reduceBEq, Nat.reduceBNe, ↓reduceIte, Int.reduceToNat, Int.reduceLT, Int.reduceLE, Int.reduceEq, Int.reduceAdd, Int.reduceSub, Int.reduceNeg, Int.reduceMul, reduceCtorEq, List.reduceReplicate, Nat.reduceGT, Int.reduceGT, Int.reduceGE, Int.reduceBEq, Int.natCast_zero, Int.natCast_one, Int.cast_ofNat_Int, List.range_zero, Nat.reduceMod, Nat.reduceLT, or_false, false_or, or_self]
        exact resK_mk hT ⟨rfl, rfl⟩
  | succ m ih =>
    intro e S hm
    refine ACall.by_code Tryd.func57 rfl Tryd.ntmps57 rfl ?_
    have he := encE_eq e
    simp -implicitDefEqProofs only [go_sem, Nat.reduceAdd, Nat.reduceSub, Nat.reduceMul, Nat.reduceEqDiff, Nat.reduceLeDiff, Nat.reduceBEq, Nat.reduceBNe, ↓reduceIte, Int.reduceToNat, Int.reduceLT, Int.reduceLE, Int.reduceEq, Int.reduceAdd, Int.reduceSub, Int.reduceNeg, Int.reduceMul, reduceCtorEq, List.reduceReplicate, Nat.reduceGT, Int.reduceGT, Int.reduceGE, Int.reduceBEq, Int.natCast_zero, Int.natCast_one, Int.cast_ofNat_Int, List.range_zero, Nat.reduceMod, Nat.reduceLT, or_false, false_or, or_self]
    intro B hB
    simp -implicitDefEqProofs only [go_sem, Nat.reduceAdd, Nat.reduceSub, Nat.reduceMul, Nat.reduceEqDiff, Nat.reduceLeDiff, Nat.reduceBEq, Nat.reduceBNe, ↓reduceIte, Int.reduceToNat, Int.reduceLT, Int.reduceLE, Int.reduceEq, Int.reduceAdd, Int.reduceSub, Int.reduceNeg, Int.reduceMul, reduceCtorEq, List.reduceReplicate, Nat.reduceGT, Int.reduceGT, Int.reduceGE, Int.reduceBEq, Int.natCast_zero, Int.natCast_one, Int.cast_ofNat_Int, List.range_zero, Nat.reduceMod, Nat.reduceLT, or_false, false_or, or_self, he]
    refine AWp.loop (fun n a T => ∃ (i d : Nat), i + n = e.kids.length ∧ d = (e.kids.take i).foldl (fun d k => max d (1 + depthL m k)) 1 ∧ S.le T ∧ ∃ j3 j4 j6 j7 j8 j12 j13 j14 j15 j16 j17 j18 j19 j20 j21 j22 j23 j24 j25 : AV, a = ⟨[.agg (encE e), int (m + 1 : Nat), .ptr B 0, j3, j4, int d, j6, j7, j8, .sl (e.kids.map encE) none, int e.kids.length, int i, j12, j13, j14, j15, j16, j17, j18, j19, j20, j21, j22, j23, j24, j25]⟩) e.kids.length ?_ ?_
    · exact ⟨0, 1, by omega, rfl, AS.le_set hB, by rw [he]; simp -implicitDefEqProofs only [go_sem, Nat.reduceAdd, Nat.reduceSub, Nat.reduceMul, Nat.reduceEqDiff, Nat.reduceLeDiff, Nat.reduceBEq, Nat.reduceBNe, ↓reduceIte, Int.reduceToNat, Int.reduceLT, Int.reduceLE, Int.reduceEq, Int.reduceAdd, Int.reduceSub, Int.reduceNeg, Int.reduceMul, reduceCtorEq, List.reduceReplicate, Nat.reduceGT, Int.reduceGT, Int.reduceGE, Int.reduceBEq, Int.natCast_zero, Int.natCast_one, Int.cast_ofNat_Int, List.range_zero, Nat.reduceMod, Nat.reduceLT, or_false, false_or, or_self, int]; exact ⟨_, _, _, _, _, _, _, _, _, _, _, _, _, _, _, _, _, _, _, rfl⟩⟩
    · rintro n a T ⟨i, d, hi, hd, hT, ⟨j3, j4, j6, j7, j8, j12, j13, j14, j15, j16, j17, j18, j19, j20, j21, j22, j23, j24, j25, rfl⟩⟩
      refine AWp.slen (t := 9) rfl (fun hlen => ?_)
      rw [List.length_map] at hlen
      have hlen' : e.kids.length ≤ 9223372036854775807 := hlen
      refine WC.sound _ _ _ _ ?_
      simp -implicitDefEqProofs only [go_sem, Nat.reduceAdd, Nat.reduceSub, Nat.reduceMul, Nat.reduceEqDiff, Nat.reduceLeDiff, Nat.reduceBEq, Nat.reduceBNe, ↓reduceIte, Int.reduceToNat, Int.reduceLT, Int.reduceLE, Int.reduceEq, Int.reduceAdd, Int.reduceSub, Int.reduceNeg, Int.reduceMul, reduceCtorEq, List.reduceReplicate, Nat.reduceGT, Int.reduceGT, Int.reduceGE, Int.reduceBEq, Int.natCast_zero, Int.natCast_one, Int.cast_ofNat_Int, List.range_zero, Nat.reduceMod, Nat.reduceLT, or_false, false_or, or_self, int, bool, encE_take]
      refine condK_split (fun h => ?_) (fun h => ?_)
      · have hlt : i < e.kids.length := by simpa using h
        have hk : e.kids[i]? = some e.kids[i] := List.getElem?_eq_getElem hlt
        have h0 : decide (((m + 1 : Nat) : Int) = 0) = false := by simp; omega
        have hw : IntKind.i64.wrap (((m + 1 : Nat) : Int) - 1) = m := wrap_eq (by omega) (by omega)
        have hdl := depthL_le m e.kids[i]
        have hw2 : IntKind.i64.wrap (1 + ((depthL m e.kids[i] : Nat) : Int)) = ((1 + depthL m e.kids[i] : Nat) : Int) := wrap_eq (by omega) (by omega)
        have hw3 : IntKind.i64.wrap ((i : Int) + 1) = ((i + 1 : Nat) : Int) := wrap_eq (by omega) (by omega)
        simp -implicitDefEqProofs only [go_sem, Nat.reduceAdd, Nat.reduceSub, Nat.reduceMul, Nat.reduceEqDiff, Nat.reduceLeDiff, Nat.reduceBEq, Nat.reduceBNe, ↓reduceIte, Int.reduceToNat, Int.reduceLT, Int.reduceLE, Int.reduceEq, Int.reduceAdd, Int.reduceSub, Int.reduceNeg, Int.reduceMul, reduceCtorEq, List.reduceReplicate, Nat.reduceGT, Int.reduceGT, Int.reduceGE, Int.reduceBEq, Int.natCast_zero, Int.natCast_one, Int.cast_ofNat_Int, List.range_zero, Nat.reduceMod, Nat.reduceLT, or_false, false_or, or_self, int, bool, hk, encE_length, encE_take, encE_one]
        intro B' hB'
        simp -implicitDefEqProofs only [go_sem, Nat.reduceAdd, Nat.reduceSub, Nat.reduceMul, Nat.reduceEqDiff, Nat.reduceLeDiff, Nat.reduceBEq, Nat.reduceBNe, ↓reduceIte, Int.reduceToNat, Int.reduceLT, Int.reduceLE, Int.reduceEq, Int.reduceAdd, Int.reduceSub, Int.reduceNeg, Int.reduceMul, reduceCtorEq, List.reduceReplicate, Nat.reduceGT, Int.reduceGT, Int.reduceGE, Int.reduceBEq, Int.natCast_zero, Int.natCast_one, Int.cast_ofNat_Int, List.range_zero, Nat.reduceMod, Nat.reduceLT, or_false, false_or, or_self, int, bool, h0, hw, encE_take, encE_length]
        refine (ih _ _ (by omega)).mono ?_
        rintro _ _ ⟨rfl, rfl⟩
        simp -implicitDefEqProofs only [go_sem, Nat.reduceAdd, Nat.reduceSub, Nat.reduceMul, Nat.reduceEqDiff, Nat.reduceLeDiff, Nat.reduceBEq, Nat.reduceBNe, ↓reduceIte, Int.reduceToNat, Int.reduceLT, Int.reduceLE, Int.reduceEq, Int.reduceAdd, Int.reduceSub, Int.reduceNeg, Int.reduceMul, reduceCtorEq, List.reduceReplicate, Nat.reduceGT, Int.reduceGT, Int.reduceGE, Int.reduceBEq, Int.natCast_zero, Int.natCast_one, Int.cast_ofNat_Int, List.range_zero, Nat.reduceMod, Nat.reduceLT, or_false, false_or, or_self, hw2, hw3, max_nat]
        refine ⟨n - 1, by omega, i + 1, _, by omega, ?_, ?_, ⟨_, _, _, _, _, _, _, _, _, _, _, _, _, _, _, _, _, _, _, rfl⟩⟩
        · rw [List.take_succ_eq_append_getElem hlt, List.foldl_append, ← hd]; rfl
        · exact (AS.le_trans hT (AS.le_trans (AS.le_set hB') (by rw [AS.set_set]; exact AS.le_refl _)))
      · simp -implicitDefEqProofs only [go_sem, Nat.reduceAdd, Nat.reduceSub, Nat.reduceMul, Nat.reduceEqDiff, Nat.reduceLeDiff, Nat.reduceBEq, Nat.reduceBNe, ↓reduceIte, Int.reduceToNat, Int.reduceLT, Int.reduceLE, Int.reduceEq, Int.reduceAdd, Int.reduceSub, Int.reduceNeg, Int.reduceMul, reduceCtorEq, List.reduceReplicate, Nat.reduceGT, Int.reduceGT, Int.reduceGE, Int.reduceBEq, Int.natCast_zero, Int.natCast_one, Int.cast_ofNat_Int, List.range_zero, Nat.reduceMod, Nat.reduceLT, or_false, false_or, or_self]
        have hge : ¬ i < e.kids.length := by simpa using h
        refine resK_mk (T := S) hT ⟨?_, rfl⟩
        have : i = e.kids.length := by omega
        subst this
        rw [List.take_length] at hd
        rw [hd]; rfl
end Go.Proofs.YtedicdnflpjhkaaDoor
