/- octroilaw32.ParserDeep: whatever the input, it answers true. No condition. -/
import Derived.Test.YtedicdnflpjhkaaDoorS21
set_option linter.unusedSimpArgs false
set_option linter.unusedVariables false
set_option maxRecDepth 100000
set_option maxHeartbeats 1000000
namespace Go.Proofs.YtedicdnflpjhkaaDoor
open Go.Aw
theorem strAdd {a b : List UInt8} (h : a.length + b.length ≤ 9223372036854775807) : strBin .add a b = some (.str (a ++ b)) := by
  unfold strBin
  simp only
  rw [if_pos (by omega)]
theorem parserDeep_ok (kind many : Int) (S : AS) : ACall Tryd.prog 3 [.v (.int .i64 kind), .v (.int .i64 many)] S fun r T => r = .ret (.v (.bool true)) ∧ T = S := by
  refine ACall.by_code Tryd.func3 rfl Tryd.ntmps3 rfl ?_
  simp -implicitDefEqProofs only [go_sem, Nat.reduceAdd, Nat.reduceSub, Nat.reduceMul, Nat.reduceEqDiff, Nat.reduceLeDiff, Nat.reduceBEq, Nat.reduceBNe, ↓reduceIte, Int.reduceToNat, Int.reduceLT, Int.reduceLE, Int.reduceEq, Int.reduceAdd, Int.reduceSub, Int.reduceNeg, Int.reduceMul, reduceCtorEq, List.reduceReplicate, Nat.reduceGT, Int.reduceGT, Int.reduceGE, Int.reduceBEq, Int.natCast_zero, Int.natCast_one, Int.cast_ofNat_Int, List.range_zero, Nat.reduceMod, Nat.reduceLT, or_false, false_or, or_self]
  by_cases h0 : many < 0
  · simp -implicitDefEqProofs only [go_sem, Nat.reduceAdd, Nat.reduceSub, Nat.reduceMul, Nat.reduceEqDiff, Nat.reduceLeDiff, Nat.reduceBEq, Nat.reduceBNe, ↓reduceIte, Int.reduceToNat, Int.reduceLT, Int.reduceLE, Int.reduceEq, Int.reduceAdd, Int.reduceSub, Int.reduceNeg, Int.reduceMul, reduceCtorEq, List.reduceReplicate, Nat.reduceGT, Int.reduceGT, Int.reduceGE, Int.reduceBEq, Int.natCast_zero, Int.natCast_one, Int.cast_ofNat_Int, List.range_zero, Nat.reduceMod, Nat.reduceLT, or_false, false_or, or_self, decide_eq_true h0]
    refine (lives_ok _).mono ?_
    rintro _ _ ⟨rfl, rfl⟩
    simp -implicitDefEqProofs only [go_sem, Nat.reduceAdd, Nat.reduceSub, Nat.reduceMul, Nat.reduceEqDiff, Nat.reduceLeDiff, Nat.reduceBEq, Nat.reduceBNe, ↓reduceIte, Int.reduceToNat, Int.reduceLT, Int.reduceLE, Int.reduceEq, Int.reduceAdd, Int.reduceSub, Int.reduceNeg, Int.reduceMul, reduceCtorEq, List.reduceReplicate, Nat.reduceGT, Int.reduceGT, Int.reduceGE, Int.reduceBEq, Int.natCast_zero, Int.natCast_one, Int.cast_ofNat_Int, List.range_zero, Nat.reduceMod, Nat.reduceLT, or_false, false_or, or_self]
    exact resK_mk (AS.le_refl _) ⟨rfl, rfl⟩
  by_cases h2 : 200 < many
  · simp -implicitDefEqProofs only [go_sem, Nat.reduceAdd, Nat.reduceSub, Nat.reduceMul, Nat.reduceEqDiff, Nat.reduceLeDiff, Nat.reduceBEq, Nat.reduceBNe, ↓reduceIte, Int.reduceToNat, Int.reduceLT, Int.reduceLE, Int.reduceEq, Int.reduceAdd, Int.reduceSub, Int.reduceNeg, Int.reduceMul, reduceCtorEq, List.reduceReplicate, Nat.reduceGT, Int.reduceGT, Int.reduceGE, Int.reduceBEq, Int.natCast_zero, Int.natCast_one, Int.cast_ofNat_Int, List.range_zero, Nat.reduceMod, Nat.reduceLT, or_false, false_or, or_self, decide_eq_false h0, decide_eq_true h2]
    refine (lives_ok _).mono ?_
    rintro _ _ ⟨rfl, rfl⟩
    simp -implicitDefEqProofs only [go_sem, Nat.reduceAdd, Nat.reduceSub, Nat.reduceMul, Nat.reduceEqDiff, Nat.reduceLeDiff, Nat.reduceBEq, Nat.reduceBNe, ↓reduceIte, Int.reduceToNat, Int.reduceLT, Int.reduceLE, Int.reduceEq, Int.reduceAdd, Int.reduceSub, Int.reduceNeg, Int.reduceMul, reduceCtorEq, List.reduceReplicate, Nat.reduceGT, Int.reduceGT, Int.reduceGE, Int.reduceBEq, Int.natCast_zero, Int.natCast_one, Int.cast_ofNat_Int, List.range_zero, Nat.reduceMod, Nat.reduceLT, or_false, false_or, or_self]
    exact resK_mk (AS.le_refl _) ⟨rfl, rfl⟩
  obtain ⟨m, rfl⟩ : ∃ m : Nat, many = (m : Int) := ⟨many.toNat, by omega⟩
  have hm : m ≤ 200 := by omega
  simp -implicitDefEqProofs only [go_sem, Nat.reduceAdd, Nat.reduceSub, Nat.reduceMul, Nat.reduceEqDiff, Nat.reduceLeDiff, Nat.reduceBEq, Nat.reduceBNe, ↓reduceIte, Int.reduceToNat, Int.reduceLT, Int.reduceLE, Int.reduceEq, Int.reduceAdd, Int.reduceSub, Int.reduceNeg, Int.reduceMul, reduceCtorEq, List.reduceReplicate, Nat.reduceGT, Int.reduceGT, Int.reduceGE, Int.reduceBEq, Int.natCast_zero, Int.natCast_one, Int.cast_ofNat_Int, List.range_zero, Nat.reduceMod, Nat.reduceLT, or_false, false_or, or_self, decide_eq_false h0, decide_eq_false h2]
  refine condK_split (fun hk => ?_) (fun hk => ?_)
  · simp -implicitDefEqProofs only [go_sem, Nat.reduceAdd, Nat.reduceSub, Nat.reduceMul, Nat.reduceEqDiff, Nat.reduceLeDiff, Nat.reduceBEq, Nat.reduceBNe, ↓reduceIte, Int.reduceToNat, Int.reduceLT, Int.reduceLE, Int.reduceEq, Int.reduceAdd, Int.reduceSub, Int.reduceNeg, Int.reduceMul, reduceCtorEq, List.reduceReplicate, Nat.reduceGT, Int.reduceGT, Int.reduceGE, Int.reduceBEq, Int.natCast_zero, Int.natCast_one, Int.cast_ofNat_Int, List.range_zero, Nat.reduceMod, Nat.reduceLT, or_false, false_or, or_self]
    refine AWp.loop (fun n a T => ∃ (i : Nat) (u : List UInt8), i + n = m ∧ u = List.replicate i 45 ∧ T = S ∧ ∃ jf : Nat → AV, a = ⟨((int kind) :: (int m) :: (jf 2) :: (jf 3) :: (bool false) :: (.str [45]) :: (.str []) :: (.str u) :: (jf 8) :: (jf 9) :: (jf 10) :: (jf 11) :: (jf 12) :: (jf 13) :: (jf 14) :: (jf 15) :: (jf 16) :: (jf 17) :: (jf 18) :: (jf 19) :: (jf 20) :: (int m) :: (int i) :: (jf 23) :: (jf 24) :: (jf 25) :: (jf 26) :: (jf 27) :: (jf 28) :: (jf 29) :: (jf 30) :: (jf 31) :: (jf 32) :: (jf 33) :: (jf 34) :: (jf 35) :: (jf 36) :: (jf 37) :: (jf 38) :: (jf 39) :: (jf 40) :: (jf 41) :: (jf 42) :: (jf 43) :: (jf 44) :: (jf 45) :: (jf 46) :: (jf 47) :: (jf 48) :: (jf 49) :: (jf 50) :: (jf 51) :: (jf 52) :: (jf 53) :: (jf 54) :: (jf 55) :: (jf 56) :: (jf 57) :: (jf 58) :: (jf 59) :: (jf 60) :: (jf 61) :: (jf 62) :: [])⟩) m ?_ ?_
    · exact ⟨0, [], by omega, rfl, rfl, (FX.mk rfl)⟩
    rintro n a T ⟨i, u, hi, hu, rfl, ⟨jf, rfl⟩⟩
    have hul : u.length = i := by rw [hu]; simp
    refine WC.sound _ _ _ _ ?_
    simp -implicitDefEqProofs only [go_sem, Nat.reduceAdd, Nat.reduceSub, Nat.reduceMul, Nat.reduceEqDiff, Nat.reduceLeDiff, Nat.reduceBEq, Nat.reduceBNe, ↓reduceIte, Int.reduceToNat, Int.reduceLT, Int.reduceLE, Int.reduceEq, Int.reduceAdd, Int.reduceSub, Int.reduceNeg, Int.reduceMul, reduceCtorEq, List.reduceReplicate, Nat.reduceGT, Int.reduceGT, Int.reduceGE, Int.reduceBEq, Int.natCast_zero, Int.natCast_one, Int.cast_ofNat_Int, List.range_zero, Nat.reduceMod, Nat.reduceLT, or_false, false_or, or_self, int, bool]
    refine condK_split (fun hc => ?_) (fun hc => ?_)
    · have hlt : i < m := by simpa using hc
      have w1 : IntKind.i64.wrap ((i : Int) + 1) = ((i + 1 : Nat) : Int) := wrap_eq (by omega) (by omega)
      simp -implicitDefEqProofs only [go_sem, Nat.reduceAdd, Nat.reduceSub, Nat.reduceMul, Nat.reduceEqDiff, Nat.reduceLeDiff, Nat.reduceBEq, Nat.reduceBNe, ↓reduceIte, Int.reduceToNat, Int.reduceLT, Int.reduceLE, Int.reduceEq, Int.reduceAdd, Int.reduceSub, Int.reduceNeg, Int.reduceMul, reduceCtorEq, List.reduceReplicate, Nat.reduceGT, Int.reduceGT, Int.reduceGE, Int.reduceBEq, Int.natCast_zero, Int.natCast_one, Int.cast_ofNat_Int, List.range_zero, Nat.reduceMod, Nat.reduceLT, or_false, false_or, or_self, w1, int, ↓strAdd (a := u) (b := [45]) (by rw [hul]; simp; omega)]
      exact ⟨n - 1, by omega, i + 1, u ++ [45], by omega, by rw [hu]; exact List.replicate_succ'.symm, (FX.mk rfl)⟩
    have him : i = m := by
      have : ¬ i < m := by simpa using hc
      omega
    subst him
    simp -implicitDefEqProofs only [go_sem, Nat.reduceAdd, Nat.reduceSub, Nat.reduceMul, Nat.reduceEqDiff, Nat.reduceLeDiff, Nat.reduceBEq, Nat.reduceBNe, ↓reduceIte, Int.reduceToNat, Int.reduceLT, Int.reduceLE, Int.reduceEq, Int.reduceAdd, Int.reduceSub, Int.reduceNeg, Int.reduceMul, reduceCtorEq, List.reduceReplicate, Nat.reduceGT, Int.reduceGT, Int.reduceGE, Int.reduceBEq, Int.natCast_zero, Int.natCast_one, Int.cast_ofNat_Int, List.range_zero, Nat.reduceMod, Nat.reduceLT, or_false, false_or, or_self, int, ↓strAdd (a := u) (b := [49]) (by rw [hul]; simp; omega)]
    refine AWp.loop (fun n a T' => ∃ (j : Nat) (v : List UInt8), j + n = i ∧ v = txt 45 i 0 ∧ T' = T ∧ ∃ jf : Nat → AV, a = ⟨((int kind) :: (int i) :: (jf 2) :: (jf 3) :: (bool false) :: (.str [45]) :: (.str []) :: (.str v) :: (jf 8) :: (jf 9) :: (jf 10) :: (jf 11) :: (jf 12) :: (jf 13) :: (jf 14) :: (jf 15) :: (jf 16) :: (jf 17) :: (jf 18) :: (jf 19) :: (jf 20) :: (jf 21) :: (jf 22) :: (jf 23) :: (jf 24) :: (jf 25) :: (jf 26) :: (jf 27) :: (jf 28) :: (jf 29) :: (int i) :: (int j) :: (jf 32) :: (jf 33) :: (jf 34) :: (jf 35) :: (jf 36) :: (jf 37) :: (jf 38) :: (jf 39) :: (jf 40) :: (jf 41) :: (jf 42) :: (jf 43) :: (jf 44) :: (jf 45) :: (jf 46) :: (jf 47) :: (jf 48) :: (jf 49) :: (jf 50) :: (jf 51) :: (jf 52) :: (jf 53) :: (jf 54) :: (jf 55) :: (jf 56) :: (jf 57) :: (jf 58) :: (jf 59) :: (jf 60) :: (jf 61) :: (jf 62) :: [])⟩) i ?_ ?_
    · exact ⟨0, u ++ [49], by omega, by rw [hu]; rfl, rfl, (FX.mk rfl)⟩
    rintro n' a T' ⟨j, v, hj, hv, hTT, ⟨jf, rfl⟩⟩
    subst hTT
    have hvl : v.length = i + (1 + 0) := by rw [hv, txt_length]
    refine WC.sound _ _ _ _ ?_
    simp -implicitDefEqProofs only [go_sem, Nat.reduceAdd, Nat.reduceSub, Nat.reduceMul, Nat.reduceEqDiff, Nat.reduceLeDiff, Nat.reduceBEq, Nat.reduceBNe, ↓reduceIte, Int.reduceToNat, Int.reduceLT, Int.reduceLE, Int.reduceEq, Int.reduceAdd, Int.reduceSub, Int.reduceNeg, Int.reduceMul, reduceCtorEq, List.reduceReplicate, Nat.reduceGT, Int.reduceGT, Int.reduceGE, Int.reduceBEq, Int.natCast_zero, Int.natCast_one, Int.cast_ofNat_Int, List.range_zero, Nat.reduceMod, Nat.reduceLT, or_false, false_or, or_self, int, bool]
    refine condK_split (fun hc => ?_) (fun hc => ?_)
    · have hlt : j < i := by simpa using hc
      have w1 : IntKind.i64.wrap ((j : Int) + 1) = ((j + 1 : Nat) : Int) := wrap_eq (by omega) (by omega)
      simp -implicitDefEqProofs only [go_sem, Nat.reduceAdd, Nat.reduceSub, Nat.reduceMul, Nat.reduceEqDiff, Nat.reduceLeDiff, Nat.reduceBEq, Nat.reduceBNe, ↓reduceIte, Int.reduceToNat, Int.reduceLT, Int.reduceLE, Int.reduceEq, Int.reduceAdd, Int.reduceSub, Int.reduceNeg, Int.reduceMul, reduceCtorEq, List.reduceReplicate, Nat.reduceGT, Int.reduceGT, Int.reduceGE, Int.reduceBEq, Int.natCast_zero, Int.natCast_one, Int.cast_ofNat_Int, List.range_zero, Nat.reduceMod, Nat.reduceLT, or_false, false_or, or_self, w1, int, ↓strAdd (a := v) (b := []) (by rw [hvl]; simp; omega)]
      exact ⟨n' - 1, by omega, j + 1, v, by omega, hv, (FX.mk rfl)⟩
    have hji : j = i := by
      have : ¬ j < i := by simpa using hc
      omega
    subst hji
    obtain ⟨he, hf⟩ := deep_minus j v.length hm
    simp -implicitDefEqProofs only [go_sem, Nat.reduceAdd, Nat.reduceSub, Nat.reduceMul, Nat.reduceEqDiff, Nat.reduceLeDiff, Nat.reduceBEq, Nat.reduceBNe, ↓reduceIte, Int.reduceToNat, Int.reduceLT, Int.reduceLE, Int.reduceEq, Int.reduceAdd, Int.reduceSub, Int.reduceNeg, Int.reduceMul, reduceCtorEq, List.reduceReplicate, Nat.reduceGT, Int.reduceGT, Int.reduceGE, Int.reduceBEq, Int.natCast_zero, Int.natCast_one, Int.cast_ofNat_Int, List.range_zero, Nat.reduceMod, Nat.reduceLT, or_false, false_or, or_self]
    refine (Expr_ok v (sg 45 j 0 ++ one1 j :: sg 41 0 (j + 1)) (0 + 1 + 0 + 1 + j) 300 (deepR j (neg j)) _ (by rw [hv]; exact txt_ascii 45 (by decide) j 0) (by rw [hvl]; omega) (by omega) (by rw [hv]; exact lex_txt 45 (by simp) j 0 0) he hf).mono ?_
    rintro _ _ ⟨rfl, rfl⟩
    unfold deepR
    by_cases hlt : j < 64
    · have hlt' : (j : Int) < 64 := by omega
      simp -implicitDefEqProofs only [go_sem, Nat.reduceAdd, Nat.reduceSub, Nat.reduceMul, Nat.reduceEqDiff, Nat.reduceLeDiff, Nat.reduceBEq, Nat.reduceBNe, ↓reduceIte, Int.reduceToNat, Int.reduceLT, Int.reduceLE, Int.reduceEq, Int.reduceAdd, Int.reduceSub, Int.reduceNeg, Int.reduceMul, reduceCtorEq, List.reduceReplicate, Nat.reduceGT, Int.reduceGT, Int.reduceGE, Int.reduceBEq, Int.natCast_zero, Int.natCast_one, Int.cast_ofNat_Int, List.range_zero, Nat.reduceMod, Nat.reduceLT, or_false, false_or, or_self, hlt, exprV, encE_length, encE_one]
      intro B8 hB8
      simp -implicitDefEqProofs only [go_sem, Nat.reduceAdd, Nat.reduceSub, Nat.reduceMul, Nat.reduceEqDiff, Nat.reduceLeDiff, Nat.reduceBEq, Nat.reduceBNe, ↓reduceIte, Int.reduceToNat, Int.reduceLT, Int.reduceLE, Int.reduceEq, Int.reduceAdd, Int.reduceSub, Int.reduceNeg, Int.reduceMul, reduceCtorEq, List.reduceReplicate, Nat.reduceGT, Int.reduceGT, Int.reduceGE, Int.reduceBEq, Int.natCast_zero, Int.natCast_one, Int.cast_ofNat_Int, List.range_zero, Nat.reduceMod, Nat.reduceLT, or_false, false_or, or_self, encE_length, encE_one, encE_take, decide_eq_true hlt']
      refine ((lives_ok _).mono ?_)
      rintro _ _ ⟨rfl, rfl⟩
      simp -implicitDefEqProofs only [go_sem, Nat.reduceAdd, Nat.reduceSub, Nat.reduceMul, Nat.reduceEqDiff, Nat.reduceLeDiff, Nat.reduceBEq, Nat.reduceBNe, ↓reduceIte, Int.reduceToNat, Int.reduceLT, Int.reduceLE, Int.reduceEq, Int.reduceAdd, Int.reduceSub, Int.reduceNeg, Int.reduceMul, reduceCtorEq, List.reduceReplicate, Nat.reduceGT, Int.reduceGT, Int.reduceGE, Int.reduceBEq, Int.natCast_zero, Int.natCast_one, Int.cast_ofNat_Int, List.range_zero, Nat.reduceMod, Nat.reduceLT, or_false, false_or, or_self]
      refine resK_mk ?_ ⟨rfl, rfl⟩
      rw [AS.set_set]; exact AS.le_set hB8
    · have hlt' : ¬ (j : Int) < 64 := by omega
      simp -implicitDefEqProofs only [go_sem, Nat.reduceAdd, Nat.reduceSub, Nat.reduceMul, Nat.reduceEqDiff, Nat.reduceLeDiff, Nat.reduceBEq, Nat.reduceBNe, ↓reduceIte, Int.reduceToNat, Int.reduceLT, Int.reduceLE, Int.reduceEq, Int.reduceAdd, Int.reduceSub, Int.reduceNeg, Int.reduceMul, reduceCtorEq, List.reduceReplicate, Nat.reduceGT, Int.reduceGT, Int.reduceGE, Int.reduceBEq, Int.natCast_zero, Int.natCast_one, Int.cast_ofNat_Int, List.range_zero, Nat.reduceMod, Nat.reduceLT, or_false, false_or, or_self, hlt, exprV]
      intro B8 hB8
      simp -implicitDefEqProofs only [go_sem, Nat.reduceAdd, Nat.reduceSub, Nat.reduceMul, Nat.reduceEqDiff, Nat.reduceLeDiff, Nat.reduceBEq, Nat.reduceBNe, ↓reduceIte, Int.reduceToNat, Int.reduceLT, Int.reduceLE, Int.reduceEq, Int.reduceAdd, Int.reduceSub, Int.reduceNeg, Int.reduceMul, reduceCtorEq, List.reduceReplicate, Nat.reduceGT, Int.reduceGT, Int.reduceGE, Int.reduceBEq, Int.natCast_zero, Int.natCast_one, Int.cast_ofNat_Int, List.range_zero, Nat.reduceMod, Nat.reduceLT, or_false, false_or, or_self, decide_eq_false hlt']
      refine ((lives_ok _).mono ?_)
      rintro _ _ ⟨rfl, rfl⟩
      simp -implicitDefEqProofs only [go_sem, Nat.reduceAdd, Nat.reduceSub, Nat.reduceMul, Nat.reduceEqDiff, Nat.reduceLeDiff, Nat.reduceBEq, Nat.reduceBNe, ↓reduceIte, Int.reduceToNat, Int.reduceLT, Int.reduceLE, Int.reduceEq, Int.reduceAdd, Int.reduceSub, Int.reduceNeg, Int.reduceMul, reduceCtorEq, List.reduceReplicate, Nat.reduceGT, Int.reduceGT, Int.reduceGE, Int.reduceBEq, Int.natCast_zero, Int.natCast_one, Int.cast_ofNat_Int, List.range_zero, Nat.reduceMod, Nat.reduceLT, or_false, false_or, or_self]
      refine resK_mk ?_ ⟨rfl, rfl⟩
      rw [AS.set_set]; exact AS.le_set hB8
  · simp -implicitDefEqProofs only [go_sem, Nat.reduceAdd, Nat.reduceSub, Nat.reduceMul, Nat.reduceEqDiff, Nat.reduceLeDiff, Nat.reduceBEq, Nat.reduceBNe, ↓reduceIte, Int.reduceToNat, Int.reduceLT, Int.reduceLE, Int.reduceEq, Int.reduceAdd, Int.reduceSub, Int.reduceNeg, Int.reduceMul, reduceCtorEq, List.reduceReplicate, Nat.reduceGT, Int.reduceGT, Int.reduceGE, Int.reduceBEq, Int.natCast_zero, Int.natCast_one, Int.cast_ofNat_Int, List.range_zero, Nat.reduceMod, Nat.reduceLT, or_false, false_or, or_self]
    refine AWp.loop (fun n a T => ∃ (i : Nat) (u : List UInt8), i + n = m ∧ u = List.replicate i 40 ∧ T = S ∧ ∃ jf : Nat → AV, a = ⟨((int kind) :: (int m) :: (jf 2) :: (jf 3) :: (bool false) :: (.str [40]) :: (.str [41]) :: (.str u) :: (jf 8) :: (jf 9) :: (jf 10) :: (jf 11) :: (jf 12) :: (jf 13) :: (jf 14) :: (jf 15) :: (jf 16) :: (jf 17) :: (jf 18) :: (jf 19) :: (jf 20) :: (int m) :: (int i) :: (jf 23) :: (jf 24) :: (jf 25) :: (jf 26) :: (jf 27) :: (jf 28) :: (jf 29) :: (jf 30) :: (jf 31) :: (jf 32) :: (jf 33) :: (jf 34) :: (jf 35) :: (jf 36) :: (jf 37) :: (jf 38) :: (jf 39) :: (jf 40) :: (jf 41) :: (jf 42) :: (jf 43) :: (jf 44) :: (jf 45) :: (jf 46) :: (jf 47) :: (jf 48) :: (jf 49) :: (jf 50) :: (jf 51) :: (jf 52) :: (jf 53) :: (jf 54) :: (jf 55) :: (jf 56) :: (jf 57) :: (jf 58) :: (jf 59) :: (jf 60) :: (jf 61) :: (jf 62) :: [])⟩) m ?_ ?_
    · exact ⟨0, [], by omega, rfl, rfl, (FX.mk rfl)⟩
    rintro n a T ⟨i, u, hi, hu, rfl, ⟨jf, rfl⟩⟩
    have hul : u.length = i := by rw [hu]; simp
    refine WC.sound _ _ _ _ ?_
    simp -implicitDefEqProofs only [go_sem, Nat.reduceAdd, Nat.reduceSub, Nat.reduceMul, Nat.reduceEqDiff, Nat.reduceLeDiff, Nat.reduceBEq, Nat.reduceBNe, ↓reduceIte, Int.reduceToNat, Int.reduceLT, Int.reduceLE, Int.reduceEq, Int.reduceAdd, Int.reduceSub, Int.reduceNeg, Int.reduceMul, reduceCtorEq, List.reduceReplicate, Nat.reduceGT, Int.reduceGT, Int.reduceGE, Int.reduceBEq, Int.natCast_zero, Int.natCast_one, Int.cast_ofNat_Int, List.range_zero, Nat.reduceMod, Nat.reduceLT, or_false, false_or, or_self, int, bool]
    refine condK_split (fun hc => ?_) (fun hc => ?_)
    · have hlt : i < m := by simpa using hc
      have w1 : IntKind.i64.wrap ((i : Int) + 1) = ((i + 1 : Nat) : Int) := wrap_eq (by omega) (by omega)
      simp -implicitDefEqProofs only [go_sem, Nat.reduceAdd, Nat.reduceSub, Nat.reduceMul, Nat.reduceEqDiff, Nat.reduceLeDiff, Nat.reduceBEq, Nat.reduceBNe, ↓reduceIte, Int.reduceToNat, Int.reduceLT, Int.reduceLE, Int.reduceEq, Int.reduceAdd, Int.reduceSub, Int.reduceNeg, Int.reduceMul, reduceCtorEq, List.reduceReplicate, Nat.reduceGT, Int.reduceGT, Int.reduceGE, Int.reduceBEq, Int.natCast_zero, Int.natCast_one, Int.cast_ofNat_Int, List.range_zero, Nat.reduceMod, Nat.reduceLT, or_false, false_or, or_self, w1, int, ↓strAdd (a := u) (b := [40]) (by rw [hul]; simp; omega)]
      exact ⟨n - 1, by omega, i + 1, u ++ [40], by omega, by rw [hu]; exact List.replicate_succ'.symm, (FX.mk rfl)⟩
    have him : i = m := by
      have : ¬ i < m := by simpa using hc
      omega
    subst him
    simp -implicitDefEqProofs only [go_sem, Nat.reduceAdd, Nat.reduceSub, Nat.reduceMul, Nat.reduceEqDiff, Nat.reduceLeDiff, Nat.reduceBEq, Nat.reduceBNe, ↓reduceIte, Int.reduceToNat, Int.reduceLT, Int.reduceLE, Int.reduceEq, Int.reduceAdd, Int.reduceSub, Int.reduceNeg, Int.reduceMul, reduceCtorEq, List.reduceReplicate, Nat.reduceGT, Int.reduceGT, Int.reduceGE, Int.reduceBEq, Int.natCast_zero, Int.natCast_one, Int.cast_ofNat_Int, List.range_zero, Nat.reduceMod, Nat.reduceLT, or_false, false_or, or_self, int, ↓strAdd (a := u) (b := [49]) (by rw [hul]; simp; omega)]
    refine AWp.loop (fun n a T' => ∃ (j : Nat) (v : List UInt8), j + n = i ∧ v = txt 40 i j ∧ T' = T ∧ ∃ jf : Nat → AV, a = ⟨((int kind) :: (int i) :: (jf 2) :: (jf 3) :: (bool false) :: (.str [40]) :: (.str [41]) :: (.str v) :: (jf 8) :: (jf 9) :: (jf 10) :: (jf 11) :: (jf 12) :: (jf 13) :: (jf 14) :: (jf 15) :: (jf 16) :: (jf 17) :: (jf 18) :: (jf 19) :: (jf 20) :: (jf 21) :: (jf 22) :: (jf 23) :: (jf 24) :: (jf 25) :: (jf 26) :: (jf 27) :: (jf 28) :: (jf 29) :: (int i) :: (int j) :: (jf 32) :: (jf 33) :: (jf 34) :: (jf 35) :: (jf 36) :: (jf 37) :: (jf 38) :: (jf 39) :: (jf 40) :: (jf 41) :: (jf 42) :: (jf 43) :: (jf 44) :: (jf 45) :: (jf 46) :: (jf 47) :: (jf 48) :: (jf 49) :: (jf 50) :: (jf 51) :: (jf 52) :: (jf 53) :: (jf 54) :: (jf 55) :: (jf 56) :: (jf 57) :: (jf 58) :: (jf 59) :: (jf 60) :: (jf 61) :: (jf 62) :: [])⟩) i ?_ ?_
    · exact ⟨0, u ++ [49], by omega, by rw [hu]; rfl, rfl, (FX.mk rfl)⟩
    rintro n' a T' ⟨j, v, hj, hv, hTT, ⟨jf, rfl⟩⟩
    subst hTT
    have hvl : v.length = i + (1 + j) := by rw [hv, txt_length]
    refine WC.sound _ _ _ _ ?_
    simp -implicitDefEqProofs only [go_sem, Nat.reduceAdd, Nat.reduceSub, Nat.reduceMul, Nat.reduceEqDiff, Nat.reduceLeDiff, Nat.reduceBEq, Nat.reduceBNe, ↓reduceIte, Int.reduceToNat, Int.reduceLT, Int.reduceLE, Int.reduceEq, Int.reduceAdd, Int.reduceSub, Int.reduceNeg, Int.reduceMul, reduceCtorEq, List.reduceReplicate, Nat.reduceGT, Int.reduceGT, Int.reduceGE, Int.reduceBEq, Int.natCast_zero, Int.natCast_one, Int.cast_ofNat_Int, List.range_zero, Nat.reduceMod, Nat.reduceLT, or_false, false_or, or_self, int, bool]
    refine condK_split (fun hc => ?_) (fun hc => ?_)
    · have hlt : j < i := by simpa using hc
      have w1 : IntKind.i64.wrap ((j : Int) + 1) = ((j + 1 : Nat) : Int) := wrap_eq (by omega) (by omega)
      simp -implicitDefEqProofs only [go_sem, Nat.reduceAdd, Nat.reduceSub, Nat.reduceMul, Nat.reduceEqDiff, Nat.reduceLeDiff, Nat.reduceBEq, Nat.reduceBNe, ↓reduceIte, Int.reduceToNat, Int.reduceLT, Int.reduceLE, Int.reduceEq, Int.reduceAdd, Int.reduceSub, Int.reduceNeg, Int.reduceMul, reduceCtorEq, List.reduceReplicate, Nat.reduceGT, Int.reduceGT, Int.reduceGE, Int.reduceBEq, Int.natCast_zero, Int.natCast_one, Int.cast_ofNat_Int, List.range_zero, Nat.reduceMod, Nat.reduceLT, or_false, false_or, or_self, w1, int, ↓strAdd (a := v) (b := [41]) (by rw [hvl]; simp; omega)]
      exact ⟨n' - 1, by omega, j + 1, v ++ [41], by omega, by rw [hv]; simp [txt, List.replicate_succ'], (FX.mk rfl)⟩
    have hji : j = i := by
      have : ¬ j < i := by simpa using hc
      omega
    subst hji
    obtain ⟨he, hf⟩ := deep_open j v.length hm
    simp -implicitDefEqProofs only [go_sem, Nat.reduceAdd, Nat.reduceSub, Nat.reduceMul, Nat.reduceEqDiff, Nat.reduceLeDiff, Nat.reduceBEq, Nat.reduceBNe, ↓reduceIte, Int.reduceToNat, Int.reduceLT, Int.reduceLE, Int.reduceEq, Int.reduceAdd, Int.reduceSub, Int.reduceNeg, Int.reduceMul, reduceCtorEq, List.reduceReplicate, Nat.reduceGT, Int.reduceGT, Int.reduceGE, Int.reduceBEq, Int.natCast_zero, Int.natCast_one, Int.cast_ofNat_Int, List.range_zero, Nat.reduceMod, Nat.reduceLT, or_false, false_or, or_self]
    refine (Expr_ok v (sg 40 j 0 ++ one1 j :: sg 41 j (j + 1)) (0 + 1 + j + 1 + j) 300 (deepR j (neg 0)) _ (by rw [hv]; exact txt_ascii 40 (by decide) j j) (by rw [hvl]; omega) (by omega) (by rw [hv]; exact lex_txt 40 (by simp) j j 0) he hf).mono ?_
    rintro _ _ ⟨rfl, rfl⟩
    unfold deepR
    by_cases hlt : j < 64
    · have hlt' : (j : Int) < 64 := by omega
      simp -implicitDefEqProofs only [go_sem, Nat.reduceAdd, Nat.reduceSub, Nat.reduceMul, Nat.reduceEqDiff, Nat.reduceLeDiff, Nat.reduceBEq, Nat.reduceBNe, ↓reduceIte, Int.reduceToNat, Int.reduceLT, Int.reduceLE, Int.reduceEq, Int.reduceAdd, Int.reduceSub, Int.reduceNeg, Int.reduceMul, reduceCtorEq, List.reduceReplicate, Nat.reduceGT, Int.reduceGT, Int.reduceGE, Int.reduceBEq, Int.natCast_zero, Int.natCast_one, Int.cast_ofNat_Int, List.range_zero, Nat.reduceMod, Nat.reduceLT, or_false, false_or, or_self, hlt, exprV, encE_length, encE_one]
      intro B8 hB8
      simp -implicitDefEqProofs only [go_sem, Nat.reduceAdd, Nat.reduceSub, Nat.reduceMul, Nat.reduceEqDiff, Nat.reduceLeDiff, Nat.reduceBEq, Nat.reduceBNe, ↓reduceIte, Int.reduceToNat, Int.reduceLT, Int.reduceLE, Int.reduceEq, Int.reduceAdd, Int.reduceSub, Int.reduceNeg, Int.reduceMul, reduceCtorEq, List.reduceReplicate, Nat.reduceGT, Int.reduceGT, Int.reduceGE, Int.reduceBEq, Int.natCast_zero, Int.natCast_one, Int.cast_ofNat_Int, List.range_zero, Nat.reduceMod, Nat.reduceLT, or_false, false_or, or_self, encE_length, encE_one, encE_take, decide_eq_true hlt']
      refine ((lives_ok _).mono ?_)
      rintro _ _ ⟨rfl, rfl⟩
      simp -implicitDefEqProofs only [go_sem, Nat.reduceAdd, Nat.reduceSub, Nat.reduceMul, Nat.reduceEqDiff, Nat.reduceLeDiff, Nat.reduceBEq, Nat.reduceBNe, ↓reduceIte, Int.reduceToNat, Int.reduceLT, Int.reduceLE, Int.reduceEq, Int.reduceAdd, Int.reduceSub, Int.reduceNeg, Int.reduceMul, reduceCtorEq, List.reduceReplicate, Nat.reduceGT, Int.reduceGT, Int.reduceGE, Int.reduceBEq, Int.natCast_zero, Int.natCast_one, Int.cast_ofNat_Int, List.range_zero, Nat.reduceMod, Nat.reduceLT, or_false, false_or, or_self]
      refine resK_mk ?_ ⟨rfl, rfl⟩
      rw [AS.set_set]; exact AS.le_set hB8
    · have hlt' : ¬ (j : Int) < 64 := by omega
      simp -implicitDefEqProofs only [go_sem, Nat.reduceAdd, Nat.reduceSub, Nat.reduceMul, Nat.reduceEqDiff, Nat.reduceLeDiff, Nat.reduceBEq, Nat.reduceBNe, ↓reduceIte, Int.reduceToNat, Int.reduceLT, Int.reduceLE, Int.reduceEq, Int.reduceAdd, Int.reduceSub, Int.reduceNeg, Int.reduceMul, reduceCtorEq, List.reduceReplicate, Nat.reduceGT, Int.reduceGT, Int.reduceGE, Int.reduceBEq, Int.natCast_zero, Int.natCast_one, Int.cast_ofNat_Int, List.range_zero, Nat.reduceMod, Nat.reduceLT, or_false, false_or, or_self, hlt, exprV]
      intro B8 hB8
      simp -implicitDefEqProofs only [go_sem, Nat.reduceAdd, Nat.reduceSub, Nat.reduceMul, Nat.reduceEqDiff, Nat.reduceLeDiff, Nat.reduceBEq, Nat.reduceBNe, ↓reduceIte, Int.reduceToNat, Int.reduceLT, Int.reduceLE, Int.reduceEq, Int.reduceAdd, Int.reduceSub, Int.reduceNeg, Int.reduceMul, reduceCtorEq, List.reduceReplicate, Nat.reduceGT, Int.reduceGT, Int.reduceGE, Int.reduceBEq, Int.natCast_zero, Int.natCast_one, Int.cast_ofNat_Int, List.range_zero, Nat.reduceMod, Nat.reduceLT, or_false, false_or, or_self, decide_eq_false hlt']
      refine ((lives_ok _).mono ?_)
      rintro _ _ ⟨rfl, rfl⟩
      simp -implicitDefEqProofs only [go_sem, Nat.reduceAdd, Nat.reduceSub, Nat.reduceMul, Nat.reduceEqDiff, Nat.reduceLeDiff, Nat.reduceBEq, Nat.reduceBNe, ↓reduceIte, Int.reduceToNat, Int.reduceLT, Int.reduceLE, Int.reduceEq, Int.reduceAdd, Int.reduceSub, Int.reduceNeg, Int.reduceMul, reduceCtorEq, List.reduceReplicate, Nat.reduceGT, Int.reduceGT, Int.reduceGE, Int.reduceBEq, Int.natCast_zero, Int.natCast_one, Int.cast_ofNat_Int, List.range_zero, Nat.reduceMod, Nat.reduceLT, or_false, false_or, or_self]
      refine resK_mk ?_ ⟨rfl, rfl⟩
      rw [AS.set_set]; exact AS.le_set hB8
end Go.Proofs.YtedicdnflpjhkaaDoor
