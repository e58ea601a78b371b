/- lexer.number, lexer.gap over plain text: what they answer. No condition beyond the bounds named. -/
import Derived.Test.YtedicdnflpjhkaaDoorS3
set_option linter.unusedSimpArgs false
set_option linter.unusedVariables false
set_option maxRecDepth 100000
set_option maxHeartbeats 1000000
namespace Go.Proofs.YtedicdnflpjhkaaDoor
open Go.Aw
def numL (l : List UInt8) : Nat := l.foldl (fun n b => 10 * n + (b.toNat - 48)) 0
def Digits (l : List UInt8) : Prop := ∀ b ∈ l, 48 ≤ b.toNat ∧ b.toNat ≤ 57
theorem Digits.ascii {l : List UInt8} (h : Digits l) : Ascii l := fun b hb => by have := h b hb; omega
theorem numL_take {l : List UInt8} {i : Nat} (h : i < l.length) : numL (l.take (i + 1)) = 10 * numL (l.take i) + (l[i].toNat - 48) := by
  unfold numL; rw [List.take_succ_eq_append_getElem h, List.foldl_append]; rfl
theorem numL_lt {l : List UInt8} (hd : Digits l) : ∀ i, i ≤ l.length → numL (l.take i) < 10 ^ i
  | 0, _ => by simp [numL]
  | i + 1, h => by
    have := numL_lt hd i (by omega)
    rw [numL_take (by omega)]
    have hb := hd l[i] (List.getElem_mem _)
    rw [Nat.pow_succ]; omega
theorem wrap32_eq {x y : Int} (h : -2147483648 ≤ x ∧ x ≤ 2147483647) (e : x = y) : IntKind.i32.wrap x = y := by rw [IntKind.wrap_i32]; omega
theorem number_ok (l : List UInt8) (S : AS) (hl : Digits l) (h18 : l.length ≤ 18) : ACall Tryd.prog 40 [.str l] S fun r T => r = .ret (.v (.int .i64 (numL l))) ∧ T = S := by
  refine ACall.by_code Tryd.func40 rfl Tryd.ntmps40 rfl ?_
  simp -implicitDefEqProofs only [go_sem, Nat.reduceAdd, Nat.reduceSub, Nat.reduceMul, Nat.reduceEqDiff, Nat.reduceLeDiff, Nat.reduceBEq, Nat.reduceBNe, ↓reduceIte, Int.reduceToNat, Int.reduceLT, Int.reduceLE, Int.reduceEq, Int.reduceAdd, Int.reduceSub, Int.reduceNeg, Int.reduceMul, reduceCtorEq, List.reduceReplicate, Nat.reduceGT, Int.reduceGT, Int.reduceGE, Int.reduceBEq, Int.natCast_zero, Int.natCast_one, Int.cast_ofNat_Int, List.range_zero, Nat.reduceMod, Nat.reduceLT, or_false, false_or, or_self]
  intro B hB
  refine AWp.loop (fun n a T => ∃ i : Nat, i + n = l.length ∧ T = S.set B (.siter l i) ∧ ∃ j1 j3 j4 j5 j7 j8 j9 j10 j11 j12 j13 j14 j15 j16 : AV, a = ⟨[.str l, j1, int (numL (l.take i)), j3, j4, j5, .ptr B 0, j7, j8, j9, j10, j11, j12, j13, j14, j15, j16]⟩) l.length ?_ ?_
  · exact ⟨0, by omega, rfl, ⟨_, _, _, _, _, _, _, _, _, _, _, _, _, _, rfl⟩⟩
  · rintro n a T ⟨i, hi, rfl, ⟨j1, j3, j4, j5, j7, j8, j9, j10, j11, j12, j13, j14, j15, j16, rfl⟩⟩
    refine WC.sound _ _ _ _ ?_
    by_cases hlt : i < l.length
    · have hd := decode_ascii hlt (hl.ascii.at hlt)
      have hb := hl l[i] (List.getElem_mem _)
      have hn := numL_lt hl i (by omega)
      have h17 : 10 ^ i ≤ 10 ^ 17 := Nat.pow_le_pow_right (by omega) (by omega)
      have hnn : numL (l.take i) < 100000000000000000 := by omega
      have w1 : IntKind.i64.wrap (10 * ((numL (l.take i) : Nat) : Int)) = 10 * ((numL (l.take i) : Nat) : Int) := wrap_eq (by omega) rfl
      have w2 : IntKind.i32.wrap ((l[i].toNat : Int) - 48) = (l[i].toNat : Int) - 48 := wrap32_eq (by omega) rfl
      have w3 : IntKind.i64.wrap ((l[i].toNat : Int) - 48) = (l[i].toNat : Int) - 48 := wrap_eq (by omega) rfl
      have w4 : IntKind.i64.wrap (10 * ((numL (l.take i) : Nat) : Int) + ((l[i].toNat : Int) - 48)) = ((numL (l.take (i + 1)) : Nat) : Int) := wrap_eq (by omega) (by rw [numL_take hlt]; omega)
      simp -implicitDefEqProofs only [go_sem, Nat.reduceAdd, Nat.reduceSub, Nat.reduceMul, Nat.reduceEqDiff, Nat.reduceLeDiff, Nat.reduceBEq, Nat.reduceBNe, ↓reduceIte, Int.reduceToNat, Int.reduceLT, Int.reduceLE, Int.reduceEq, Int.reduceAdd, Int.reduceSub, Int.reduceNeg, Int.reduceMul, reduceCtorEq, List.reduceReplicate, Nat.reduceGT, Int.reduceGT, Int.reduceGE, Int.reduceBEq, Int.natCast_zero, Int.natCast_one, Int.cast_ofNat_Int, List.range_zero, Nat.reduceMod, Nat.reduceLT, or_false, false_or, or_self, hlt, hd, int, AS.set_set, w1, w2, w3, w4]
      exact ⟨n - 1, by omega, i + 1, by omega, rfl, ⟨_, _, _, _, _, _, _, _, _, _, _, _, _, _, rfl⟩⟩
    · simp -implicitDefEqProofs only [go_sem, Nat.reduceAdd, Nat.reduceSub, Nat.reduceMul, Nat.reduceEqDiff, Nat.reduceLeDiff, Nat.reduceBEq, Nat.reduceBNe, ↓reduceIte, Int.reduceToNat, Int.reduceLT, Int.reduceLE, Int.reduceEq, Int.reduceAdd, Int.reduceSub, Int.reduceNeg, Int.reduceMul, reduceCtorEq, List.reduceReplicate, Nat.reduceGT, Int.reduceGT, Int.reduceGE, Int.reduceBEq, Int.natCast_zero, Int.natCast_one, Int.cast_ofNat_Int, List.range_zero, Nat.reduceMod, Nat.reduceLT, or_false, false_or, or_self, hlt, AS.set_set, int]
      have hil : i = l.length := by omega
      refine resK_mk (AS.le_set hB) ⟨?_, rfl⟩
      rw [hil, List.take_length]
def gapG : Bool → List UInt8 → Nat
  | _, [] => 0
  | r, c :: l => if c.toNat = 10 then 1 + gapG false l else if r then 1 + gapG true l else if c.toNat = 35 then 1 + gapG true l else if c.toNat ≠ 32 ∧ c.toNat ≠ 9 ∧ c.toNat ≠ 13 then 0 else 1 + gapG false l
theorem gapG_le : ∀ (l : List UInt8) (r : Bool), gapG r l ≤ l.length
  | [], r => by simp [gapG]
  | c :: l, r => by
    have h1 := gapG_le l true
    have h2 := gapG_le l false
    unfold gapG; (repeat' split) <;> simp only [List.length_cons] <;> omega
theorem gap_ok (l : List UInt8) (S : AS) (hl : Ascii l) : ACall Tryd.prog 37 [.str l] S fun r T => r = .ret (.v (.int .i64 (gapG false l))) ∧ T = S := by
  refine ACall.by_code Tryd.func37 rfl Tryd.ntmps37 rfl ?_
  simp -implicitDefEqProofs only [go_sem, Nat.reduceAdd, Nat.reduceSub, Nat.reduceMul, Nat.reduceEqDiff, Nat.reduceLeDiff, Nat.reduceBEq, Nat.reduceBNe, ↓reduceIte, Int.reduceToNat, Int.reduceLT, Int.reduceLE, Int.reduceEq, Int.reduceAdd, Int.reduceSub, Int.reduceNeg, Int.reduceMul, reduceCtorEq, List.reduceReplicate, Nat.reduceGT, Int.reduceGT, Int.reduceGE, Int.reduceBEq, Int.natCast_zero, Int.natCast_one, Int.cast_ofNat_Int, List.range_zero, Nat.reduceMod, Nat.reduceLT, or_false, false_or, or_self]
  intro B hB
  refine AWp.loop (fun n a T => ∃ (i : Nat) (r : Bool), i + n = l.length ∧ gapG false l = i + gapG r (l.drop i) ∧ T = S.set B (.siter l i) ∧ ∃ j1 j2 j4 j5 j6 j8 j9 j10 j11 j12 j13 j14 j15 j16 j17 j18 j19 j20 j21 j22 j23 j24 j25 j26 j27 j28 j29 j30 j31 j32 j33 : AV, a = ⟨[.str l, j1, j2, bool r, j4, j5, j6, .ptr B 0, j8, j9, j10, j11, j12, j13, j14, j15, j16, j17, j18, j19, j20, j21, j22, j23, j24, j25, j26, j27, j28, j29, j30, j31, j32, j33]⟩) l.length ?_ ?_
  · exact ⟨0, false, by omega, by simp, rfl, ⟨_, _, _, _, _, _, _, _, _, _, _, _, _, _, _, _, _, _, _, _, _, _, _, _, _, _, _, _, _, _, _, rfl⟩⟩
  · rintro n a T ⟨i, r, hi, hg, rfl, ⟨j1, j2, j4, j5, j6, j8, j9, j10, j11, j12, j13, j14, j15, j16, j17, j18, j19, j20, j21, j22, j23, j24, j25, j26, j27, j28, j29, j30, j31, j32, j33, rfl⟩⟩
    refine WC.sound _ _ _ _ ?_
    by_cases hlt : i < l.length
    · have hd := decode_ascii hlt (hl.at hlt)
      have hdr : l.drop i = l[i] :: l.drop (i + 1) := List.drop_eq_getElem_cons hlt
      rw [hdr, gapG] at hg
      cases r <;> simp only [Bool.false_eq_true, if_false, if_true] at hg <;> simp -implicitDefEqProofs only [go_sem, Nat.reduceAdd, Nat.reduceSub, Nat.reduceMul, Nat.reduceEqDiff, Nat.reduceLeDiff, Nat.reduceBEq, Nat.reduceBNe, ↓reduceIte, Int.reduceToNat, Int.reduceLT, Int.reduceLE, Int.reduceEq, Int.reduceAdd, Int.reduceSub, Int.reduceNeg, Int.reduceMul, reduceCtorEq, List.reduceReplicate, Nat.reduceGT, Int.reduceGT, Int.reduceGE, Int.reduceBEq, Int.natCast_zero, Int.natCast_one, Int.cast_ofNat_Int, List.range_zero, Nat.reduceMod, Nat.reduceLT, or_false, false_or, or_self, hlt, hd, int, bool, AS.set_set]
      all_goals repeat' (first
        | (refine guardK_split (fun h => ?_) (fun h => ?_) <;> simp -implicitDefEqProofs only [go_sem, Nat.reduceAdd, Nat.reduceSub, Nat.reduceMul, Nat.reduceEqDiff, Nat.reduceLeDiff, Nat.reduceBEq, Nat.reduceBNe, ↓reduceIte, Int.reduceToNat, Int.reduceLT, Int.reduceLE, Int.reduceEq, Int.reduceAdd, Int.reduceSub, Int.reduceNeg, Int.reduceMul, reduceCtorEq, List.reduceReplicate, Nat.reduceGT, Int.reduceGT, Int.reduceGE, Int.reduceBEq, Int.natCast_zero, Int.natCast_one, Int.cast_ofNat_Int, List.range_zero, Nat.reduceMod, Nat.reduceLT, or_false, false_or, or_self, h])
        | (refine condK_split (fun h => ?_) (fun h => ?_) <;> simp -implicitDefEqProofs only [go_sem, Nat.reduceAdd, Nat.reduceSub, Nat.reduceMul, Nat.reduceEqDiff, Nat.reduceLeDiff, Nat.reduceBEq, Nat.reduceBNe, ↓reduceIte, Int.reduceToNat, Int.reduceLT, Int.reduceLE, Int.reduceEq, Int.reduceAdd, Int.reduceSub, Int.reduceNeg, Int.reduceMul, reduceCtorEq, List.reduceReplicate, Nat.reduceGT, Int.reduceGT, Int.reduceGE, Int.reduceBEq, Int.natCast_zero, Int.natCast_one, Int.cast_ofNat_Int, List.range_zero, Nat.reduceMod, Nat.reduceLT, or_false, false_or, or_self, h]))
      all_goals first
        | (refine resK_mk (AS.le_set hB) ⟨?_, rfl⟩
           have : gapG false l = i := by
             simp only [decide_eq_true_eq, decide_eq_false_iff_not, Bool.not_eq_true', Bool.not_eq_false', Bool.and_eq_true, ne_eq] at *
             (repeat' split at hg) <;> first | (exfalso; omega) | omega
           rw [this])
        | (refine ⟨n - 1, by omega, i + 1, _, by omega, ?_, rfl, ⟨_, _, _, _, _, _, _, _, _, _, _, _, _, _, _, _, _, _, _, _, _, _, _, _, _, _, _, _, _, _, _, rfl⟩⟩
           simp only [decide_eq_true_eq, decide_eq_false_iff_not, Bool.not_eq_true', Bool.not_eq_false', Bool.and_eq_true, ne_eq] at *
           (repeat' split at hg) <;> first | (exfalso; omega) | omega)
    · simp -implicitDefEqProofs only [go_sem, Nat.reduceAdd, Nat.reduceSub, Nat.reduceMul, Nat.reduceEqDiff, Nat.reduceLeDiff, Nat.reduceBEq, Nat.reduceBNe, ↓reduceIte, Int.reduceToNat, Int.reduceLT, Int.reduceLE, Int.reduceEq, Int.reduceAdd, Int.reduceSub, Int.reduceNeg, Int.reduceMul, reduceCtorEq, List.reduceReplicate, Nat.reduceGT, Int.reduceGT, Int.reduceGE, Int.reduceBEq, Int.natCast_zero, Int.natCast_one, Int.cast_ofNat_Int, List.range_zero, Nat.reduceMod, Nat.reduceLT, or_false, false_or, or_self, hlt, AS.set_set]
      have hil : i = l.length := by omega
      refine resK_mk (AS.le_set hB) ⟨?_, rfl⟩
      subst hil
      rw [List.drop_length, gapG] at hg
      rw [hg]; rfl
end Go.Proofs.YtedicdnflpjhkaaDoor
