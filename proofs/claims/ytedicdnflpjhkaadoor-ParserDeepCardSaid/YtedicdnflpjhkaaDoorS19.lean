/- syntax.Print of good programs of digits and differences. No condition beyond the bounds named. -/
import Derived.Test.YtedicdnflpjhkaaDoorS18
set_option linter.unusedSimpArgs false
set_option linter.unusedVariables false
set_option maxRecDepth 100000
set_option maxHeartbeats 1000000
namespace Go.Proofs.YtedicdnflpjhkaaDoor
open Go.Aw
def boxP (f : Nat) (b : Nat × Ex) : Option (List UInt8) := if goodB f b = true ∧ b.1 < 10 then (exprP f b.2).map fun s => [98, 111, 120, 32] ++ digit b.1 ++ [32, 61, 32] ++ s ++ [59, 10] else none
def printP (f : Nat) : List (Nat × Ex) → Option (List UInt8)
  | [] => some []
  | b :: l => match boxP f b, printP f l with | some s, some t => some (s ++ t) | _, _ => none
theorem printP_get {f : Nat} : ∀ {l : List (Nat × Ex)} {s : List UInt8}, printP f l = some s → ∀ i (h : i < l.length), ∃ u v t, boxP f l[i] = some v ∧ printP f (l.take i) = some u ∧ printP f (l.take (i + 1)) = some (u ++ v) ∧ s = u ++ v ++ t
  | [], s, h, i, hi => by simp at hi
  | b :: l, s, h, i, hi => by
    unfold printP at h
    split at h
    · rename_i s1 t1 h1 h2
      cases h
      cases i with
      | zero => exact ⟨[], s1, t1, h1, rfl, by simp [printP, h1], by simp⟩
      | succ i =>
        obtain ⟨u, v, t, e1, e2, e3, e4⟩ := printP_get h2 i (by simpa using hi)
        exact ⟨s1 ++ u, v, t, by simpa using e1, by simp [printP, h1, e2], by simp [printP, h1, e3], by rw [e4]; simp⟩
    · cases h
theorem print_ok (f : Nat) (bs : List (Nat × Ex)) (own : Option (Nat × Nat)) (s : List UInt8) (S : AS) (h : printP f bs = some s) (hs : s ≠ []) (hl : s.length ≤ 100000) (hn : bs.length ≤ 1000) :
    ACall Tryd.prog 7 [.sl (bs.map encB) own] S fun r T => r = .ret (.str s) ∧ T = S := by
  refine ACall.by_code Tryd.func7 rfl Tryd.ntmps7 rfl ?_
  simp -implicitDefEqProofs only [go_sem, Nat.reduceAdd, Nat.reduceSub, Nat.reduceMul, Nat.reduceEqDiff, Nat.reduceLeDiff, Nat.reduceBEq, Nat.reduceBNe, ↓reduceIte, Int.reduceToNat, Int.reduceLT, Int.reduceLE, Int.reduceEq, Int.reduceAdd, Int.reduceSub, Int.reduceNeg, Int.reduceMul, reduceCtorEq, List.reduceReplicate, Nat.reduceGT, Int.reduceGT, Int.reduceGE, Int.reduceBEq, Int.natCast_zero, Int.natCast_one, Int.cast_ofNat_Int, List.range_zero, Nat.reduceMod, Nat.reduceLT, or_false, false_or, or_self]
  intro B hB
  refine AWp.loop (fun n a T => ∃ (i : Nat) (u : List UInt8), i + n = bs.length ∧ printP f (bs.take i) = some u ∧ WrT S B u T ∧ ∃ j0 j1 j2 j4 j5 j9 j10 j11 j12 j13 j14 j15 j16 j17 j18 j19 j20 j21 j22 j23 j24 j25 j26 : AV, a = ⟨[j0, j1, j2, .ptr B 0, j4, j5, .sl (bs.map encB) own, int bs.length, int i, j9, j10, j11, j12, j13, j14, j15, j16, j17, j18, j19, j20, j21, j22, j23, j24, j25, j26]⟩) bs.length ?_ ?_
  · exact ⟨0, [], by omega, rfl, ⟨hB, AS.le_set hB, _, _, AS.set_same _ _ _, .inl rfl, .inl ⟨rfl, rfl⟩⟩, ⟨_, _, _, _, _, _, _, _, _, _, _, _, _, _, _, _, _, _, _, _, _, _, _, rfl⟩⟩
  · rintro n a T ⟨i, u, hi, hu, hT, ⟨j0, j1, j2, j4, j5, j9, j10, j11, j12, j13, j14, j15, j16, j17, j18, j19, j20, j21, j22, j23, j24, j25, j26, rfl⟩⟩
    refine WC.sound _ _ _ _ ?_
    simp -implicitDefEqProofs only [go_sem, Nat.reduceAdd, Nat.reduceSub, Nat.reduceMul, Nat.reduceEqDiff, Nat.reduceLeDiff, Nat.reduceBEq, Nat.reduceBNe, ↓reduceIte, Int.reduceToNat, Int.reduceLT, Int.reduceLE, Int.reduceEq, Int.reduceAdd, Int.reduceSub, Int.reduceNeg, Int.reduceMul, reduceCtorEq, List.reduceReplicate, Nat.reduceGT, Int.reduceGT, Int.reduceGE, Int.reduceBEq, Int.natCast_zero, Int.natCast_one, Int.cast_ofNat_Int, List.range_zero, Nat.reduceMod, Nat.reduceLT, or_false, false_or, or_self, int]
    refine condK_split (fun hc => ?_) (fun hc => ?_)
    · have hlt : i < bs.length := by simpa using hc
      have hg : bs[i]? = some bs[i] := List.getElem?_eq_getElem hlt
      have w1 : IntKind.i64.wrap ((i : Int) + 1) = ((i + 1 : Nat) : Int) := wrap_eq (by omega) (by omega)
      obtain ⟨u', v, t, e1, e2, e3, e4⟩ := printP_get h i hlt
      rw [hu] at e2
      cases e2
      unfold boxP at e1
      split at e1
      · rename_i hgb
        obtain ⟨v', hv', rfl⟩ := Option.map_eq_some_iff.1 e1
        simp -implicitDefEqProofs only [go_sem, Nat.reduceAdd, Nat.reduceSub, Nat.reduceMul, Nat.reduceEqDiff, Nat.reduceLeDiff, Nat.reduceBEq, Nat.reduceBNe, ↓reduceIte, Int.reduceToNat, Int.reduceLT, Int.reduceLE, Int.reduceEq, Int.reduceAdd, Int.reduceSub, Int.reduceNeg, Int.reduceMul, reduceCtorEq, List.reduceReplicate, Nat.reduceGT, Int.reduceGT, Int.reduceGE, Int.reduceBEq, Int.natCast_zero, Int.natCast_one, Int.cast_ofNat_Int, List.range_zero, Nat.reduceMod, Nat.reduceLT, or_false, false_or, or_self, hg, encB_length, encB_take6, encB_one]
        intro B5 hB5
        refine (may2_ok f bs[i] _ hgb.1).mono ?_
        rintro _ _ ⟨rfl, rfl⟩
        have hw := hT.beside (o := .var (.v (.int .i64 bs[i].1) :: encE bs[i].2) 35) hB5
        simp -implicitDefEqProofs only [go_sem, Nat.reduceAdd, Nat.reduceSub, Nat.reduceMul, Nat.reduceEqDiff, Nat.reduceLeDiff, Nat.reduceBEq, Nat.reduceBNe, ↓reduceIte, Int.reduceToNat, Int.reduceLT, Int.reduceLE, Int.reduceEq, Int.reduceAdd, Int.reduceSub, Int.reduceNeg, Int.reduceMul, reduceCtorEq, List.reduceReplicate, Nat.reduceGT, Int.reduceGT, Int.reduceGE, Int.reduceBEq, Int.natCast_zero, Int.natCast_one, Int.cast_ofNat_Int, List.range_zero, Nat.reduceMod, Nat.reduceLT, or_false, false_or, or_self, encB, AS.set_set]
        refine (itoa_ok _ _ hgb.2).mono ?_
        rintro _ _ ⟨rfl, rfl⟩
        simp -implicitDefEqProofs only [go_sem, Nat.reduceAdd, Nat.reduceSub, Nat.reduceMul, Nat.reduceEqDiff, Nat.reduceLeDiff, Nat.reduceBEq, Nat.reduceBNe, ↓reduceIte, Int.reduceToNat, Int.reduceLT, Int.reduceLE, Int.reduceEq, Int.reduceAdd, Int.reduceSub, Int.reduceNeg, Int.reduceMul, reduceCtorEq, List.reduceReplicate, Nat.reduceGT, Int.reduceGT, Int.reduceGE, Int.reduceBEq, Int.natCast_zero, Int.natCast_one, Int.cast_ofNat_Int, List.range_zero, Nat.reduceMod, Nat.reduceLT, or_false, false_or, or_self, AS.set_set]
        intro B6 hB6
        have hlen : s.length = u.length + (4 + 1 + 3 + v'.length + 2) + t.length := by rw [e4]; simp [digit]; omega
        refine (put_ok _ B u [[98, 111, 120, 32], digit bs[i].1, [32, 61, 32]] _ _ (hw.new hB6) (by simp [digit]) (by simp [digit]; omega) (by simp)).mono ?_
        rintro _ T2 ⟨rfl, hT2⟩
        have h5 := hT2.at (C := B5) (AS.set_same _ _ _)
        simp -implicitDefEqProofs only [go_sem, Nat.reduceAdd, Nat.reduceSub, Nat.reduceMul, Nat.reduceEqDiff, Nat.reduceLeDiff, Nat.reduceBEq, Nat.reduceBNe, ↓reduceIte, Int.reduceToNat, Int.reduceLT, Int.reduceLE, Int.reduceEq, Int.reduceAdd, Int.reduceSub, Int.reduceNeg, Int.reduceMul, reduceCtorEq, List.reduceReplicate, Nat.reduceGT, Int.reduceGT, Int.reduceGE, Int.reduceBEq, Int.natCast_zero, Int.natCast_one, Int.cast_ofNat_Int, List.range_zero, Nat.reduceMod, Nat.reduceLT, or_false, false_or, or_self, h5, encE_length, encE_take]
        refine (wexpr_ok f _ B _ v' bs[i].2 T2 hT2 hv' (by simp [digit]; omega)).mono ?_
        rintro _ T3 ⟨rfl, hT3⟩
        simp -implicitDefEqProofs only [go_sem, Nat.reduceAdd, Nat.reduceSub, Nat.reduceMul, Nat.reduceEqDiff, Nat.reduceLeDiff, Nat.reduceBEq, Nat.reduceBNe, ↓reduceIte, Int.reduceToNat, Int.reduceLT, Int.reduceLE, Int.reduceEq, Int.reduceAdd, Int.reduceSub, Int.reduceNeg, Int.reduceMul, reduceCtorEq, List.reduceReplicate, Nat.reduceGT, Int.reduceGT, Int.reduceGE, Int.reduceBEq, Int.natCast_zero, Int.natCast_one, Int.cast_ofNat_Int, List.range_zero, Nat.reduceMod, Nat.reduceLT, or_false, false_or, or_self]
        intro B7 hB7
        refine (put_ok _ B _ [[59, 10]] _ _ (hT3.new hB7) (by simp) (by simp [digit]; omega) (by simp)).mono ?_
        rintro _ T4 ⟨rfl, hT4⟩
        simp -implicitDefEqProofs only [go_sem, Nat.reduceAdd, Nat.reduceSub, Nat.reduceMul, Nat.reduceEqDiff, Nat.reduceLeDiff, Nat.reduceBEq, Nat.reduceBNe, ↓reduceIte, Int.reduceToNat, Int.reduceLT, Int.reduceLE, Int.reduceEq, Int.reduceAdd, Int.reduceSub, Int.reduceNeg, Int.reduceMul, reduceCtorEq, List.reduceReplicate, Nat.reduceGT, Int.reduceGT, Int.reduceGE, Int.reduceBEq, Int.natCast_zero, Int.natCast_one, Int.cast_ofNat_Int, List.range_zero, Nat.reduceMod, Nat.reduceLT, or_false, false_or, or_self, w1, int]
        refine ⟨n - 1, by omega, i + 1, _, by omega, e3, ?_, ⟨_, _, _, _, _, _, _, _, _, _, _, _, _, _, _, _, _, _, _, _, _, _, _, rfl⟩⟩
        have hS5 : S B5 = none := by
          cases hx : S B5 with
          | none => rfl
          | some o => rw [hT.2.1 _ _ hx] at hB5; cases hB5
        have := hT4.shrink (AS.le_set hS5)
        simpa using this
      · cases e1
    · simp -implicitDefEqProofs only [go_sem, Nat.reduceAdd, Nat.reduceSub, Nat.reduceMul, Nat.reduceEqDiff, Nat.reduceLeDiff, Nat.reduceBEq, Nat.reduceBNe, ↓reduceIte, Int.reduceToNat, Int.reduceLT, Int.reduceLE, Int.reduceEq, Int.reduceAdd, Int.reduceSub, Int.reduceNeg, Int.reduceMul, reduceCtorEq, List.reduceReplicate, Nat.reduceGT, Int.reduceGT, Int.reduceGE, Int.reduceBEq, Int.natCast_zero, Int.natCast_one, Int.cast_ofNat_Int, List.range_zero, Nat.reduceMod, Nat.reduceLT, or_false, false_or, or_self]
      have hge : ¬ i < bs.length := by simpa using hc
      rw [List.take_of_length_le (by omega), h] at hu
      cases hu
      refine (string_ok S B s T hT hs).mono ?_
      rintro _ _ ⟨rfl, rfl⟩
      simp -implicitDefEqProofs only [go_sem, Nat.reduceAdd, Nat.reduceSub, Nat.reduceMul, Nat.reduceEqDiff, Nat.reduceLeDiff, Nat.reduceBEq, Nat.reduceBNe, ↓reduceIte, Int.reduceToNat, Int.reduceLT, Int.reduceLE, Int.reduceEq, Int.reduceAdd, Int.reduceSub, Int.reduceNeg, Int.reduceMul, reduceCtorEq, List.reduceReplicate, Nat.reduceGT, Int.reduceGT, Int.reduceGE, Int.reduceBEq, Int.natCast_zero, Int.natCast_one, Int.cast_ofNat_Int, List.range_zero, Nat.reduceMod, Nat.reduceLT, or_false, false_or, or_self]
      exact resK_mk (AS.le_refl _) ⟨rfl, rfl⟩
end Go.Proofs.YtedicdnflpjhkaaDoor
