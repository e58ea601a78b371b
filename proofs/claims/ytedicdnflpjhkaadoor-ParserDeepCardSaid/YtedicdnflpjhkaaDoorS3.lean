/- lexer.run, lexer.number, lexer.gap over plain text: what they answer. No condition beyond the bounds named. -/
import Derived.Test.YtedicdnflpjhkaaDoorS2
set_option linter.unusedSimpArgs false
set_option linter.unusedVariables false
set_option maxRecDepth 100000
set_option maxHeartbeats 1000000
namespace Go.Proofs.YtedicdnflpjhkaaDoor
open Go.Aw
def Ascii (l : List UInt8) : Prop := ∀ b ∈ l, b.toNat < 128
theorem Ascii.at {l : List UInt8} (h : Ascii l) {i : Nat} (hi : i < l.length) : l[i].toNat < 128 := h _ (List.getElem_mem hi)
theorem Ascii.drop {l : List UInt8} (h : Ascii l) (n : Nat) : Ascii (l.drop n) := fun b hb => h b (List.mem_of_mem_drop hb)
theorem Ascii.take {l : List UInt8} (h : Ascii l) (n : Nat) : Ascii (l.take n) := fun b hb => h b (List.mem_of_mem_take hb)
theorem decode_ascii {l : List UInt8} {i : Nat} (hi : i < l.length) (h : l[i].toNat < 128) : Utf8.decode ⟨l.toArray⟩ i = (l[i].toNat, 1) := by
  have e : (⟨l.toArray⟩ : ByteArray).get! (i + 0) = l[i] := by
    simp [ByteArray.get!, hi]
  unfold Utf8.decode
  simp only [e]
  rw [if_pos h]
def runL (want : Int) (l : List UInt8) : Nat := (l.takeWhile fun b => decide (kindL b.toNat = want)).length
theorem takeWhile_len {p : UInt8 → Bool} : ∀ (l : List UInt8) (i : Nat), i ≤ l.length → (∀ j (h : j < l.length), j < i → p l[j] = true) → (∀ h : i < l.length, p l[i] = false) → (l.takeWhile p).length = i
  | [], i, hi, _, _ => by simp at hi ⊢; omega
  | b :: l, 0, _, _, h2 => by have := h2 (by simp); simp at this; simp [List.takeWhile_cons, this]
  | b :: l, i + 1, hi, h1, h2 => by
    have hb : p b = true := h1 0 (by simp) (by omega)
    rw [List.takeWhile_cons, if_pos hb, List.length_cons, takeWhile_len l i (by simpa using hi) (fun j hj hji => h1 (j + 1) (by simpa using hj) (by omega)) (fun h => h2 (by simpa using h))]
theorem run_ok (l : List UInt8) (want : Int) (S : AS) (hl : Ascii l) : ACall Tryd.prog 39 [.str l, .v (.int .i64 want)] S fun r T => r = .ret (.v (.int .i64 (runL want l))) ∧ T = S := by
  refine ACall.by_code Tryd.func39 rfl Tryd.ntmps39 rfl ?_
  simp -implicitDefEqProofs only [go_sem, Nat.reduceAdd, Nat.reduceSub, Nat.reduceMul, Nat.reduceEqDiff, Nat.reduceLeDiff, Nat.reduceBEq, Nat.reduceBNe, ↓reduceIte, Int.reduceToNat, Int.reduceLT, Int.reduceLE, Int.reduceEq, Int.reduceAdd, Int.reduceSub, Int.reduceNeg, Int.reduceMul, reduceCtorEq, List.reduceReplicate, Nat.reduceGT, Int.reduceGT, Int.reduceGE, Int.reduceBEq, Int.natCast_zero, Int.natCast_one, Int.cast_ofNat_Int, List.range_zero, Nat.reduceMod, Nat.reduceLT, or_false, false_or, or_self]
  intro B hB
  refine AWp.loop (fun n a T => ∃ i : Nat, i + n = l.length ∧ (∀ j (h : j < l.length), j < i → kindL l[j].toNat = want) ∧ T = S.set B (.siter l i) ∧ ∃ j2 j3 j4 j5 j6 j7 j9 j10 j11 j12 j13 j14 j15 j16 j17 j18 j19 : AV, a = ⟨[.str l, int want, j2, j3, j4, j5, j6, j7, .ptr B 0, j9, j10, j11, j12, j13, j14, j15, j16, j17, j18, j19]⟩) l.length ?_ ?_
  · exact ⟨0, by omega, fun j h hj => by omega, rfl, ⟨_, _, _, _, _, _, _, _, _, _, _, _, _, _, _, _, _, rfl⟩⟩
  · rintro n a T ⟨i, hi, hall, rfl, ⟨j2, j3, j4, j5, j6, j7, j9, j10, j11, j12, j13, j14, j15, j16, j17, j18, j19, rfl⟩⟩
    refine WC.sound _ _ _ _ ?_
    by_cases hlt : i < l.length
    · have hd := decode_ascii hlt (hl.at hlt)
      simp -implicitDefEqProofs only [go_sem, Nat.reduceAdd, Nat.reduceSub, Nat.reduceMul, Nat.reduceEqDiff, Nat.reduceLeDiff, Nat.reduceBEq, Nat.reduceBNe, ↓reduceIte, Int.reduceToNat, Int.reduceLT, Int.reduceLE, Int.reduceEq, Int.reduceAdd, Int.reduceSub, Int.reduceNeg, Int.reduceMul, reduceCtorEq, List.reduceReplicate, Nat.reduceGT, Int.reduceGT, Int.reduceGE, Int.reduceBEq, Int.natCast_zero, Int.natCast_one, Int.cast_ofNat_Int, List.range_zero, Nat.reduceMod, Nat.reduceLT, or_false, false_or, or_self, hlt, hd, int, AS.set_set]
      refine (kind_ok _ _ (by omega)).mono ?_
      rintro _ _ ⟨rfl, rfl⟩
      simp -implicitDefEqProofs only [go_sem, Nat.reduceAdd, Nat.reduceSub, Nat.reduceMul, Nat.reduceEqDiff, Nat.reduceLeDiff, Nat.reduceBEq, Nat.reduceBNe, ↓reduceIte, Int.reduceToNat, Int.reduceLT, Int.reduceLE, Int.reduceEq, Int.reduceAdd, Int.reduceSub, Int.reduceNeg, Int.reduceMul, reduceCtorEq, List.reduceReplicate, Nat.reduceGT, Int.reduceGT, Int.reduceGE, Int.reduceBEq, Int.natCast_zero, Int.natCast_one, Int.cast_ofNat_Int, List.range_zero, Nat.reduceMod, Nat.reduceLT, or_false, false_or, or_self]
      refine condK_split (fun h => ?_) (fun h => ?_)
      · simp -implicitDefEqProofs only [go_sem, Nat.reduceAdd, Nat.reduceSub, Nat.reduceMul, Nat.reduceEqDiff, Nat.reduceLeDiff, Nat.reduceBEq, Nat.reduceBNe, ↓reduceIte, Int.reduceToNat, Int.reduceLT, Int.reduceLE, Int.reduceEq, Int.reduceAdd, Int.reduceSub, Int.reduceNeg, Int.reduceMul, reduceCtorEq, List.reduceReplicate, Nat.reduceGT, Int.reduceGT, Int.reduceGE, Int.reduceBEq, Int.natCast_zero, Int.natCast_one, Int.cast_ofNat_Int, List.range_zero, Nat.reduceMod, Nat.reduceLT, or_false, false_or, or_self]
        have hne : ¬ kindL (l[i].toNat : Int) = want := by simpa using h
        refine resK_mk (AS.le_set hB) ⟨?_, rfl⟩
        have : runL want l = i := takeWhile_len l i (by omega) (fun j hj hji => by simpa using hall j hj hji) (fun _ => by simpa using hne)
        rw [this]
      · have heq : kindL (l[i].toNat : Int) = want := by simpa using h
        simp -implicitDefEqProofs only [go_sem, Nat.reduceAdd, Nat.reduceSub, Nat.reduceMul, Nat.reduceEqDiff, Nat.reduceLeDiff, Nat.reduceBEq, Nat.reduceBNe, ↓reduceIte, Int.reduceToNat, Int.reduceLT, Int.reduceLE, Int.reduceEq, Int.reduceAdd, Int.reduceSub, Int.reduceNeg, Int.reduceMul, reduceCtorEq, List.reduceReplicate, Nat.reduceGT, Int.reduceGT, Int.reduceGE, Int.reduceBEq, Int.natCast_zero, Int.natCast_one, Int.cast_ofNat_Int, List.range_zero, Nat.reduceMod, Nat.reduceLT, or_false, false_or, or_self]
        refine ⟨n - 1, by omega, i + 1, by omega, ?_, rfl, ⟨_, _, _, _, _, _, _, _, _, _, _, _, _, _, _, _, _, rfl⟩⟩
        intro j hj hji
        by_cases e : j = i
        · subst e; exact heq
        · exact hall j hj (by omega)
    · simp -implicitDefEqProofs only [go_sem, Nat.reduceAdd, Nat.reduceSub, Nat.reduceMul, Nat.reduceEqDiff, Nat.reduceLeDiff, Nat.reduceBEq, Nat.reduceBNe, ↓reduceIte, Int.reduceToNat, Int.reduceLT, Int.reduceLE, Int.reduceEq, Int.reduceAdd, Int.reduceSub, Int.reduceNeg, Int.reduceMul, reduceCtorEq, List.reduceReplicate, Nat.reduceGT, Int.reduceGT, Int.reduceGE, Int.reduceBEq, Int.natCast_zero, Int.natCast_one, Int.cast_ofNat_Int, List.range_zero, Nat.reduceMod, Nat.reduceLT, or_false, false_or, or_self, hlt, AS.set_set]
      have hil : i = l.length := by omega
      refine resK_mk (AS.le_set hB) ⟨?_, rfl⟩
      have : runL want l = l.length := takeWhile_len l l.length (Nat.le_refl _) (fun j hj _ => by simpa using hall j hj (by omega)) (fun h => absurd h (Nat.lt_irrefl _))
      rw [this]
end Go.Proofs.YtedicdnflpjhkaaDoor
