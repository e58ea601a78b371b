/- parser.some, parser.wrong of programs without totals in which nothing is wrong. No condition beyond the bounds named. -/
import Derived.Test.YtedicdnflpjhkaaDoorS10
set_option linter.unusedSimpArgs false
set_option linter.unusedVariables false
set_option maxRecDepth 100000
set_option maxHeartbeats 1000000
namespace Go.Proofs.YtedicdnflpjhkaaDoor
open Go.Aw
def noneB : Nat → (Ex → Bool) → Ex → Bool
  | 0, _, _ => false
  | f + 1, p, e => !p e && e.kids.all (noneB f p) && decide (e.kids.length ≤ 1000000)
theorem some_ok (p : Ex → Bool) (g : FuncId) (cap : List AV) (S0 : AS) (hk : okF Tryd.prog g = true) (hF : ∀ x S', p x = false → S0.le S' → ACall Tryd.prog g (.agg (encE x) :: cap) S' fun r T => r = .ret (.v (.bool false)) ∧ T = S') :
    ∀ (f : Nat) (e : Ex) (S : AS), S0.le S → noneB f p e = true → ACall Tryd.prog 43 [.agg (encE e), .fn (.func g) cap] S fun r T => r = .ret (.v (.bool false)) ∧ T = S := by
  intro f
  induction f with
  | zero => intro e S _ h; cases h
  | succ f ih =>
    intro e S hS h
    unfold noneB at h
    simp only [Bool.and_eq_true, decide_eq_true_eq, Bool.not_eq_true', List.all_eq_true] at h
    obtain ⟨⟨h1, h2⟩, h3⟩ := h
    refine ACall.by_code Tryd.func43 rfl Tryd.ntmps43 rfl ?_
    have he := encE_eq e
    simp -implicitDefEqProofs only [go_sem, Nat.reduceAdd, Nat.reduceSub, Nat.reduceMul, Nat.reduceEqDiff, Nat.reduceLeDiff, Nat.reduceBEq, Nat.reduceBNe, ↓reduceIte, Int.reduceToNat, Int.reduceLT, Int.reduceLE, Int.reduceEq, Int.reduceAdd, Int.reduceSub, Int.reduceNeg, Int.reduceMul, reduceCtorEq, List.reduceReplicate, Nat.reduceGT, Int.reduceGT, Int.reduceGE, Int.reduceBEq, Int.natCast_zero, Int.natCast_one, Int.cast_ofNat_Int, List.range_zero, Nat.reduceMod, Nat.reduceLT, or_false, false_or, or_self]
    intro B hB
    simp -implicitDefEqProofs only [go_sem, Nat.reduceAdd, Nat.reduceSub, Nat.reduceMul, Nat.reduceEqDiff, Nat.reduceLeDiff, Nat.reduceBEq, Nat.reduceBNe, ↓reduceIte, Int.reduceToNat, Int.reduceLT, Int.reduceLE, Int.reduceEq, Int.reduceAdd, Int.reduceSub, Int.reduceNeg, Int.reduceMul, reduceCtorEq, List.reduceReplicate, Nat.reduceGT, Int.reduceGT, Int.reduceGE, Int.reduceBEq, Int.natCast_zero, Int.natCast_one, Int.cast_ofNat_Int, List.range_zero, Nat.reduceMod, Nat.reduceLT, or_false, false_or, or_self, encE_length, encE_take]
    simp -implicitDefEqProofs only [go_sem, Nat.reduceAdd, Nat.reduceSub, Nat.reduceMul, Nat.reduceEqDiff, Nat.reduceLeDiff, Nat.reduceBEq, Nat.reduceBNe, ↓reduceIte, Int.reduceToNat, Int.reduceLT, Int.reduceLE, Int.reduceEq, Int.reduceAdd, Int.reduceSub, Int.reduceNeg, Int.reduceMul, reduceCtorEq, List.reduceReplicate, Nat.reduceGT, Int.reduceGT, Int.reduceGE, Int.reduceBEq, Int.natCast_zero, Int.natCast_one, Int.cast_ofNat_Int, List.range_zero, Nat.reduceMod, Nat.reduceLT, or_false, false_or, or_self, hk]
    refine (hF e _ h1 (AS.le_trans hS (AS.le_set hB))).mono ?_
    rintro _ _ ⟨rfl, rfl⟩
    simp -implicitDefEqProofs only [go_sem, Nat.reduceAdd, Nat.reduceSub, Nat.reduceMul, Nat.reduceEqDiff, Nat.reduceLeDiff, Nat.reduceBEq, Nat.reduceBNe, ↓reduceIte, Int.reduceToNat, Int.reduceLT, Int.reduceLE, Int.reduceEq, Int.reduceAdd, Int.reduceSub, Int.reduceNeg, Int.reduceMul, reduceCtorEq, List.reduceReplicate, Nat.reduceGT, Int.reduceGT, Int.reduceGE, Int.reduceBEq, Int.natCast_zero, Int.natCast_one, Int.cast_ofNat_Int, List.range_zero, Nat.reduceMod, Nat.reduceLT, or_false, false_or, or_self, he]
    refine AWp.loop (fun n a T => ∃ i : Nat, i + n = e.kids.length ∧ S.le T ∧ ∃ j0 j2 j3 j4 j5 j6 j7 j8 j9 j10 j14 j15 j16 j17 j18 j19 j20 : AV, a = ⟨[j0, .fn (.func g) cap, j2, j3, j4, j5, j6, j7, j8, j9, j10, .sl (e.kids.map encE) none, int e.kids.length, int i, j14, j15, j16, j17, j18, j19, j20]⟩) e.kids.length ?_ ?_
    · exact ⟨0, by omega, AS.le_set hB, ⟨_, _, _, _, _, _, _, _, _, _, _, _, _, _, _, _, _, rfl⟩⟩
    · rintro n a T ⟨i, hi, hT, ⟨j0, j2, j3, j4, j5, j6, j7, j8, j9, j10, j14, j15, j16, j17, j18, j19, j20, rfl⟩⟩
      refine WC.sound _ _ _ _ ?_
      simp -implicitDefEqProofs only [go_sem, Nat.reduceAdd, Nat.reduceSub, Nat.reduceMul, Nat.reduceEqDiff, Nat.reduceLeDiff, Nat.reduceBEq, Nat.reduceBNe, ↓reduceIte, Int.reduceToNat, Int.reduceLT, Int.reduceLE, Int.reduceEq, Int.reduceAdd, Int.reduceSub, Int.reduceNeg, Int.reduceMul, reduceCtorEq, List.reduceReplicate, Nat.reduceGT, Int.reduceGT, Int.reduceGE, Int.reduceBEq, Int.natCast_zero, Int.natCast_one, Int.cast_ofNat_Int, List.range_zero, Nat.reduceMod, Nat.reduceLT, or_false, false_or, or_self, int]
      refine condK_split (fun h => ?_) (fun h => ?_)
      · have hlt : i < e.kids.length := by simpa using h
        have hg : e.kids[i]? = some e.kids[i] := List.getElem?_eq_getElem hlt
        have w1 : IntKind.i64.wrap ((i : Int) + 1) = ((i + 1 : Nat) : Int) := wrap_eq (by omega) (by omega)
        simp -implicitDefEqProofs only [go_sem, Nat.reduceAdd, Nat.reduceSub, Nat.reduceMul, Nat.reduceEqDiff, Nat.reduceLeDiff, Nat.reduceBEq, Nat.reduceBNe, ↓reduceIte, Int.reduceToNat, Int.reduceLT, Int.reduceLE, Int.reduceEq, Int.reduceAdd, Int.reduceSub, Int.reduceNeg, Int.reduceMul, reduceCtorEq, List.reduceReplicate, Nat.reduceGT, Int.reduceGT, Int.reduceGE, Int.reduceBEq, Int.natCast_zero, Int.natCast_one, Int.cast_ofNat_Int, List.range_zero, Nat.reduceMod, Nat.reduceLT, or_false, false_or, or_self, hg, encE_length, encE_take, encE_one]
        intro B6 hB6
        refine (ih e.kids[i] _ (AS.le_trans hS (AS.le_trans hT (AS.le_trans (AS.le_set hB6) (by rw [AS.set_set]; exact AS.le_refl _)))) (h2 _ (List.getElem_mem _))).mono ?_
        rintro _ _ ⟨rfl, rfl⟩
        simp -implicitDefEqProofs only [go_sem, Nat.reduceAdd, Nat.reduceSub, Nat.reduceMul, Nat.reduceEqDiff, Nat.reduceLeDiff, Nat.reduceBEq, Nat.reduceBNe, ↓reduceIte, Int.reduceToNat, Int.reduceLT, Int.reduceLE, Int.reduceEq, Int.reduceAdd, Int.reduceSub, Int.reduceNeg, Int.reduceMul, reduceCtorEq, List.reduceReplicate, Nat.reduceGT, Int.reduceGT, Int.reduceGE, Int.reduceBEq, Int.natCast_zero, Int.natCast_one, Int.cast_ofNat_Int, List.range_zero, Nat.reduceMod, Nat.reduceLT, or_false, false_or, or_self, w1, int]
        exact ⟨n - 1, by omega, i + 1, by omega, AS.le_trans hT (AS.le_trans (AS.le_set hB6) (by rw [AS.set_set]; exact AS.le_refl _)), ⟨_, _, _, _, _, _, _, _, _, _, _, _, _, _, _, _, _, rfl⟩⟩
      · simp -implicitDefEqProofs only [go_sem, Nat.reduceAdd, Nat.reduceSub, Nat.reduceMul, Nat.reduceEqDiff, Nat.reduceLeDiff, Nat.reduceBEq, Nat.reduceBNe, ↓reduceIte, Int.reduceToNat, Int.reduceLT, Int.reduceLE, Int.reduceEq, Int.reduceAdd, Int.reduceSub, Int.reduceNeg, Int.reduceMul, reduceCtorEq, List.reduceReplicate, Nat.reduceGT, Int.reduceGT, Int.reduceGE, Int.reduceBEq, Int.natCast_zero, Int.natCast_one, Int.cast_ofNat_Int, List.range_zero, Nat.reduceMod, Nat.reduceLT, or_false, false_or, or_self]
        exact resK_mk hT ⟨rfl, rfl⟩
theorem strange_ok (n : Int) (S : AS) (h : 1 ≤ n ∧ n ≤ 9999) : ACall Tryd.prog 41 [.v (.int .i64 n)] S fun r T => r = .ret (.v (.bool false)) ∧ T = S := by
  refine ACall.by_code Tryd.func41 rfl Tryd.ntmps41 rfl ?_
  simp -implicitDefEqProofs only [go_sem, Nat.reduceAdd, Nat.reduceSub, Nat.reduceMul, Nat.reduceEqDiff, Nat.reduceLeDiff, Nat.reduceBEq, Nat.reduceBNe, ↓reduceIte, Int.reduceToNat, Int.reduceLT, Int.reduceLE, Int.reduceEq, Int.reduceAdd, Int.reduceSub, Int.reduceNeg, Int.reduceMul, reduceCtorEq, List.reduceReplicate, Nat.reduceGT, Int.reduceGT, Int.reduceGE, Int.reduceBEq, Int.natCast_zero, Int.natCast_one, Int.cast_ofNat_Int, List.range_zero, Nat.reduceMod, Nat.reduceLT, or_false, false_or, or_self, decide_eq_false (show ¬ n < 1 by omega), decide_eq_false (show ¬ 9999 < n by omega)]
  exact resK_mk (AS.le_refl _) ⟨rfl, rfl⟩
def p44 (x : Ex) : Bool := decide (x.kind = 2) && !(decide (1 ≤ x.n) && decide (x.n ≤ 9999))
def p45 (x : Ex) : Bool := decide (16 < x.filters.length)
def fn41 : AObj := .var [.fn (.func 41) []] 71
theorem w3_ok (x : Ex) (B : Nat) (S : AS) (hS : S B = some fn41) (h : p44 x = false) : ACall Tryd.prog 44 [.agg (encE x), .ptr B 0] S fun r T => r = .ret (.v (.bool false)) ∧ T = S := by
  unfold fn41 at hS
  refine ACall.by_code Tryd.func44 rfl Tryd.ntmps44 rfl ?_
  have he := encE_eq x
  simp -implicitDefEqProofs only [go_sem, Nat.reduceAdd, Nat.reduceSub, Nat.reduceMul, Nat.reduceEqDiff, Nat.reduceLeDiff, Nat.reduceBEq, Nat.reduceBNe, ↓reduceIte, Int.reduceToNat, Int.reduceLT, Int.reduceLE, Int.reduceEq, Int.reduceAdd, Int.reduceSub, Int.reduceNeg, Int.reduceMul, reduceCtorEq, List.reduceReplicate, Nat.reduceGT, Int.reduceGT, Int.reduceGE, Int.reduceBEq, Int.natCast_zero, Int.natCast_one, Int.cast_ofNat_Int, List.range_zero, Nat.reduceMod, Nat.reduceLT, or_false, false_or, or_self]
  intro B2 hB2
  have hne := ne_some hS hB2
  simp -implicitDefEqProofs only [go_sem, Nat.reduceAdd, Nat.reduceSub, Nat.reduceMul, Nat.reduceEqDiff, Nat.reduceLeDiff, Nat.reduceBEq, Nat.reduceBNe, ↓reduceIte, Int.reduceToNat, Int.reduceLT, Int.reduceLE, Int.reduceEq, Int.reduceAdd, Int.reduceSub, Int.reduceNeg, Int.reduceMul, reduceCtorEq, List.reduceReplicate, Nat.reduceGT, Int.reduceGT, Int.reduceGE, Int.reduceBEq, Int.natCast_zero, Int.natCast_one, Int.cast_ofNat_Int, List.range_zero, Nat.reduceMod, Nat.reduceLT, or_false, false_or, or_self, he, hS, hne]
  by_cases hk : x.kind = 2
  · simp -implicitDefEqProofs only [go_sem, Nat.reduceAdd, Nat.reduceSub, Nat.reduceMul, Nat.reduceEqDiff, Nat.reduceLeDiff, Nat.reduceBEq, Nat.reduceBNe, ↓reduceIte, Int.reduceToNat, Int.reduceLT, Int.reduceLE, Int.reduceEq, Int.reduceAdd, Int.reduceSub, Int.reduceNeg, Int.reduceMul, reduceCtorEq, List.reduceReplicate, Nat.reduceGT, Int.reduceGT, Int.reduceGE, Int.reduceBEq, Int.natCast_zero, Int.natCast_one, Int.cast_ofNat_Int, List.range_zero, Nat.reduceMod, Nat.reduceLT, or_false, false_or, or_self, decide_eq_true hk]
    have : 1 ≤ x.n ∧ x.n ≤ 9999 := by simpa [p44, hk] using h
    simp -implicitDefEqProofs only [go_sem, Nat.reduceAdd, Nat.reduceSub, Nat.reduceMul, Nat.reduceEqDiff, Nat.reduceLeDiff, Nat.reduceBEq, Nat.reduceBNe, ↓reduceIte, Int.reduceToNat, Int.reduceLT, Int.reduceLE, Int.reduceEq, Int.reduceAdd, Int.reduceSub, Int.reduceNeg, Int.reduceMul, reduceCtorEq, List.reduceReplicate, Nat.reduceGT, Int.reduceGT, Int.reduceGE, Int.reduceBEq, Int.natCast_zero, Int.natCast_one, Int.cast_ofNat_Int, List.range_zero, Nat.reduceMod, Nat.reduceLT, or_false, false_or, or_self, he, hS, hne]
    refine (strange_ok _ _ this).mono ?_
    rintro _ _ ⟨rfl, rfl⟩
    simp -implicitDefEqProofs only [go_sem, Nat.reduceAdd, Nat.reduceSub, Nat.reduceMul, Nat.reduceEqDiff, Nat.reduceLeDiff, Nat.reduceBEq, Nat.reduceBNe, ↓reduceIte, Int.reduceToNat, Int.reduceLT, Int.reduceLE, Int.reduceEq, Int.reduceAdd, Int.reduceSub, Int.reduceNeg, Int.reduceMul, reduceCtorEq, List.reduceReplicate, Nat.reduceGT, Int.reduceGT, Int.reduceGE, Int.reduceBEq, Int.natCast_zero, Int.natCast_one, Int.cast_ofNat_Int, List.range_zero, Nat.reduceMod, Nat.reduceLT, or_false, false_or, or_self]
    exact resK_mk (AS.le_set hB2) ⟨rfl, rfl⟩
  · simp -implicitDefEqProofs only [go_sem, Nat.reduceAdd, Nat.reduceSub, Nat.reduceMul, Nat.reduceEqDiff, Nat.reduceLeDiff, Nat.reduceBEq, Nat.reduceBNe, ↓reduceIte, Int.reduceToNat, Int.reduceLT, Int.reduceLE, Int.reduceEq, Int.reduceAdd, Int.reduceSub, Int.reduceNeg, Int.reduceMul, reduceCtorEq, List.reduceReplicate, Nat.reduceGT, Int.reduceGT, Int.reduceGE, Int.reduceBEq, Int.natCast_zero, Int.natCast_one, Int.cast_ofNat_Int, List.range_zero, Nat.reduceMod, Nat.reduceLT, or_false, false_or, or_self, decide_eq_false hk]
    exact resK_mk (AS.le_set hB2) ⟨rfl, rfl⟩
theorem w4_ok (x : Ex) (S : AS) (h : p45 x = false) : ACall Tryd.prog 45 [.agg (encE x)] S fun r T => r = .ret (.v (.bool false)) ∧ T = S := by
  refine ACall.by_code Tryd.func45 rfl Tryd.ntmps45 rfl ?_
  have he := encE_eq x
  simp -implicitDefEqProofs only [go_sem, Nat.reduceAdd, Nat.reduceSub, Nat.reduceMul, Nat.reduceEqDiff, Nat.reduceLeDiff, Nat.reduceBEq, Nat.reduceBNe, ↓reduceIte, Int.reduceToNat, Int.reduceLT, Int.reduceLE, Int.reduceEq, Int.reduceAdd, Int.reduceSub, Int.reduceNeg, Int.reduceMul, reduceCtorEq, List.reduceReplicate, Nat.reduceGT, Int.reduceGT, Int.reduceGE, Int.reduceBEq, Int.natCast_zero, Int.natCast_one, Int.cast_ofNat_Int, List.range_zero, Nat.reduceMod, Nat.reduceLT, or_false, false_or, or_self]
  intro B2 hB2
  simp -implicitDefEqProofs only [go_sem, Nat.reduceAdd, Nat.reduceSub, Nat.reduceMul, Nat.reduceEqDiff, Nat.reduceLeDiff, Nat.reduceBEq, Nat.reduceBNe, ↓reduceIte, Int.reduceToNat, Int.reduceLT, Int.reduceLE, Int.reduceEq, Int.reduceAdd, Int.reduceSub, Int.reduceNeg, Int.reduceMul, reduceCtorEq, List.reduceReplicate, Nat.reduceGT, Int.reduceGT, Int.reduceGE, Int.reduceBEq, Int.natCast_zero, Int.natCast_one, Int.cast_ofNat_Int, List.range_zero, Nat.reduceMod, Nat.reduceLT, or_false, false_or, or_self, he]
  have hd0 : ¬ 16 < x.filters.length := by simpa [p45] using h
  have hd : ¬ (16 : Int) < (x.filters.length : Int) := by omega
  simp -implicitDefEqProofs only [go_sem, Nat.reduceAdd, Nat.reduceSub, Nat.reduceMul, Nat.reduceEqDiff, Nat.reduceLeDiff, Nat.reduceBEq, Nat.reduceBNe, ↓reduceIte, Int.reduceToNat, Int.reduceLT, Int.reduceLE, Int.reduceEq, Int.reduceAdd, Int.reduceSub, Int.reduceNeg, Int.reduceMul, reduceCtorEq, List.reduceReplicate, Nat.reduceGT, Int.reduceGT, Int.reduceGE, Int.reduceBEq, Int.natCast_zero, Int.natCast_one, Int.cast_ofNat_Int, List.range_zero, Nat.reduceMod, Nat.reduceLT, or_false, false_or, or_self, decide_eq_false hd]
  exact resK_mk (AS.le_set hB2) ⟨rfl, rfl⟩
def bsV (bs : List (Nat × Ex)) (own : Option (Nat × Nat)) : AObj := .var [.sl (bs.map encB) own] 31
theorem w2_ok (p : Ex → Bool) (g : FuncId) (cap : List AV) (S0 : AS) (hk : okF Tryd.prog g = true) (hF : ∀ x S', p x = false → S0.le S' → ACall Tryd.prog g (.agg (encE x) :: cap) S' fun r T => r = .ret (.v (.bool false)) ∧ T = S')
    (f : Nat) (bs : List (Nat × Ex)) (own : Option (Nat × Nat)) (B : Nat) (S : AS) (hS0 : S0.le S) (hS : S B = some (bsV bs own)) (hall : ∀ b ∈ bs, noneB f p b.2 = true) (hl : bs.length ≤ 1000000) :
    ACall Tryd.prog 42 [.fn (.func g) cap, .ptr B 0] S fun r T => r = .ret (.v (.bool false)) ∧ T = S := by
  unfold bsV at hS
  refine ACall.by_code Tryd.func42 rfl Tryd.ntmps42 rfl ?_
  simp -implicitDefEqProofs only [go_sem, Nat.reduceAdd, Nat.reduceSub, Nat.reduceMul, Nat.reduceEqDiff, Nat.reduceLeDiff, Nat.reduceBEq, Nat.reduceBNe, ↓reduceIte, Int.reduceToNat, Int.reduceLT, Int.reduceLE, Int.reduceEq, Int.reduceAdd, Int.reduceSub, Int.reduceNeg, Int.reduceMul, reduceCtorEq, List.reduceReplicate, Nat.reduceGT, Int.reduceGT, Int.reduceGE, Int.reduceBEq, Int.natCast_zero, Int.natCast_one, Int.cast_ofNat_Int, List.range_zero, Nat.reduceMod, Nat.reduceLT, or_false, false_or, or_self, hS]
  refine AWp.loop (fun n a T => ∃ i : Nat, i + n = bs.length ∧ S.le T ∧ ∃ j1 j2 j3 j4 j5 j9 j10 j11 j12 j13 j14 j15 j16 : AV, a = ⟨[.fn (.func g) cap, j1, j2, j3, j4, j5, .sl (bs.map encB) own, int bs.length, int i, j9, j10, j11, j12, j13, j14, j15, j16]⟩) bs.length ?_ ?_
  · exact ⟨0, by omega, AS.le_refl _, ⟨_, _, _, _, _, _, _, _, _, _, _, _, _, rfl⟩⟩
  · rintro n a T ⟨i, hi, hT, ⟨j1, j2, j3, j4, j5, j9, j10, j11, j12, j13, j14, j15, j16, rfl⟩⟩
    refine WC.sound _ _ _ _ ?_
    simp -implicitDefEqProofs only [go_sem, Nat.reduceAdd, Nat.reduceSub, Nat.reduceMul, Nat.reduceEqDiff, Nat.reduceLeDiff, Nat.reduceBEq, Nat.reduceBNe, ↓reduceIte, Int.reduceToNat, Int.reduceLT, Int.reduceLE, Int.reduceEq, Int.reduceAdd, Int.reduceSub, Int.reduceNeg, Int.reduceMul, reduceCtorEq, List.reduceReplicate, Nat.reduceGT, Int.reduceGT, Int.reduceGE, Int.reduceBEq, Int.natCast_zero, Int.natCast_one, Int.cast_ofNat_Int, List.range_zero, Nat.reduceMod, Nat.reduceLT, or_false, false_or, or_self, int]
    refine condK_split (fun h => ?_) (fun h => ?_)
    · have hlt : i < bs.length := by simpa using h
      have hg : bs[i]? = some bs[i] := List.getElem?_eq_getElem hlt
      have w1 : IntKind.i64.wrap ((i : Int) + 1) = ((i + 1 : Nat) : Int) := wrap_eq (by omega) (by omega)
      simp -implicitDefEqProofs only [go_sem, Nat.reduceAdd, Nat.reduceSub, Nat.reduceMul, Nat.reduceEqDiff, Nat.reduceLeDiff, Nat.reduceBEq, Nat.reduceBNe, ↓reduceIte, Int.reduceToNat, Int.reduceLT, Int.reduceLE, Int.reduceEq, Int.reduceAdd, Int.reduceSub, Int.reduceNeg, Int.reduceMul, reduceCtorEq, List.reduceReplicate, Nat.reduceGT, Int.reduceGT, Int.reduceGE, Int.reduceBEq, Int.natCast_zero, Int.natCast_one, Int.cast_ofNat_Int, List.range_zero, Nat.reduceMod, Nat.reduceLT, or_false, false_or, or_self, hg, encB_length, encB_take6, encB_one]
      intro B6 hB6
      simp -implicitDefEqProofs only [go_sem, Nat.reduceAdd, Nat.reduceSub, Nat.reduceMul, Nat.reduceEqDiff, Nat.reduceLeDiff, Nat.reduceBEq, Nat.reduceBNe, ↓reduceIte, Int.reduceToNat, Int.reduceLT, Int.reduceLE, Int.reduceEq, Int.reduceAdd, Int.reduceSub, Int.reduceNeg, Int.reduceMul, reduceCtorEq, List.reduceReplicate, Nat.reduceGT, Int.reduceGT, Int.reduceGE, Int.reduceBEq, Int.natCast_zero, Int.natCast_one, Int.cast_ofNat_Int, List.range_zero, Nat.reduceMod, Nat.reduceLT, or_false, false_or, or_self, encB, encE_length, encE_take]
      have hle : T.le ((T.set B6 (AObj.var [.v (.int .i64 0), .v (.int .i64 0), .v (.int .i64 0), .str [], .v (.slice none 0 0), .v (.slice none 0 0)] 35)).set B6 (AObj.var (.v (.int .i64 bs[i].1) :: encE bs[i].2) 35)) := AS.le_trans (AS.le_set hB6) (by rw [AS.set_set]; exact AS.le_refl _)
      refine (some_ok p g cap S0 hk hF f _ _ (AS.le_trans hS0 (AS.le_trans hT hle)) (hall _ (List.getElem_mem hlt))).mono ?_
      rintro _ _ ⟨rfl, rfl⟩
      simp -implicitDefEqProofs only [go_sem, Nat.reduceAdd, Nat.reduceSub, Nat.reduceMul, Nat.reduceEqDiff, Nat.reduceLeDiff, Nat.reduceBEq, Nat.reduceBNe, ↓reduceIte, Int.reduceToNat, Int.reduceLT, Int.reduceLE, Int.reduceEq, Int.reduceAdd, Int.reduceSub, Int.reduceNeg, Int.reduceMul, reduceCtorEq, List.reduceReplicate, Nat.reduceGT, Int.reduceGT, Int.reduceGE, Int.reduceBEq, Int.natCast_zero, Int.natCast_one, Int.cast_ofNat_Int, List.range_zero, Nat.reduceMod, Nat.reduceLT, or_false, false_or, or_self, w1, int]
      exact ⟨n - 1, by omega, i + 1, by omega, AS.le_trans hT hle, ⟨_, _, _, _, _, _, _, _, _, _, _, _, _, rfl⟩⟩
    · simp -implicitDefEqProofs only [go_sem, Nat.reduceAdd, Nat.reduceSub, Nat.reduceMul, Nat.reduceEqDiff, Nat.reduceLeDiff, Nat.reduceBEq, Nat.reduceBNe, ↓reduceIte, Int.reduceToNat, Int.reduceLT, Int.reduceLE, Int.reduceEq, Int.reduceAdd, Int.reduceSub, Int.reduceNeg, Int.reduceMul, reduceCtorEq, List.reduceReplicate, Nat.reduceGT, Int.reduceGT, Int.reduceGE, Int.reduceBEq, Int.natCast_zero, Int.natCast_one, Int.cast_ofNat_Int, List.range_zero, Nat.reduceMod, Nat.reduceLT, or_false, false_or, or_self]
      exact resK_mk hT ⟨rfl, rfl⟩
def rightAll (f : Nat) (bs : List (Nat × Ex)) : Bool := bs.all (fun b => decide (1 ≤ b.1) && decide (b.1 ≤ 9999)) && bs.all (fun b => noneB f p44 b.2) && decide (bs.length ≤ 256) && bs.all (fun b => noneB f p45 b.2) && bs.all (goodB f)
theorem wrong_ok (f : Nat) (bs : List (Nat × Ex)) (own : Option (Nat × Nat)) (S : AS) (h : rightAll f bs = true) : ACall Tryd.prog 21 [.sl (bs.map encB) own] S fun r T => r = .ret (.v (.int .i64 0)) ∧ T = S := by
  simp only [rightAll, Bool.and_eq_true, decide_eq_true_eq, List.all_eq_true] at h
  obtain ⟨⟨⟨⟨h1, h2⟩, h3⟩, h4⟩, h5⟩ := h
  refine ACall.by_code Tryd.func21 rfl Tryd.ntmps21 rfl ?_
  simp -implicitDefEqProofs only [go_sem, Nat.reduceAdd, Nat.reduceSub, Nat.reduceMul, Nat.reduceEqDiff, Nat.reduceLeDiff, Nat.reduceBEq, Nat.reduceBNe, ↓reduceIte, Int.reduceToNat, Int.reduceLT, Int.reduceLE, Int.reduceEq, Int.reduceAdd, Int.reduceSub, Int.reduceNeg, Int.reduceMul, reduceCtorEq, List.reduceReplicate, Nat.reduceGT, Int.reduceGT, Int.reduceGE, Int.reduceBEq, Int.natCast_zero, Int.natCast_one, Int.cast_ofNat_Int, List.range_zero, Nat.reduceMod, Nat.reduceLT, or_false, false_or, or_self]
  intro B1 hB1
  intro B3 hB3; simp only [none_set_iff] at hB3; have hB3s := hB3; simp only [ne_comm (a := B3)] at hB3s
  simp -implicitDefEqProofs only [go_sem, Nat.reduceAdd, Nat.reduceSub, Nat.reduceMul, Nat.reduceEqDiff, Nat.reduceLeDiff, Nat.reduceBEq, Nat.reduceBNe, ↓reduceIte, Int.reduceToNat, Int.reduceLT, Int.reduceLE, Int.reduceEq, Int.reduceAdd, Int.reduceSub, Int.reduceNeg, Int.reduceMul, reduceCtorEq, List.reduceReplicate, Nat.reduceGT, Int.reduceGT, Int.reduceGE, Int.reduceBEq, Int.natCast_zero, Int.natCast_one, Int.cast_ofNat_Int, List.range_zero, Nat.reduceMod, Nat.reduceLT, or_false, false_or, or_self, hB3, hB3s]
  have hR : ((S.set B1 (bsV bs own)).set B3 fn41).le (((S.set B1 (AObj.var [.sl (List.map encB bs) own] 31)).set B3 (AObj.var [.v .nilFunc] 71)).set B3 (AObj.var [.fn (.func 41) []] 71)) := by
    rw [AS.set_set]; exact AS.le_refl _
  have hS3 : ∀ T, ((S.set B1 (bsV bs own)).set B3 fn41).le T → T B3 = some fn41 := fun T h => h _ _ (by simp)
  have hS1 : ∀ T, ((S.set B1 (bsV bs own)).set B3 fn41).le T → T B1 = some (bsV bs own) := fun T h => h _ _ (by simp [AS.set, hB3s.1])
  have hSS : ∀ T, ((S.set B1 (bsV bs own)).set B3 fn41).le T → S.le T := fun T h => AS.le_trans (AS.le_new (AS.le_set hB1) hB3.2) h
  refine AWp.loop (fun n a T => ∃ i : Nat, i + n = bs.length ∧ ((S.set B1 (bsV bs own)).set B3 fn41).le T ∧ ∃ j0 j2 j5 j6 j7 j11 j12 j13 j14 j15 j16 j17 j18 j19 j20 j21 j22 j23 j24 j25 j26 j27 j28 j29 j30 j31 j32 j33 : AV, a = ⟨[j0, .ptr B1 0, j2, .ptr B3 0, .fn (.func 42) [.ptr B1 0], j5, j6, j7, .sl (bs.map encB) own, int bs.length, int i, j11, j12, j13, j14, j15, j16, j17, j18, j19, j20, j21, j22, j23, j24, j25, j26, j27, j28, j29, j30, j31, j32, j33]⟩) bs.length ?_ ?_
  · exact ⟨0, by omega, hR, ⟨_, _, _, _, _, _, _, _, _, _, _, _, _, _, _, _, _, _, _, _, _, _, _, _, _, _, _, _, rfl⟩⟩
  · rintro n a T ⟨i, hi, hT, ⟨j0, j2, j5, j6, j7, j11, j12, j13, j14, j15, j16, j17, j18, j19, j20, j21, j22, j23, j24, j25, j26, j27, j28, j29, j30, j31, j32, j33, rfl⟩⟩
    have hT3 := hS3 T hT
    have hT1 := hS1 T hT
    unfold fn41 at hT3
    unfold bsV at hT1
    refine WC.sound _ _ _ _ ?_
    simp -implicitDefEqProofs only [go_sem, Nat.reduceAdd, Nat.reduceSub, Nat.reduceMul, Nat.reduceEqDiff, Nat.reduceLeDiff, Nat.reduceBEq, Nat.reduceBNe, ↓reduceIte, Int.reduceToNat, Int.reduceLT, Int.reduceLE, Int.reduceEq, Int.reduceAdd, Int.reduceSub, Int.reduceNeg, Int.reduceMul, reduceCtorEq, List.reduceReplicate, Nat.reduceGT, Int.reduceGT, Int.reduceGE, Int.reduceBEq, Int.natCast_zero, Int.natCast_one, Int.cast_ofNat_Int, List.range_zero, Nat.reduceMod, Nat.reduceLT, or_false, false_or, or_self, int]
    refine condK_split (fun h => ?_) (fun h => ?_)
    · have hlt : i < bs.length := by simpa using h
      have hg : bs[i]? = some bs[i] := List.getElem?_eq_getElem hlt
      have w1 : IntKind.i64.wrap ((i : Int) + 1) = ((i + 1 : Nat) : Int) := wrap_eq (by omega) (by omega)
      simp -implicitDefEqProofs only [go_sem, Nat.reduceAdd, Nat.reduceSub, Nat.reduceMul, Nat.reduceEqDiff, Nat.reduceLeDiff, Nat.reduceBEq, Nat.reduceBNe, ↓reduceIte, Int.reduceToNat, Int.reduceLT, Int.reduceLE, Int.reduceEq, Int.reduceAdd, Int.reduceSub, Int.reduceNeg, Int.reduceMul, reduceCtorEq, List.reduceReplicate, Nat.reduceGT, Int.reduceGT, Int.reduceGE, Int.reduceBEq, Int.natCast_zero, Int.natCast_one, Int.cast_ofNat_Int, List.range_zero, Nat.reduceMod, Nat.reduceLT, or_false, false_or, or_self, hg, encB_length, encB_take6, encB_one]
      intro B6 hB6
      have hne6 := ne_some hT3 hB6
      have hle : T.le ((T.set B6 (AObj.var [.v (.int .i64 0), .v (.int .i64 0), .v (.int .i64 0), .str [], .v (.slice none 0 0), .v (.slice none 0 0)] 35)).set B6 (AObj.var (encB bs[i]) 35)) := AS.le_trans (AS.le_set hB6) (by rw [AS.set_set]; exact AS.le_refl _)
      simp -implicitDefEqProofs only [go_sem, Nat.reduceAdd, Nat.reduceSub, Nat.reduceMul, Nat.reduceEqDiff, Nat.reduceLeDiff, Nat.reduceBEq, Nat.reduceBNe, ↓reduceIte, Int.reduceToNat, Int.reduceLT, Int.reduceLE, Int.reduceEq, Int.reduceAdd, Int.reduceSub, Int.reduceNeg, Int.reduceMul, reduceCtorEq, List.reduceReplicate, Nat.reduceGT, Int.reduceGT, Int.reduceGE, Int.reduceBEq, Int.natCast_zero, Int.natCast_one, Int.cast_ofNat_Int, List.range_zero, Nat.reduceMod, Nat.reduceLT, or_false, false_or, or_self, hT3, hne6, encB]
      have hb := h1 _ (List.getElem_mem hlt)
      refine (strange_ok _ _ (by omega)).mono ?_
      rintro _ _ ⟨rfl, rfl⟩
      simp -implicitDefEqProofs only [go_sem, Nat.reduceAdd, Nat.reduceSub, Nat.reduceMul, Nat.reduceEqDiff, Nat.reduceLeDiff, Nat.reduceBEq, Nat.reduceBNe, ↓reduceIte, Int.reduceToNat, Int.reduceLT, Int.reduceLE, Int.reduceEq, Int.reduceAdd, Int.reduceSub, Int.reduceNeg, Int.reduceMul, reduceCtorEq, List.reduceReplicate, Nat.reduceGT, Int.reduceGT, Int.reduceGE, Int.reduceBEq, Int.natCast_zero, Int.natCast_one, Int.cast_ofNat_Int, List.range_zero, Nat.reduceMod, Nat.reduceLT, or_false, false_or, or_self, w1, int]
      exact ⟨n - 1, by omega, i + 1, by omega, AS.le_trans hT hle, ⟨_, _, _, _, _, _, _, _, _, _, _, _, _, _, _, _, _, _, _, _, _, _, _, _, _, _, _, _, rfl⟩⟩
    · simp -implicitDefEqProofs only [go_sem, Nat.reduceAdd, Nat.reduceSub, Nat.reduceMul, Nat.reduceEqDiff, Nat.reduceLeDiff, Nat.reduceBEq, Nat.reduceBNe, ↓reduceIte, Int.reduceToNat, Int.reduceLT, Int.reduceLE, Int.reduceEq, Int.reduceAdd, Int.reduceSub, Int.reduceNeg, Int.reduceMul, reduceCtorEq, List.reduceReplicate, Nat.reduceGT, Int.reduceGT, Int.reduceGE, Int.reduceBEq, Int.natCast_zero, Int.natCast_one, Int.cast_ofNat_Int, List.range_zero, Nat.reduceMod, Nat.reduceLT, or_false, false_or, or_self]
      refine (w2_ok p44 44 [.ptr B3 0] _ (by kernel_rfl) (fun x S' hp hle => w3_ok x B3 S' (hS3 _ hle) hp) f bs own B1 T hT (hS1 T hT) h2 (by omega)).mono ?_
      rintro _ _ ⟨rfl, rfl⟩
      have h3' : ¬ (256 : Int) < (bs.length : Int) := by omega
      have hT1 := hS1 _ hT
      unfold bsV at hT1
      simp -implicitDefEqProofs only [go_sem, Nat.reduceAdd, Nat.reduceSub, Nat.reduceMul, Nat.reduceEqDiff, Nat.reduceLeDiff, Nat.reduceBEq, Nat.reduceBNe, ↓reduceIte, Int.reduceToNat, Int.reduceLT, Int.reduceLE, Int.reduceEq, Int.reduceAdd, Int.reduceSub, Int.reduceNeg, Int.reduceMul, reduceCtorEq, List.reduceReplicate, Nat.reduceGT, Int.reduceGT, Int.reduceGE, Int.reduceBEq, Int.natCast_zero, Int.natCast_one, Int.cast_ofNat_Int, List.range_zero, Nat.reduceMod, Nat.reduceLT, or_false, false_or, or_self, hT1, decide_eq_false h3']
      refine (w2_ok p45 45 [] _ (by kernel_rfl) (fun x S' hp hle => w4_ok x S' hp) f bs own B1 _ hT (hS1 _ hT) h4 (by omega)).mono ?_
      rintro _ _ ⟨rfl, rfl⟩
      have hT1 := hS1 _ hT
      unfold bsV at hT1
      simp -implicitDefEqProofs only [go_sem, Nat.reduceAdd, Nat.reduceSub, Nat.reduceMul, Nat.reduceEqDiff, Nat.reduceLeDiff, Nat.reduceBEq, Nat.reduceBNe, ↓reduceIte, Int.reduceToNat, Int.reduceLT, Int.reduceLE, Int.reduceEq, Int.reduceAdd, Int.reduceSub, Int.reduceNeg, Int.reduceMul, reduceCtorEq, List.reduceReplicate, Nat.reduceGT, Int.reduceGT, Int.reduceGE, Int.reduceBEq, Int.natCast_zero, Int.natCast_one, Int.cast_ofNat_Int, List.range_zero, Nat.reduceMod, Nat.reduceLT, or_false, false_or, or_self, hT1]
      refine (good_ok f bs own _ h5 h3).mono ?_
      rintro _ _ ⟨rfl, rfl⟩
      simp -implicitDefEqProofs only [go_sem, Nat.reduceAdd, Nat.reduceSub, Nat.reduceMul, Nat.reduceEqDiff, Nat.reduceLeDiff, Nat.reduceBEq, Nat.reduceBNe, ↓reduceIte, Int.reduceToNat, Int.reduceLT, Int.reduceLE, Int.reduceEq, Int.reduceAdd, Int.reduceSub, Int.reduceNeg, Int.reduceMul, reduceCtorEq, List.reduceReplicate, Nat.reduceGT, Int.reduceGT, Int.reduceGE, Int.reduceBEq, Int.natCast_zero, Int.natCast_one, Int.cast_ofNat_Int, List.range_zero, Nat.reduceMod, Nat.reduceLT, or_false, false_or, or_self]
      exact resK_mk (hSS _ hT) ⟨rfl, rfl⟩
end Go.Proofs.YtedicdnflpjhkaaDoor
