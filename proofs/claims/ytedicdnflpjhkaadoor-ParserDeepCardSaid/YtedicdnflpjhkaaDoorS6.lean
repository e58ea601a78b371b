/- parser.reader: here, fail, is, take, may, must, number. No condition beyond the bounds named. -/
import Derived.Test.YtedicdnflpjhkaaDoorS5
set_option linter.unusedSimpArgs false
set_option linter.unusedVariables false
set_option maxRecDepth 100000
set_option maxHeartbeats 1000000
namespace Go.Proofs.YtedicdnflpjhkaaDoor
open Go.Aw
theorem ACall.less {P : Program} {f : FuncId} {args : List AV} {R S : AS} {Q : AEnd → AS → Prop} (h : R.le S) (c : ACall P f args R Q) : ACall P f args S Q :=
  fun b0 w0 π w vs hs ha => c b0 w0 π w vs (hs.le h) ha
theorem AS.set_le_set {S T : AS} {B : Nat} {o : AObj} (h : (S.del B).le T) : (S.set B o).le (T.set B o) := by
  intro b x hb
  unfold AS.set at hb
  split at hb
  · rename_i e; subst e; cases hb; simp
  · rename_i e; rw [AS.set_other _ _ e]; exact h _ _ (by simp [AS.del, e, hb])
theorem AS.del_skip {S T : AS} {B : Nat} {o : AObj} (h : (S.del B).le T) : (S.del B).le (T.set B o) := by
  intro b x hb
  by_cases e : b = B
  · subst e; simp [AS.del] at hb
  · rw [AS.set_other _ _ e]; exact h _ _ hb
theorem AS.del_le_del {S T : AS} {B : Nat} (h : S.le T) : (S.del B).le (T.del B) := by
  intro b x hb
  unfold AS.del at hb ⊢
  split at hb
  · cases hb
  · rw [if_neg (by assumption)]; exact h _ _ hb
theorem AS.del_le_set {S : AS} {B : Nat} {o : AObj} : (S.del B).le (S.set B o) := by
  intro b x hb
  unfold AS.del at hb
  split at hb
  · cases hb
  · rename_i e; rw [AS.set_other _ _ e]; exact hb
theorem AS.del_del {S T : AS} {B : Nat} (h : (S.del B).le T) : (S.del B).le (T.del B) := by
  intro b x hb
  by_cases e : b = B
  · subst e; simp [AS.del] at hb
  · have := h _ _ hb
    simp [AS.del, e, this]
/-- Goals of the kind 'this is known there too'. -/
theorem AS.le_new {S T : AS} {B : Nat} {o : AObj} (h : S.le T) (hB : S B = none) : S.le (T.set B o) := by
  intro b x hb
  by_cases e : b = B
  · subst e; rw [hB] at hb; cases hb
  · rw [AS.set_other _ _ e]; exact h _ _ hb
def rd (l : List Tk) (e : Nat) : AObj := .var [.sl (l.map encT) none, .v (.int .i64 e)] 42
def hereF (l : List Tk) (e : Nat) : Nat := match l with | [] => e | t :: _ => t.at_
theorem here_ok (l : List Tk) (e B : Nat) (S : AS) (hB : S B = some (rd l e)) : ACall Tryd.prog 24 [.ptr B 0] S fun r T => r = .ret (.v (.int .i64 (hereF l e))) ∧ T = S := by
  unfold rd at hB
  refine ACall.by_code Tryd.func24 rfl Tryd.ntmps24 rfl ?_
  cases l with
  | nil =>
    simp -implicitDefEqProofs only [go_sem, Nat.reduceAdd, Nat.reduceSub, Nat.reduceMul, Nat.reduceEqDiff, Nat.reduceLeDiff, Nat.reduceBEq, Nat.reduceBNe, ↓reduceIte, Int.reduceToNat, Int.reduceLT, Int.reduceLE, Int.reduceEq, Int.reduceAdd, Int.reduceSub, Int.reduceNeg, Int.reduceMul, reduceCtorEq, List.reduceReplicate, Nat.reduceGT, Int.reduceGT, Int.reduceGE, Int.reduceBEq, Int.natCast_zero, Int.natCast_one, Int.cast_ofNat_Int, List.range_zero, Nat.reduceMod, Nat.reduceLT, or_false, false_or, or_self, hB]
    exact resK_mk (AS.le_refl _) ⟨rfl, rfl⟩
  | cons t l =>
    have h1 : (0 : Int) < ((l.length + 1 : Nat) : Int) := by omega
    simp -implicitDefEqProofs only [go_sem, Nat.reduceAdd, Nat.reduceSub, Nat.reduceMul, Nat.reduceEqDiff, Nat.reduceLeDiff, Nat.reduceBEq, Nat.reduceBNe, ↓reduceIte, Int.reduceToNat, Int.reduceLT, Int.reduceLE, Int.reduceEq, Int.reduceAdd, Int.reduceSub, Int.reduceNeg, Int.reduceMul, reduceCtorEq, List.reduceReplicate, Nat.reduceGT, Int.reduceGT, Int.reduceGE, Int.reduceBEq, Int.natCast_zero, Int.natCast_one, Int.cast_ofNat_Int, List.range_zero, Nat.reduceMod, Nat.reduceLT, or_false, false_or, or_self, hB, decide_eq_true h1, encT]
    exact resK_mk (AS.le_refl _) ⟨rfl, rfl⟩
theorem fail_ok (l : List Tk) (e B : Nat) (x : Int) (S : AS) (hB : S B = some (rd l e)) : ACall Tryd.prog 11 [.ptr B 0, .v (.int .i64 x)] S fun r T => r = .panic (.ifc 60 (.agg [.v (.int .i64 (hereF l e)), .v (.int .i64 x)])) ∧ T = S := by
  refine ACall.by_code Tryd.func11 rfl Tryd.ntmps11 rfl ?_
  simp -implicitDefEqProofs only [go_sem, Nat.reduceAdd, Nat.reduceSub, Nat.reduceMul, Nat.reduceEqDiff, Nat.reduceLeDiff, Nat.reduceBEq, Nat.reduceBNe, ↓reduceIte, Int.reduceToNat, Int.reduceLT, Int.reduceLE, Int.reduceEq, Int.reduceAdd, Int.reduceSub, Int.reduceNeg, Int.reduceMul, reduceCtorEq, List.reduceReplicate, Nat.reduceGT, Int.reduceGT, Int.reduceGE, Int.reduceBEq, Int.natCast_zero, Int.natCast_one, Int.cast_ofNat_Int, List.range_zero, Nat.reduceMod, Nat.reduceLT, or_false, false_or, or_self]
  refine (here_ok l e B S hB).mono ?_
  rintro _ _ ⟨rfl, rfl⟩
  simp -implicitDefEqProofs only [go_sem, Nat.reduceAdd, Nat.reduceSub, Nat.reduceMul, Nat.reduceEqDiff, Nat.reduceLeDiff, Nat.reduceBEq, Nat.reduceBNe, ↓reduceIte, Int.reduceToNat, Int.reduceLT, Int.reduceLE, Int.reduceEq, Int.reduceAdd, Int.reduceSub, Int.reduceNeg, Int.reduceMul, reduceCtorEq, List.reduceReplicate, Nat.reduceGT, Int.reduceGT, Int.reduceGE, Int.reduceBEq, Int.natCast_zero, Int.natCast_one, Int.cast_ofNat_Int, List.range_zero, Nat.reduceMod, Nat.reduceLT, or_false, false_or, or_self]
  exact ⟨_, AS.le_refl _, rfl⟩
def encS (s : List UInt8) : List AV := [.str s]
def isF (k : Int) (signs : List (List UInt8)) : List Tk → Bool
  | [] => false
  | t :: _ => decide (t.kind = k) && signs.any fun s => decide (t.text = s)
theorem is_ok (k : Int) (signs : List (List UInt8)) (own : Option (Nat × Nat)) (l : List Tk) (e B : Nat) (S : AS) (hB : S B = some (rd l e)) (hs : signs.length ≤ 1000) :
    ACall Tryd.prog 25 [.ptr B 0, .v (.int .i64 k), .sl (signs.map encS) own] S fun r T => r = .ret (.v (.bool (isF k signs l))) ∧ T = S := by
  unfold rd at hB
  refine ACall.by_code Tryd.func25 rfl Tryd.ntmps25 rfl ?_
  cases l with
  | nil =>
    simp -implicitDefEqProofs only [go_sem, Nat.reduceAdd, Nat.reduceSub, Nat.reduceMul, Nat.reduceEqDiff, Nat.reduceLeDiff, Nat.reduceBEq, Nat.reduceBNe, ↓reduceIte, Int.reduceToNat, Int.reduceLT, Int.reduceLE, Int.reduceEq, Int.reduceAdd, Int.reduceSub, Int.reduceNeg, Int.reduceMul, reduceCtorEq, List.reduceReplicate, Nat.reduceGT, Int.reduceGT, Int.reduceGE, Int.reduceBEq, Int.natCast_zero, Int.natCast_one, Int.cast_ofNat_Int, List.range_zero, Nat.reduceMod, Nat.reduceLT, or_false, false_or, or_self, hB]
    exact resK_mk (AS.le_refl _) ⟨rfl, rfl⟩
  | cons t l =>
    have h1 : ¬ ((l.length + 1 : Nat) : Int) = 0 := by omega
    simp -implicitDefEqProofs only [go_sem, Nat.reduceAdd, Nat.reduceSub, Nat.reduceMul, Nat.reduceEqDiff, Nat.reduceLeDiff, Nat.reduceBEq, Nat.reduceBNe, ↓reduceIte, Int.reduceToNat, Int.reduceLT, Int.reduceLE, Int.reduceEq, Int.reduceAdd, Int.reduceSub, Int.reduceNeg, Int.reduceMul, reduceCtorEq, List.reduceReplicate, Nat.reduceGT, Int.reduceGT, Int.reduceGE, Int.reduceBEq, Int.natCast_zero, Int.natCast_one, Int.cast_ofNat_Int, List.range_zero, Nat.reduceMod, Nat.reduceLT, or_false, false_or, or_self, hB, decide_eq_false h1, encT]
    refine condK_split (fun h => ?_) (fun h => ?_) <;> simp -implicitDefEqProofs only [go_sem, Nat.reduceAdd, Nat.reduceSub, Nat.reduceMul, Nat.reduceEqDiff, Nat.reduceLeDiff, Nat.reduceBEq, Nat.reduceBNe, ↓reduceIte, Int.reduceToNat, Int.reduceLT, Int.reduceLE, Int.reduceEq, Int.reduceAdd, Int.reduceSub, Int.reduceNeg, Int.reduceMul, reduceCtorEq, List.reduceReplicate, Nat.reduceGT, Int.reduceGT, Int.reduceGE, Int.reduceBEq, Int.natCast_zero, Int.natCast_one, Int.cast_ofNat_Int, List.range_zero, Nat.reduceMod, Nat.reduceLT, or_false, false_or, or_self]
    · have hk : ¬ t.kind = k := by simpa using h
      refine resK_mk (AS.le_refl _) ⟨?_, rfl⟩
      simp [isF, hk]
    · have hk : t.kind = k := by simpa using h
      refine AWp.loop (fun n a T => ∃ i : Nat, i + n = signs.length ∧ (signs.take i).any (fun s => decide (t.text = s)) = false ∧ T = S ∧ ∃ j3 j4 j5 j6 j7 j8 j9 j10 j11 j12 j13 j14 j15 j16 j17 j18 j19 j20 j21 j22 j23 j24 j25 j29 j30 j31 j32 j33 j34 j35 j36 j37 j38 j39 j40 j41 : AV, a = ⟨[.ptr B 0, int k, .sl (signs.map encS) own, j3, j4, j5, j6, j7, j8, j9, j10, j11, j12, j13, j14, j15, j16, j17, j18, j19, j20, j21, j22, j23, j24, j25, .sl (signs.map encS) own, int signs.length, int i, j29, j30, j31, j32, j33, j34, j35, j36, j37, j38, j39, j40, j41]⟩) signs.length ?_ ?_
      · exact ⟨0, by omega, rfl, rfl, ⟨_, _, _, _, _, _, _, _, _, _, _, _, _, _, _, _, _, _, _, _, _, _, _, _, _, _, _, _, _, _, _, _, _, _, _, _, rfl⟩⟩
      · rintro n a T ⟨i, hi, hany, rfl, ⟨j3, j4, j5, j6, j7, j8, j9, j10, j11, j12, j13, j14, j15, j16, j17, j18, j19, j20, j21, j22, j23, j24, j25, j29, j30, j31, j32, j33, j34, j35, j36, j37, j38, j39, j40, j41, rfl⟩⟩
        refine WC.sound _ _ _ _ ?_
        simp -implicitDefEqProofs only [go_sem, Nat.reduceAdd, Nat.reduceSub, Nat.reduceMul, Nat.reduceEqDiff, Nat.reduceLeDiff, Nat.reduceBEq, Nat.reduceBNe, ↓reduceIte, Int.reduceToNat, Int.reduceLT, Int.reduceLE, Int.reduceEq, Int.reduceAdd, Int.reduceSub, Int.reduceNeg, Int.reduceMul, reduceCtorEq, List.reduceReplicate, Nat.reduceGT, Int.reduceGT, Int.reduceGE, Int.reduceBEq, Int.natCast_zero, Int.natCast_one, Int.cast_ofNat_Int, List.range_zero, Nat.reduceMod, Nat.reduceLT, or_false, false_or, or_self, int]
        refine condK_split (fun h => ?_) (fun h => ?_)
        · have hlt : i < signs.length := by simpa using h
          have hk : signs[i]? = some signs[i] := List.getElem?_eq_getElem hlt
          have w1 : IntKind.i64.wrap ((i : Int) + 1) = ((i + 1 : Nat) : Int) := wrap_eq (by omega) (by omega)
          simp -implicitDefEqProofs only [go_sem, Nat.reduceAdd, Nat.reduceSub, Nat.reduceMul, Nat.reduceEqDiff, Nat.reduceLeDiff, Nat.reduceBEq, Nat.reduceBNe, ↓reduceIte, Int.reduceToNat, Int.reduceLT, Int.reduceLE, Int.reduceEq, Int.reduceAdd, Int.reduceSub, Int.reduceNeg, Int.reduceMul, reduceCtorEq, List.reduceReplicate, Nat.reduceGT, Int.reduceGT, Int.reduceGE, Int.reduceBEq, Int.natCast_zero, Int.natCast_one, Int.cast_ofNat_Int, List.range_zero, Nat.reduceMod, Nat.reduceLT, or_false, false_or, or_self, hk, encS, hB, encT, int]
          refine condK_split (fun h2 => ?_) (fun h2 => ?_) <;> simp -implicitDefEqProofs only [go_sem, Nat.reduceAdd, Nat.reduceSub, Nat.reduceMul, Nat.reduceEqDiff, Nat.reduceLeDiff, Nat.reduceBEq, Nat.reduceBNe, ↓reduceIte, Int.reduceToNat, Int.reduceLT, Int.reduceLE, Int.reduceEq, Int.reduceAdd, Int.reduceSub, Int.reduceNeg, Int.reduceMul, reduceCtorEq, List.reduceReplicate, Nat.reduceGT, Int.reduceGT, Int.reduceGE, Int.reduceBEq, Int.natCast_zero, Int.natCast_one, Int.cast_ofNat_Int, List.range_zero, Nat.reduceMod, Nat.reduceLT, or_false, false_or, or_self, w1, int]
          · refine resK_mk (AS.le_refl _) ⟨?_, rfl⟩
            have : isF k signs (t :: l) = true := by
              simp only [isF, *, decide_true, Bool.true_and]
              exact List.any_eq_true.2 ⟨signs[i], List.getElem_mem _, h2⟩
            rw [this]
          · refine ⟨n - 1, by omega, i + 1, by omega, ?_, ⟨_, _, _, _, _, _, _, _, _, _, _, _, _, _, _, _, _, _, _, _, _, _, _, _, _, _, _, _, _, _, _, _, _, _, _, _, rfl⟩⟩
            rw [List.take_succ_eq_append_getElem hlt, List.any_append, hany]
            simpa using h2
        · have hge : ¬ i < signs.length := by simpa using h
          simp -implicitDefEqProofs only [go_sem, Nat.reduceAdd, Nat.reduceSub, Nat.reduceMul, Nat.reduceEqDiff, Nat.reduceLeDiff, Nat.reduceBEq, Nat.reduceBNe, ↓reduceIte, Int.reduceToNat, Int.reduceLT, Int.reduceLE, Int.reduceEq, Int.reduceAdd, Int.reduceSub, Int.reduceNeg, Int.reduceMul, reduceCtorEq, List.reduceReplicate, Nat.reduceGT, Int.reduceGT, Int.reduceGE, Int.reduceBEq, Int.natCast_zero, Int.natCast_one, Int.cast_ofNat_Int, List.range_zero, Nat.reduceMod, Nat.reduceLT, or_false, false_or, or_self]
          refine resK_mk (AS.le_refl _) ⟨?_, rfl⟩
          have e1 : i = signs.length := by omega
          rw [e1, List.take_length] at hany
          simp [isF, hany]
theorem encT_all (l : List Tk) : ((l.map encT).all fun x => x.length == 4) = true := by simp [encT_length]
theorem tail_take (l : List Tk) : List.take (l.length + 1 - 1) (l.map encT) = l.map encT := List.take_of_length_le (by simp)
theorem take_ok (t : Tk) (l : List Tk) (e B : Nat) (S : AS) (hB : S B = some (rd (t :: l) e)) : ACall Tryd.prog 26 [.ptr B 0] S fun r T => r = .ret (.agg (encT t)) ∧ T = S.set B (rd l e) := by
  unfold rd at hB
  refine ACall.by_code Tryd.func26 rfl Tryd.ntmps26 rfl ?_
  simp -implicitDefEqProofs only [go_sem, Nat.reduceAdd, Nat.reduceSub, Nat.reduceMul, Nat.reduceEqDiff, Nat.reduceLeDiff, Nat.reduceBEq, Nat.reduceBNe, ↓reduceIte, Int.reduceToNat, Int.reduceLT, Int.reduceLE, Int.reduceEq, Int.reduceAdd, Int.reduceSub, Int.reduceNeg, Int.reduceMul, reduceCtorEq, List.reduceReplicate, Nat.reduceGT, Int.reduceGT, Int.reduceGE, Int.reduceBEq, Int.natCast_zero, Int.natCast_one, Int.cast_ofNat_Int, List.range_zero, Nat.reduceMod, Nat.reduceLT, or_false, false_or, or_self]
  intro B1 hB1
  have hne : B ≠ B1 := fun e => by subst e; rw [hB1] at hB; cases hB
  simp -implicitDefEqProofs only [go_sem, Nat.reduceAdd, Nat.reduceSub, Nat.reduceMul, Nat.reduceEqDiff, Nat.reduceLeDiff, Nat.reduceBEq, Nat.reduceBNe, ↓reduceIte, Int.reduceToNat, Int.reduceLT, Int.reduceLE, Int.reduceEq, Int.reduceAdd, Int.reduceSub, Int.reduceNeg, Int.reduceMul, reduceCtorEq, List.reduceReplicate, Nat.reduceGT, Int.reduceGT, Int.reduceGE, Int.reduceBEq, Int.natCast_zero, Int.natCast_one, Int.cast_ofNat_Int, List.range_zero, Nat.reduceMod, Nat.reduceLT, or_false, false_or, or_self, hB, hne, encT]
  intro B2 hB2
  obtain ⟨hne2, hB2⟩ := none_set hB2
  have hne3 : B ≠ B2 := fun e => by subst e; rw [hB2] at hB; cases hB
  have hn1 := hne.symm
  have hn2 := hne2.symm
  have hn3 := hne3.symm
  simp -implicitDefEqProofs only [go_sem, Nat.reduceAdd, Nat.reduceSub, Nat.reduceMul, Nat.reduceEqDiff, Nat.reduceLeDiff, Nat.reduceBEq, Nat.reduceBNe, ↓reduceIte, Int.reduceToNat, Int.reduceLT, Int.reduceLE, Int.reduceEq, Int.reduceAdd, Int.reduceSub, Int.reduceNeg, Int.reduceMul, reduceCtorEq, List.reduceReplicate, Nat.reduceGT, Int.reduceGT, Int.reduceGE, Int.reduceBEq, Int.natCast_zero, Int.natCast_one, Int.cast_ofNat_Int, List.range_zero, Nat.reduceMod, Nat.reduceLT, or_false, false_or, or_self, hB, hne, hne2, hne3, hn1, hn2, hn3, encT, encT_all, tail_take]
  refine resK_mk (T := S.set B (rd l e)) ?_ ⟨rfl, rfl⟩
  (first | (focus (repeat' (first | exact AS.le_refl _ | assumption | exact AS.del_le _ _ | refine AS.set_le_set ?_ | refine AS.del_skip ?_ | refine AS.del_del ?_ | refine AS.le_new ?_ (by simp [AS.set, AS.del, *]; done))); done) | (intro b' o' h'; simp only [AS.set, AS.del] at h' ⊢; (repeat' split at h') <;> (repeat' split) <;> simp_all))
def mayF (signs : List (List UInt8)) (l : List Tk) : List UInt8 × Bool × List Tk := match l with
  | [] => ([], false, [])
  | t :: r => if isF 3 signs (t :: r) then (t.text, true, r) else ([], false, t :: r)
theorem may_ok (signs : List (List UInt8)) (own : Option (Nat × Nat)) (l : List Tk) (e B : Nat) (S : AS) (hB : S B = some (rd l e)) (hs : signs.length ≤ 1000) :
    ACall Tryd.prog 23 [.ptr B 0, .sl (signs.map encS) own] S fun r T => r = .ret (.tup [.str (mayF signs l).1, .v (.bool (mayF signs l).2.1)]) ∧ T = S.set B (rd (mayF signs l).2.2 e) := by
  refine ACall.by_code Tryd.func23 rfl Tryd.ntmps23 rfl ?_
  simp -implicitDefEqProofs only [go_sem, Nat.reduceAdd, Nat.reduceSub, Nat.reduceMul, Nat.reduceEqDiff, Nat.reduceLeDiff, Nat.reduceBEq, Nat.reduceBNe, ↓reduceIte, Int.reduceToNat, Int.reduceLT, Int.reduceLE, Int.reduceEq, Int.reduceAdd, Int.reduceSub, Int.reduceNeg, Int.reduceMul, reduceCtorEq, List.reduceReplicate, Nat.reduceGT, Int.reduceGT, Int.reduceGE, Int.reduceBEq, Int.natCast_zero, Int.natCast_one, Int.cast_ofNat_Int, List.range_zero, Nat.reduceMod, Nat.reduceLT, or_false, false_or, or_self]
  refine (is_ok 3 signs own l e B S hB hs).mono ?_
  rintro _ S ⟨rfl, rfl⟩
  simp -implicitDefEqProofs only [go_sem, Nat.reduceAdd, Nat.reduceSub, Nat.reduceMul, Nat.reduceEqDiff, Nat.reduceLeDiff, Nat.reduceBEq, Nat.reduceBNe, ↓reduceIte, Int.reduceToNat, Int.reduceLT, Int.reduceLE, Int.reduceEq, Int.reduceAdd, Int.reduceSub, Int.reduceNeg, Int.reduceMul, reduceCtorEq, List.reduceReplicate, Nat.reduceGT, Int.reduceGT, Int.reduceGE, Int.reduceBEq, Int.natCast_zero, Int.natCast_one, Int.cast_ofNat_Int, List.range_zero, Nat.reduceMod, Nat.reduceLT, or_false, false_or, or_self]
  have hsame : ∀ {S : AS} {B : Nat} {o : AObj}, S B = some o → S.set B o = S := by
    intro S B o h; funext b; unfold AS.set; split
    · rename_i e; subst e; exact h.symm
    · rfl
  refine condK_split (fun h => ?_) (fun h => ?_) <;> simp -implicitDefEqProofs only [go_sem, Nat.reduceAdd, Nat.reduceSub, Nat.reduceMul, Nat.reduceEqDiff, Nat.reduceLeDiff, Nat.reduceBEq, Nat.reduceBNe, ↓reduceIte, Int.reduceToNat, Int.reduceLT, Int.reduceLE, Int.reduceEq, Int.reduceAdd, Int.reduceSub, Int.reduceNeg, Int.reduceMul, reduceCtorEq, List.reduceReplicate, Nat.reduceGT, Int.reduceGT, Int.reduceGE, Int.reduceBEq, Int.natCast_zero, Int.natCast_one, Int.cast_ofNat_Int, List.range_zero, Nat.reduceMod, Nat.reduceLT, or_false, false_or, or_self]
  · have h' : isF 3 signs l = false := by simpa using h
    refine resK_mk (T := S.set B (rd (mayF signs l).2.2 e)) ?_ ⟨?_, rfl⟩
    · have : (mayF signs l).2.2 = l := by unfold mayF; cases l <;> simp [h']
      rw [this, hsame hB]; exact AS.le_refl _
    · unfold mayF; cases l <;> simp [h']
  · have h' : isF 3 signs l = true := by simpa using h
    cases l with
    | nil => cases h'
    | cons t l =>
      refine (take_ok t l e B S hB).mono ?_
      rintro _ _ ⟨rfl, rfl⟩
      simp -implicitDefEqProofs only [go_sem, Nat.reduceAdd, Nat.reduceSub, Nat.reduceMul, Nat.reduceEqDiff, Nat.reduceLeDiff, Nat.reduceBEq, Nat.reduceBNe, ↓reduceIte, Int.reduceToNat, Int.reduceLT, Int.reduceLE, Int.reduceEq, Int.reduceAdd, Int.reduceSub, Int.reduceNeg, Int.reduceMul, reduceCtorEq, List.reduceReplicate, Nat.reduceGT, Int.reduceGT, Int.reduceGE, Int.reduceBEq, Int.natCast_zero, Int.natCast_one, Int.cast_ofNat_Int, List.range_zero, Nat.reduceMod, Nat.reduceLT, or_false, false_or, or_self, encT]
      refine resK_mk (T := S.set B (rd (mayF signs (t :: l)).2.2 e)) ?_ ⟨?_, rfl⟩
      · simp only [mayF, h']; exact AS.le_refl _
      · simp [mayF, h']
def fault (p : Nat) (x : Int) : AV := .ifc 60 (.agg [.v (.int .i64 p), .v (.int .i64 x)])
/-- How something is read: a value, and what is left; or a fault. -/
def Ans (S : AS) (B e : Nat) (p : Nat) (err : Int) : Option (AV × List Tk) → AEnd → AS → Prop
  | some (v, l'), r, T => r = .ret v ∧ T = S.set B (rd l' e)
  | none, r, T => r = .panic (fault p err) ∧ T = S.del B
def mustF (signs : List (List UInt8)) (l : List Tk) : Option (AV × List Tk) := if (mayF signs l).2.1 then some (.str (mayF signs l).1, (mayF signs l).2.2) else none
theorem mayF_not {signs : List (List UInt8)} {l : List Tk} (h : (mayF signs l).2.1 = false) : (mayF signs l).2.2 = l := by
  unfold mayF at h ⊢; cases l with
  | nil => rfl
  | cons t l =>
    simp only at h ⊢; split at h
    · cases h
    · rename_i hn; rw [if_neg hn]
theorem must_ok (signs : List (List UInt8)) (own : Option (Nat × Nat)) (l : List Tk) (e B : Nat) (S : AS) (hB : S B = some (rd l e)) (hs : signs.length ≤ 1000) :
    ACall Tryd.prog 28 [.ptr B 0, .sl (signs.map encS) own] S (Ans S B e (hereF l e) 81 (mustF signs l)) := by
  refine ACall.by_code Tryd.func28 rfl Tryd.ntmps28 rfl ?_
  simp -implicitDefEqProofs only [go_sem, Nat.reduceAdd, Nat.reduceSub, Nat.reduceMul, Nat.reduceEqDiff, Nat.reduceLeDiff, Nat.reduceBEq, Nat.reduceBNe, ↓reduceIte, Int.reduceToNat, Int.reduceLT, Int.reduceLE, Int.reduceEq, Int.reduceAdd, Int.reduceSub, Int.reduceNeg, Int.reduceMul, reduceCtorEq, List.reduceReplicate, Nat.reduceGT, Int.reduceGT, Int.reduceGE, Int.reduceBEq, Int.natCast_zero, Int.natCast_one, Int.cast_ofNat_Int, List.range_zero, Nat.reduceMod, Nat.reduceLT, or_false, false_or, or_self]
  refine (may_ok signs own l e B S hB hs).mono ?_
  rintro _ _ ⟨rfl, rfl⟩
  simp -implicitDefEqProofs only [go_sem, Nat.reduceAdd, Nat.reduceSub, Nat.reduceMul, Nat.reduceEqDiff, Nat.reduceLeDiff, Nat.reduceBEq, Nat.reduceBNe, ↓reduceIte, Int.reduceToNat, Int.reduceLT, Int.reduceLE, Int.reduceEq, Int.reduceAdd, Int.reduceSub, Int.reduceNeg, Int.reduceMul, reduceCtorEq, List.reduceReplicate, Nat.reduceGT, Int.reduceGT, Int.reduceGE, Int.reduceBEq, Int.natCast_zero, Int.natCast_one, Int.cast_ofNat_Int, List.range_zero, Nat.reduceMod, Nat.reduceLT, or_false, false_or, or_self]
  refine condK_split (fun h => ?_) (fun h => ?_) <;> simp -implicitDefEqProofs only [go_sem, Nat.reduceAdd, Nat.reduceSub, Nat.reduceMul, Nat.reduceEqDiff, Nat.reduceLeDiff, Nat.reduceBEq, Nat.reduceBNe, ↓reduceIte, Int.reduceToNat, Int.reduceLT, Int.reduceLE, Int.reduceEq, Int.reduceAdd, Int.reduceSub, Int.reduceNeg, Int.reduceMul, reduceCtorEq, List.reduceReplicate, Nat.reduceGT, Int.reduceGT, Int.reduceGE, Int.reduceBEq, Int.natCast_zero, Int.natCast_one, Int.cast_ofNat_Int, List.range_zero, Nat.reduceMod, Nat.reduceLT, or_false, false_or, or_self]
  · have h' : (mayF signs l).2.1 = false := by simpa using h
    rw [mayF_not h']
    refine (fail_ok l e B 81 _ (by simp)).mono ?_
    rintro _ _ ⟨rfl, rfl⟩
    simp -implicitDefEqProofs only [go_sem, Nat.reduceAdd, Nat.reduceSub, Nat.reduceMul, Nat.reduceEqDiff, Nat.reduceLeDiff, Nat.reduceBEq, Nat.reduceBNe, ↓reduceIte, Int.reduceToNat, Int.reduceLT, Int.reduceLE, Int.reduceEq, Int.reduceAdd, Int.reduceSub, Int.reduceNeg, Int.reduceMul, reduceCtorEq, List.reduceReplicate, Nat.reduceGT, Int.reduceGT, Int.reduceGE, Int.reduceBEq, Int.natCast_zero, Int.natCast_one, Int.cast_ofNat_Int, List.range_zero, Nat.reduceMod, Nat.reduceLT, or_false, false_or, or_self]
    refine ⟨S.del B, by (first | (focus (repeat' (first | exact AS.le_refl _ | assumption | exact AS.del_le _ _ | refine AS.set_le_set ?_ | refine AS.del_skip ?_ | refine AS.del_del ?_ | refine AS.le_new ?_ (by simp [AS.set, AS.del, *]; done))); done) | (intro b' o' h'; simp only [AS.set, AS.del] at h' ⊢; (repeat' split at h') <;> (repeat' split) <;> simp_all)), ?_⟩
    unfold mustF; rw [if_neg (by rw [h']; exact Bool.false_ne_true)]; exact ⟨rfl, rfl⟩
  · have h' : (mayF signs l).2.1 = true := by simpa using h
    refine resK_mk (AS.le_refl _) ?_
    unfold mustF; rw [if_pos h']; exact ⟨rfl, rfl⟩
def numF : List Tk → Option (AV × List Tk)
  | [] => none
  | t :: r => if t.kind = 2 then some (.v (.int .i64 t.n), r) else none
theorem number_ok2 (l : List Tk) (e B : Nat) (S : AS) (hB : S B = some (rd l e)) : ACall Tryd.prog 27 [.ptr B 0] S (Ans S B e (hereF l e) 81 (numF l)) := by
  have hB' := hB
  unfold rd at hB'
  refine ACall.by_code Tryd.func27 rfl Tryd.ntmps27 rfl ?_
  cases l with
  | nil =>
    simp -implicitDefEqProofs only [go_sem, Nat.reduceAdd, Nat.reduceSub, Nat.reduceMul, Nat.reduceEqDiff, Nat.reduceLeDiff, Nat.reduceBEq, Nat.reduceBNe, ↓reduceIte, Int.reduceToNat, Int.reduceLT, Int.reduceLE, Int.reduceEq, Int.reduceAdd, Int.reduceSub, Int.reduceNeg, Int.reduceMul, reduceCtorEq, List.reduceReplicate, Nat.reduceGT, Int.reduceGT, Int.reduceGE, Int.reduceBEq, Int.natCast_zero, Int.natCast_one, Int.cast_ofNat_Int, List.range_zero, Nat.reduceMod, Nat.reduceLT, or_false, false_or, or_self, hB']
    refine (fail_ok [] e B 81 _ hB).mono ?_
    rintro _ _ ⟨rfl, rfl⟩
    simp -implicitDefEqProofs only [go_sem, Nat.reduceAdd, Nat.reduceSub, Nat.reduceMul, Nat.reduceEqDiff, Nat.reduceLeDiff, Nat.reduceBEq, Nat.reduceBNe, ↓reduceIte, Int.reduceToNat, Int.reduceLT, Int.reduceLE, Int.reduceEq, Int.reduceAdd, Int.reduceSub, Int.reduceNeg, Int.reduceMul, reduceCtorEq, List.reduceReplicate, Nat.reduceGT, Int.reduceGT, Int.reduceGE, Int.reduceBEq, Int.natCast_zero, Int.natCast_one, Int.cast_ofNat_Int, List.range_zero, Nat.reduceMod, Nat.reduceLT, or_false, false_or, or_self]
    exact ⟨_, AS.del_le _ _, rfl, rfl⟩
  | cons t l =>
    have h1 : ¬ ((l.length + 1 : Nat) : Int) = 0 := by omega
    simp -implicitDefEqProofs only [go_sem, Nat.reduceAdd, Nat.reduceSub, Nat.reduceMul, Nat.reduceEqDiff, Nat.reduceLeDiff, Nat.reduceBEq, Nat.reduceBNe, ↓reduceIte, Int.reduceToNat, Int.reduceLT, Int.reduceLE, Int.reduceEq, Int.reduceAdd, Int.reduceSub, Int.reduceNeg, Int.reduceMul, reduceCtorEq, List.reduceReplicate, Nat.reduceGT, Int.reduceGT, Int.reduceGE, Int.reduceBEq, Int.natCast_zero, Int.natCast_one, Int.cast_ofNat_Int, List.range_zero, Nat.reduceMod, Nat.reduceLT, or_false, false_or, or_self, hB', decide_eq_false h1, encT]
    refine condK_split (fun h => ?_) (fun h => ?_) <;> simp -implicitDefEqProofs only [go_sem, Nat.reduceAdd, Nat.reduceSub, Nat.reduceMul, Nat.reduceEqDiff, Nat.reduceLeDiff, Nat.reduceBEq, Nat.reduceBNe, ↓reduceIte, Int.reduceToNat, Int.reduceLT, Int.reduceLE, Int.reduceEq, Int.reduceAdd, Int.reduceSub, Int.reduceNeg, Int.reduceMul, reduceCtorEq, List.reduceReplicate, Nat.reduceGT, Int.reduceGT, Int.reduceGE, Int.reduceBEq, Int.natCast_zero, Int.natCast_one, Int.cast_ofNat_Int, List.range_zero, Nat.reduceMod, Nat.reduceLT, or_false, false_or, or_self]
    · have hk : ¬ t.kind = 2 := by simpa using h
      refine (fail_ok _ e B 81 _ hB).mono ?_
      rintro _ _ ⟨rfl, rfl⟩
      simp -implicitDefEqProofs only [go_sem, Nat.reduceAdd, Nat.reduceSub, Nat.reduceMul, Nat.reduceEqDiff, Nat.reduceLeDiff, Nat.reduceBEq, Nat.reduceBNe, ↓reduceIte, Int.reduceToNat, Int.reduceLT, Int.reduceLE, Int.reduceEq, Int.reduceAdd, Int.reduceSub, Int.reduceNeg, Int.reduceMul, reduceCtorEq, List.reduceReplicate, Nat.reduceGT, Int.reduceGT, Int.reduceGE, Int.reduceBEq, Int.natCast_zero, Int.natCast_one, Int.cast_ofNat_Int, List.range_zero, Nat.reduceMod, Nat.reduceLT, or_false, false_or, or_self]
      refine ⟨_, AS.del_le _ B, ?_⟩
      simp only [numF, hk, if_false]; exact ⟨rfl, rfl⟩
    · have hk : t.kind = 2 := by simpa using h
      refine (take_ok t l e B S hB).mono ?_
      rintro _ _ ⟨rfl, rfl⟩
      simp -implicitDefEqProofs only [go_sem, Nat.reduceAdd, Nat.reduceSub, Nat.reduceMul, Nat.reduceEqDiff, Nat.reduceLeDiff, Nat.reduceBEq, Nat.reduceBNe, ↓reduceIte, Int.reduceToNat, Int.reduceLT, Int.reduceLE, Int.reduceEq, Int.reduceAdd, Int.reduceSub, Int.reduceNeg, Int.reduceMul, reduceCtorEq, List.reduceReplicate, Nat.reduceGT, Int.reduceGT, Int.reduceGE, Int.reduceBEq, Int.natCast_zero, Int.natCast_one, Int.cast_ofNat_Int, List.range_zero, Nat.reduceMod, Nat.reduceLT, or_false, false_or, or_self, encT]
      refine resK_mk (AS.le_refl _) ?_
      simp only [numF, hk, if_true]; exact ⟨rfl, rfl⟩
end Go.Proofs.YtedicdnflpjhkaaDoor
