/- parser.reader's term, prim, expr: what they read. No condition beyond the bounds named. -/
import Derived.Test.YtedicdnflpjhkaaDoorS6
set_option linter.unusedSimpArgs false
set_option linter.unusedVariables false
set_option maxRecDepth 100000
set_option maxHeartbeats 1000000
namespace Go.Proofs.YtedicdnflpjhkaaDoor
open Go.Aw
mutual
theorem sealE : ∀ e : Ex, sealL (encE e) = encE e
  | .mk k n f fs ks => by
    have h := sealEs ks
    have h2 : sealLL (fs.map encF) = fs.map encF := by
      rw [sealLL_eq, List.map_map]
      exact List.map_congr_left fun f _ => rfl
    simp only [encE, sealL, AV.shut, h, h2, isNilSl]; rfl
theorem sealEs : ∀ l : List Ex, sealLL (encEs l) = encEs l
  | [] => rfl
  | e :: r => by simp only [encEs, sealLL, sealE e, sealEs r]
end
inductive PR where
  | ok (x : Ex) (l : List Tk)
  | bad (p : Nat) (x : Int)
def numG : List Tk → Option (Nat × List Tk)
  | [] => none
  | t :: r => if t.kind = 2 then some (t.n, r) else none
theorem numF_eq (l : List Tk) : numF l = (numG l).map fun q => (.v (.int .i64 q.1), q.2) := by
  cases l with
  | nil => rfl
  | cons t r => simp only [numF, numG]; split <;> rfl
def words : List (List UInt8) := [[98, 111, 120], [115, 117, 109], [109, 105, 110], [109, 97, 120], [99, 108, 97, 109, 112]]
mutual
def termF (e : Nat) : Nat → List Tk → Nat → Option PR
  | 0, _, _ => none
  | f + 1, l, d =>
    if 64 ≤ d then some (.bad (hereF l e) 82) else
      if (mayF [[45]] l).2.1 then (match termF e f (mayF [[45]] l).2.2 (d + 1) with
        | some (.ok x r) => some (.ok (.mk 6 0 [] [] [x]) r)
        | y => y)
      else primF e f l d
def primF (e : Nat) : Nat → List Tk → Nat → Option PR
  | 0, _, _ => none
  | f + 1, l, d =>
    if (mayF [[40]] l).2.1 then (match exprF e f (mayF [[40]] l).2.2 (d + 1) with
        | some (.ok x r) => (match mustF [[41]] r with
          | some q => some (.ok x q.2)
          | none => some (.bad (hereF r e) 81))
        | y => y)
      else if isF 1 words l then none
      else match numG l with
        | some q => some (.ok (.mk 1 q.1 [] [] []) q.2)
        | none => some (.bad (hereF l e) 81)
def exprF (e : Nat) : Nat → List Tk → Nat → Option PR
  | 0, _, _ => none
  | f + 1, l, d =>
    match termF e f l d with
    | some (.ok x r) => loopF e f x r d
    | y => y
def loopF (e : Nat) : Nat → Ex → List Tk → Nat → Option PR
  | 0, _, _, _ => none
  | f + 1, x, l, d =>
    if (mayF [[43], [45]] l).2.1 then
      (match termF e f (mayF [[43], [45]] l).2.2 d with
        | some (.ok y r) => loopF e f (.mk (if (mayF [[43], [45]] l).1 = [45] then 5 else 4) 0 [] [] [x, y]) r d
        | y => y)
      else some (.ok x l)
end
def AnsE (S : AS) (B e : Nat) : PR → AEnd → AS → Prop
  | .ok x l', r, T => r = .ret (.agg (encE x)) ∧ T = S.set B (rd l' e)
  | .bad p x, r, T => r = .panic (fault p x) ∧ T = S.del B
def TermC (f : Nat) : Prop := ∀ (l : List Tk) (e B d : Nat) (S : AS) (pr : PR), S B = some (rd l e) → d ≤ 64 → termF e f l d = some pr → ACall Tryd.prog 22 [.ptr B 0, .v (.int .i64 d)] S (AnsE S B e pr)
def PrimC (f : Nat) : Prop := ∀ (l : List Tk) (e B d : Nat) (S : AS) (pr : PR), S B = some (rd l e) → d < 64 → primF e f l d = some pr → ACall Tryd.prog 47 [.ptr B 0, .v (.int .i64 d)] S (AnsE S B e pr)
def ExprC (f : Nat) : Prop := ∀ (l : List Tk) (e B d : Nat) (S : AS) (pr : PR), S B = some (rd l e) → d ≤ 64 → exprF e f l d = some pr → ACall Tryd.prog 10 [.ptr B 0, .v (.int .i64 d)] S (AnsE S B e pr)
def Z26 : AObj := .var [.v (.int .i64 0), .v (.int .i64 0), .str [], .v (.slice none 0 0), .v (.slice none 0 0)] 26
theorem set_eq (S : AS) (B : Nat) (o o' : AObj) (h : o = o') : S.set B o = S.set B o' := by rw [h]
theorem encE_take5 (x : Ex) (l : List AV) : List.take 5 (encE x ++ l) = encE x := by
  rw [List.take_append_of_le_length (by rw [encE_length]; exact Nat.le_refl _)]; exact encE_take x
theorem term_step (f : Nat) (ih : TermC f) (ihp : PrimC f) : TermC (f + 1) := by
  intro l e B d S pr hB hd h
  refine ACall.by_code Tryd.func22 rfl Tryd.ntmps22 rfl ?_
  simp -implicitDefEqProofs only [go_sem, Nat.reduceAdd, Nat.reduceSub, Nat.reduceMul, Nat.reduceEqDiff, Nat.reduceLeDiff, Nat.reduceBEq, Nat.reduceBNe, ↓reduceIte, Int.reduceToNat, Int.reduceLT, Int.reduceLE, Int.reduceEq, Int.reduceAdd, Int.reduceSub, Int.reduceNeg, Int.reduceMul, reduceCtorEq, List.reduceReplicate, Nat.reduceGT, Int.reduceGT, Int.reduceGE, Int.reduceBEq, Int.natCast_zero, Int.natCast_one, Int.cast_ofNat_Int, List.range_zero, Nat.reduceMod, Nat.reduceLT, or_false, false_or, or_self]
  intro B4 hB4
  have hne : B ≠ B4 := fun e => by subst e; rw [hB4] at hB; cases hB
  have hnes := hne.symm
  unfold termF at h
  by_cases h64 : 64 ≤ d
  · rw [if_pos h64] at h
    cases h
    simp -implicitDefEqProofs only [go_sem, Nat.reduceAdd, Nat.reduceSub, Nat.reduceMul, Nat.reduceEqDiff, Nat.reduceLeDiff, Nat.reduceBEq, Nat.reduceBNe, ↓reduceIte, Int.reduceToNat, Int.reduceLT, Int.reduceLE, Int.reduceEq, Int.reduceAdd, Int.reduceSub, Int.reduceNeg, Int.reduceMul, reduceCtorEq, List.reduceReplicate, Nat.reduceGT, Int.reduceGT, Int.reduceGE, Int.reduceBEq, Int.natCast_zero, Int.natCast_one, Int.cast_ofNat_Int, List.range_zero, Nat.reduceMod, Nat.reduceLT, or_false, false_or, or_self, decide_eq_true (show (64 : Int) ≤ (d : Int) by omega)]
    refine (fail_ok l e B 82 _ (by simp [AS.set, hne, hB])).mono ?_
    rintro _ _ ⟨rfl, rfl⟩
    simp -implicitDefEqProofs only [go_sem, Nat.reduceAdd, Nat.reduceSub, Nat.reduceMul, Nat.reduceEqDiff, Nat.reduceLeDiff, Nat.reduceBEq, Nat.reduceBNe, ↓reduceIte, Int.reduceToNat, Int.reduceLT, Int.reduceLE, Int.reduceEq, Int.reduceAdd, Int.reduceSub, Int.reduceNeg, Int.reduceMul, reduceCtorEq, List.reduceReplicate, Nat.reduceGT, Int.reduceGT, Int.reduceGE, Int.reduceBEq, Int.natCast_zero, Int.natCast_one, Int.cast_ofNat_Int, List.range_zero, Nat.reduceMod, Nat.reduceLT, or_false, false_or, or_self]
    exact ⟨S.del B, by (first | (focus (repeat' (first | exact AS.le_refl _ | assumption | exact AS.del_le _ _ | refine AS.set_le_set ?_ | refine AS.del_skip ?_ | refine AS.del_del ?_ | refine AS.le_new ?_ (by simp [AS.set, AS.del, *]; done))); done) | (intro b' o' h'; simp only [AS.set, AS.del] at h' ⊢; (repeat' split at h') <;> (repeat' split) <;> simp_all)), rfl, rfl⟩
  · rw [if_neg h64] at h
    simp -implicitDefEqProofs only [go_sem, Nat.reduceAdd, Nat.reduceSub, Nat.reduceMul, Nat.reduceEqDiff, Nat.reduceLeDiff, Nat.reduceBEq, Nat.reduceBNe, ↓reduceIte, Int.reduceToNat, Int.reduceLT, Int.reduceLE, Int.reduceEq, Int.reduceAdd, Int.reduceSub, Int.reduceNeg, Int.reduceMul, reduceCtorEq, List.reduceReplicate, Nat.reduceGT, Int.reduceGT, Int.reduceGE, Int.reduceBEq, Int.natCast_zero, Int.natCast_one, Int.cast_ofNat_Int, List.range_zero, Nat.reduceMod, Nat.reduceLT, or_false, false_or, or_self, decide_eq_false (show ¬ (64 : Int) ≤ (d : Int) by omega)]
    intro B5 hB5
    obtain ⟨hne5, hB5⟩ := none_set hB5
    have hne6 : B ≠ B5 := fun e => by subst e; rw [hB5] at hB; cases hB
    refine ACall.less (R := S.set B4 Z26) (by unfold Z26; (first | (focus (repeat' (first | exact AS.le_refl _ | assumption | exact AS.del_le _ _ | refine AS.set_le_set ?_ | refine AS.del_skip ?_ | refine AS.del_del ?_ | refine AS.le_new ?_ (by simp [AS.set, AS.del, *]; done))); done) | (intro b' o' h'; simp only [AS.set, AS.del] at h' ⊢; (repeat' split at h') <;> (repeat' split) <;> simp_all))) ((may_ok [[45]] _ l e B _ (by simp [AS.set, hne, hB]) (by simp)).mono ?_)
    rintro _ _ ⟨rfl, rfl⟩
    simp -implicitDefEqProofs only [go_sem, Nat.reduceAdd, Nat.reduceSub, Nat.reduceMul, Nat.reduceEqDiff, Nat.reduceLeDiff, Nat.reduceBEq, Nat.reduceBNe, ↓reduceIte, Int.reduceToNat, Int.reduceLT, Int.reduceLE, Int.reduceEq, Int.reduceAdd, Int.reduceSub, Int.reduceNeg, Int.reduceMul, reduceCtorEq, List.reduceReplicate, Nat.reduceGT, Int.reduceGT, Int.reduceGE, Int.reduceBEq, Int.natCast_zero, Int.natCast_one, Int.cast_ofNat_Int, List.range_zero, Nat.reduceMod, Nat.reduceLT, or_false, false_or, or_self]
    refine condK_split (fun hm => ?_) (fun hm => ?_)
    · rw [if_pos hm] at h
      have w1 : IntKind.i64.wrap ((d : Int) + 1) = ((d + 1 : Nat) : Int) := wrap_eq (by omega) (by omega)
      cases ht : termF e f (mayF [[45]] l).2.2 (d + 1) with
      | none => rw [ht] at h; cases h
      | some p =>
        rw [ht] at h
        simp -implicitDefEqProofs only [go_sem, Nat.reduceAdd, Nat.reduceSub, Nat.reduceMul, Nat.reduceEqDiff, Nat.reduceLeDiff, Nat.reduceBEq, Nat.reduceBNe, ↓reduceIte, Int.reduceToNat, Int.reduceLT, Int.reduceLE, Int.reduceEq, Int.reduceAdd, Int.reduceSub, Int.reduceNeg, Int.reduceMul, reduceCtorEq, List.reduceReplicate, Nat.reduceGT, Int.reduceGT, Int.reduceGE, Int.reduceBEq, Int.natCast_zero, Int.natCast_one, Int.cast_ofNat_Int, List.range_zero, Nat.reduceMod, Nat.reduceLT, or_false, false_or, or_self, w1]
        refine (ih _ e B (d + 1) _ p (by simp) (by omega) ht).mono ?_
        cases p with
        | bad p x =>
          cases h
          rintro _ _ ⟨rfl, rfl⟩
          simp -implicitDefEqProofs only [go_sem, Nat.reduceAdd, Nat.reduceSub, Nat.reduceMul, Nat.reduceEqDiff, Nat.reduceLeDiff, Nat.reduceBEq, Nat.reduceBNe, ↓reduceIte, Int.reduceToNat, Int.reduceLT, Int.reduceLE, Int.reduceEq, Int.reduceAdd, Int.reduceSub, Int.reduceNeg, Int.reduceMul, reduceCtorEq, List.reduceReplicate, Nat.reduceGT, Int.reduceGT, Int.reduceGE, Int.reduceBEq, Int.natCast_zero, Int.natCast_one, Int.cast_ofNat_Int, List.range_zero, Nat.reduceMod, Nat.reduceLT, or_false, false_or, or_self]
          exact ⟨S.del B, by (first | (focus (repeat' (first | exact AS.le_refl _ | assumption | exact AS.del_le _ _ | refine AS.set_le_set ?_ | refine AS.del_skip ?_ | refine AS.del_del ?_ | refine AS.le_new ?_ (by simp [AS.set, AS.del, *]; done))); done) | (intro b' o' h'; simp only [AS.set, AS.del] at h' ⊢; (repeat' split at h') <;> (repeat' split) <;> simp_all)), rfl, rfl⟩
        | ok x r =>
          cases h
          rintro _ _ ⟨rfl, rfl⟩
          simp -implicitDefEqProofs only [go_sem, Nat.reduceAdd, Nat.reduceSub, Nat.reduceMul, Nat.reduceEqDiff, Nat.reduceLeDiff, Nat.reduceBEq, Nat.reduceBNe, ↓reduceIte, Int.reduceToNat, Int.reduceLT, Int.reduceLE, Int.reduceEq, Int.reduceAdd, Int.reduceSub, Int.reduceNeg, Int.reduceMul, reduceCtorEq, List.reduceReplicate, Nat.reduceGT, Int.reduceGT, Int.reduceGE, Int.reduceBEq, Int.natCast_zero, Int.natCast_one, Int.cast_ofNat_Int, List.range_zero, Nat.reduceMod, Nat.reduceLT, or_false, false_or, or_self, encE_length, encE_one, encE_take5, Z26, hne, hnes]
          intro B6 hB6
          obtain ⟨hn1, hB6⟩ := none_set hB6
          obtain ⟨hn2, hB6⟩ := none_set hB6
          obtain ⟨hn3, hB6⟩ := none_set hB6
          have hn3' := hn3.symm
          simp -implicitDefEqProofs only [go_sem, Nat.reduceAdd, Nat.reduceSub, Nat.reduceMul, Nat.reduceEqDiff, Nat.reduceLeDiff, Nat.reduceBEq, Nat.reduceBNe, ↓reduceIte, Int.reduceToNat, Int.reduceLT, Int.reduceLE, Int.reduceEq, Int.reduceAdd, Int.reduceSub, Int.reduceNeg, Int.reduceMul, reduceCtorEq, List.reduceReplicate, Nat.reduceGT, Int.reduceGT, Int.reduceGE, Int.reduceBEq, Int.natCast_zero, Int.natCast_one, Int.cast_ofNat_Int, List.range_zero, Nat.reduceMod, Nat.reduceLT, or_false, false_or, or_self, hn1, hn2, hn3, hn3', hne, hnes]
          refine resK_seal (T := S.set B (rd r e)) (by (first | (focus (repeat' (first | exact AS.le_refl _ | assumption | exact AS.del_le _ _ | refine AS.set_le_set ?_ | refine AS.del_skip ?_ | refine AS.del_del ?_ | refine AS.le_new ?_ (by simp [AS.set, AS.del, *]; done))); done) | (intro b' o' h'; simp only [AS.set, AS.del] at h' ⊢; (repeat' split at h') <;> (repeat' split) <;> simp_all))) ⟨?_, rfl⟩
          simp [AV.shut, sealL, sealLL, encE_take, sealE, isNilSl, encE, encEs]
    · rw [if_neg (by rw [hm]; exact Bool.false_ne_true)] at h
      simp -implicitDefEqProofs only [go_sem, Nat.reduceAdd, Nat.reduceSub, Nat.reduceMul, Nat.reduceEqDiff, Nat.reduceLeDiff, Nat.reduceBEq, Nat.reduceBNe, ↓reduceIte, Int.reduceToNat, Int.reduceLT, Int.reduceLE, Int.reduceEq, Int.reduceAdd, Int.reduceSub, Int.reduceNeg, Int.reduceMul, reduceCtorEq, List.reduceReplicate, Nat.reduceGT, Int.reduceGT, Int.reduceGE, Int.reduceBEq, Int.natCast_zero, Int.natCast_one, Int.cast_ofNat_Int, List.range_zero, Nat.reduceMod, Nat.reduceLT, or_false, false_or, or_self]
      refine (ihp _ e B d _ pr (by simp [mayF_not hm]) (by omega) h).mono ?_
      cases pr with
      | bad p x =>
        rintro _ _ ⟨rfl, rfl⟩
        simp -implicitDefEqProofs only [go_sem, Nat.reduceAdd, Nat.reduceSub, Nat.reduceMul, Nat.reduceEqDiff, Nat.reduceLeDiff, Nat.reduceBEq, Nat.reduceBNe, ↓reduceIte, Int.reduceToNat, Int.reduceLT, Int.reduceLE, Int.reduceEq, Int.reduceAdd, Int.reduceSub, Int.reduceNeg, Int.reduceMul, reduceCtorEq, List.reduceReplicate, Nat.reduceGT, Int.reduceGT, Int.reduceGE, Int.reduceBEq, Int.natCast_zero, Int.natCast_one, Int.cast_ofNat_Int, List.range_zero, Nat.reduceMod, Nat.reduceLT, or_false, false_or, or_self]
        exact ⟨S.del B, by (first | (focus (repeat' (first | exact AS.le_refl _ | assumption | exact AS.del_le _ _ | refine AS.set_le_set ?_ | refine AS.del_skip ?_ | refine AS.del_del ?_ | refine AS.le_new ?_ (by simp [AS.set, AS.del, *]; done))); done) | (intro b' o' h'; simp only [AS.set, AS.del] at h' ⊢; (repeat' split at h') <;> (repeat' split) <;> simp_all)), rfl, rfl⟩
      | ok x r =>
        rintro _ _ ⟨rfl, rfl⟩
        simp -implicitDefEqProofs only [go_sem, Nat.reduceAdd, Nat.reduceSub, Nat.reduceMul, Nat.reduceEqDiff, Nat.reduceLeDiff, Nat.reduceBEq, Nat.reduceBNe, ↓reduceIte, Int.reduceToNat, Int.reduceLT, Int.reduceLE, Int.reduceEq, Int.reduceAdd, Int.reduceSub, Int.reduceNeg, Int.reduceMul, reduceCtorEq, List.reduceReplicate, Nat.reduceGT, Int.reduceGT, Int.reduceGE, Int.reduceBEq, Int.natCast_zero, Int.natCast_one, Int.cast_ofNat_Int, List.range_zero, Nat.reduceMod, Nat.reduceLT, or_false, false_or, or_self, encE_length, encE_one, encE_take, Z26, hne, hnes]
        exact resK_mk (T := S.set B (rd r e)) (by (first | (focus (repeat' (first | exact AS.le_refl _ | assumption | exact AS.del_le _ _ | refine AS.set_le_set ?_ | refine AS.del_skip ?_ | refine AS.del_del ?_ | refine AS.le_new ?_ (by simp [AS.set, AS.del, *]; done))); done) | (intro b' o' h'; simp only [AS.set, AS.del] at h' ⊢; (repeat' split at h') <;> (repeat' split) <;> simp_all))) ⟨rfl, rfl⟩
theorem prim_step (f : Nat) (ih : ExprC f) : PrimC (f + 1) := by
  intro l e B d S pr hB hd h
  refine ACall.by_code Tryd.func47 rfl Tryd.ntmps47 rfl ?_
  simp -implicitDefEqProofs only [go_sem, Nat.reduceAdd, Nat.reduceSub, Nat.reduceMul, Nat.reduceEqDiff, Nat.reduceLeDiff, Nat.reduceBEq, Nat.reduceBNe, ↓reduceIte, Int.reduceToNat, Int.reduceLT, Int.reduceLE, Int.reduceEq, Int.reduceAdd, Int.reduceSub, Int.reduceNeg, Int.reduceMul, reduceCtorEq, List.reduceReplicate, Nat.reduceGT, Int.reduceGT, Int.reduceGE, Int.reduceBEq, Int.natCast_zero, Int.natCast_one, Int.cast_ofNat_Int, List.range_zero, Nat.reduceMod, Nat.reduceLT, or_false, false_or, or_self]
  intro B4 hB4
  have hne : B ≠ B4 := fun e => by subst e; rw [hB4] at hB; cases hB
  have hnes := hne.symm
  unfold primF at h
  intro B5 hB5
  obtain ⟨hne5, hB5⟩ := none_set hB5
  have hne6 : B ≠ B5 := fun e => by subst e; rw [hB5] at hB; cases hB
  refine ACall.less (R := S.set B4 Z26) (by unfold Z26; (first | (focus (repeat' (first | exact AS.le_refl _ | assumption | exact AS.del_le _ _ | refine AS.set_le_set ?_ | refine AS.del_skip ?_ | refine AS.del_del ?_ | refine AS.le_new ?_ (by simp [AS.set, AS.del, *]; done))); done) | (intro b' o' h'; simp only [AS.set, AS.del] at h' ⊢; (repeat' split at h') <;> (repeat' split) <;> simp_all))) ((may_ok [[40]] _ l e B _ (by simp [AS.set, hne, hB]) (by simp)).mono ?_)
  rintro _ _ ⟨rfl, rfl⟩
  simp -implicitDefEqProofs only [go_sem, Nat.reduceAdd, Nat.reduceSub, Nat.reduceMul, Nat.reduceEqDiff, Nat.reduceLeDiff, Nat.reduceBEq, Nat.reduceBNe, ↓reduceIte, Int.reduceToNat, Int.reduceLT, Int.reduceLE, Int.reduceEq, Int.reduceAdd, Int.reduceSub, Int.reduceNeg, Int.reduceMul, reduceCtorEq, List.reduceReplicate, Nat.reduceGT, Int.reduceGT, Int.reduceGE, Int.reduceBEq, Int.natCast_zero, Int.natCast_one, Int.cast_ofNat_Int, List.range_zero, Nat.reduceMod, Nat.reduceLT, or_false, false_or, or_self]
  refine condK_split (fun hm => ?_) (fun hm => ?_)
  · rw [if_pos hm] at h
    have w1 : IntKind.i64.wrap ((d : Int) + 1) = ((d + 1 : Nat) : Int) := wrap_eq (by omega) (by omega)
    cases ht : exprF e f (mayF [[40]] l).2.2 (d + 1) with
    | none => rw [ht] at h; cases h
    | some p =>
      rw [ht] at h
      simp -implicitDefEqProofs only [go_sem, Nat.reduceAdd, Nat.reduceSub, Nat.reduceMul, Nat.reduceEqDiff, Nat.reduceLeDiff, Nat.reduceBEq, Nat.reduceBNe, ↓reduceIte, Int.reduceToNat, Int.reduceLT, Int.reduceLE, Int.reduceEq, Int.reduceAdd, Int.reduceSub, Int.reduceNeg, Int.reduceMul, reduceCtorEq, List.reduceReplicate, Nat.reduceGT, Int.reduceGT, Int.reduceGE, Int.reduceBEq, Int.natCast_zero, Int.natCast_one, Int.cast_ofNat_Int, List.range_zero, Nat.reduceMod, Nat.reduceLT, or_false, false_or, or_self, w1]
      refine (ih _ e B (d + 1) _ p (by simp) (by omega) ht).mono ?_
      cases p with
      | bad p x =>
        cases h
        rintro _ _ ⟨rfl, rfl⟩
        simp -implicitDefEqProofs only [go_sem, Nat.reduceAdd, Nat.reduceSub, Nat.reduceMul, Nat.reduceEqDiff, Nat.reduceLeDiff, Nat.reduceBEq, Nat.reduceBNe, ↓reduceIte, Int.reduceToNat, Int.reduceLT, Int.reduceLE, Int.reduceEq, Int.reduceAdd, Int.reduceSub, Int.reduceNeg, Int.reduceMul, reduceCtorEq, List.reduceReplicate, Nat.reduceGT, Int.reduceGT, Int.reduceGE, Int.reduceBEq, Int.natCast_zero, Int.natCast_one, Int.cast_ofNat_Int, List.range_zero, Nat.reduceMod, Nat.reduceLT, or_false, false_or, or_self]
        exact ⟨S.del B, by (first | (focus (repeat' (first | exact AS.le_refl _ | assumption | exact AS.del_le _ _ | refine AS.set_le_set ?_ | refine AS.del_skip ?_ | refine AS.del_del ?_ | refine AS.le_new ?_ (by simp [AS.set, AS.del, *]; done))); done) | (intro b' o' h'; simp only [AS.set, AS.del] at h' ⊢; (repeat' split at h') <;> (repeat' split) <;> simp_all)), rfl, rfl⟩
      | ok x r =>
        rintro _ _ ⟨rfl, rfl⟩
        simp -implicitDefEqProofs only [go_sem, Nat.reduceAdd, Nat.reduceSub, Nat.reduceMul, Nat.reduceEqDiff, Nat.reduceLeDiff, Nat.reduceBEq, Nat.reduceBNe, ↓reduceIte, Int.reduceToNat, Int.reduceLT, Int.reduceLE, Int.reduceEq, Int.reduceAdd, Int.reduceSub, Int.reduceNeg, Int.reduceMul, reduceCtorEq, List.reduceReplicate, Nat.reduceGT, Int.reduceGT, Int.reduceGE, Int.reduceBEq, Int.natCast_zero, Int.natCast_one, Int.cast_ofNat_Int, List.range_zero, Nat.reduceMod, Nat.reduceLT, or_false, false_or, or_self]
        intro B7 hB7; simp only [none_set_iff] at hB7; have hB7s := hB7; simp only [ne_comm (a := B7)] at hB7s
        have hne7 := ne_some hB hB7.2.2.2
        have hne7s := hne7.symm
        simp -implicitDefEqProofs only [go_sem, Nat.reduceAdd, Nat.reduceSub, Nat.reduceMul, Nat.reduceEqDiff, Nat.reduceLeDiff, Nat.reduceBEq, Nat.reduceBNe, ↓reduceIte, Int.reduceToNat, Int.reduceLT, Int.reduceLE, Int.reduceEq, Int.reduceAdd, Int.reduceSub, Int.reduceNeg, Int.reduceMul, reduceCtorEq, List.reduceReplicate, Nat.reduceGT, Int.reduceGT, Int.reduceGE, Int.reduceBEq, Int.natCast_zero, Int.natCast_one, Int.cast_ofNat_Int, List.range_zero, Nat.reduceMod, Nat.reduceLT, or_false, false_or, or_self, encE_length, encE_one]
        intro B8 hB8; simp only [none_set_iff] at hB8; have hB8s := hB8; simp only [ne_comm (a := B8)] at hB8s
        have hne8 := ne_some hB hB8.2.2.2.2.2
        have hne8s := hne8.symm
        refine ACall.less (R := ((S.set B4 Z26).set B7 (.var (encE x) 26)).set B (rd r e)) ?_ ((must_ok [[41]] _ r e B _ (by simp) (by simp)).mono ?_)
        · (first | (focus (repeat' (first | exact AS.le_refl _ | assumption | exact AS.del_le _ _ | refine AS.set_le_set ?_ | refine AS.del_skip ?_ | refine AS.del_del ?_ | refine AS.le_new ?_ (by simp [AS.set, AS.del, *]; done))); done) | (intro b' o' h'; simp only [AS.set, AS.del] at h' ⊢; (repeat' split at h') <;> (repeat' split) <;> simp_all))
        · cases hmu : mustF [[41]] r with
          | none =>
            simp only [hmu] at h
            cases h
            rintro _ _ ⟨rfl, rfl⟩
            simp -implicitDefEqProofs only [go_sem, Nat.reduceAdd, Nat.reduceSub, Nat.reduceMul, Nat.reduceEqDiff, Nat.reduceLeDiff, Nat.reduceBEq, Nat.reduceBNe, ↓reduceIte, Int.reduceToNat, Int.reduceLT, Int.reduceLE, Int.reduceEq, Int.reduceAdd, Int.reduceSub, Int.reduceNeg, Int.reduceMul, reduceCtorEq, List.reduceReplicate, Nat.reduceGT, Int.reduceGT, Int.reduceGE, Int.reduceBEq, Int.natCast_zero, Int.natCast_one, Int.cast_ofNat_Int, List.range_zero, Nat.reduceMod, Nat.reduceLT, or_false, false_or, or_self]
            exact ⟨S.del B, by (first | (focus (repeat' (first | exact AS.le_refl _ | assumption | exact AS.del_le _ _ | refine AS.set_le_set ?_ | refine AS.del_skip ?_ | refine AS.del_del ?_ | refine AS.le_new ?_ (by simp [AS.set, AS.del, *]; done))); done) | (intro b' o' h'; simp only [AS.set, AS.del] at h' ⊢; (repeat' split at h') <;> (repeat' split) <;> simp_all)), rfl, rfl⟩
          | some q =>
            simp only [hmu] at h
            cases h
            rintro _ _ ⟨rfl, rfl⟩
            simp -implicitDefEqProofs only [go_sem, Nat.reduceAdd, Nat.reduceSub, Nat.reduceMul, Nat.reduceEqDiff, Nat.reduceLeDiff, Nat.reduceBEq, Nat.reduceBNe, ↓reduceIte, Int.reduceToNat, Int.reduceLT, Int.reduceLE, Int.reduceEq, Int.reduceAdd, Int.reduceSub, Int.reduceNeg, Int.reduceMul, reduceCtorEq, List.reduceReplicate, Nat.reduceGT, Int.reduceGT, Int.reduceGE, Int.reduceBEq, Int.natCast_zero, Int.natCast_one, Int.cast_ofNat_Int, List.range_zero, Nat.reduceMod, Nat.reduceLT, or_false, false_or, or_self, hne7, hne7s, hB7, hB7s, hne, hnes, encE_length, encE_one, encE_take, Z26]
            exact resK_mk (T := S.set B (rd q.2 e)) (by (first | (focus (repeat' (first | exact AS.le_refl _ | assumption | exact AS.del_le _ _ | refine AS.set_le_set ?_ | refine AS.del_skip ?_ | refine AS.del_del ?_ | refine AS.le_new ?_ (by simp [AS.set, AS.del, *]; done))); done) | (intro b' o' h'; simp only [AS.set, AS.del] at h' ⊢; (repeat' split at h') <;> (repeat' split) <;> simp_all))) ⟨rfl, rfl⟩
  · rw [if_neg (by rw [hm]; exact Bool.false_ne_true)] at h
    simp -implicitDefEqProofs only [go_sem, Nat.reduceAdd, Nat.reduceSub, Nat.reduceMul, Nat.reduceEqDiff, Nat.reduceLeDiff, Nat.reduceBEq, Nat.reduceBNe, ↓reduceIte, Int.reduceToNat, Int.reduceLT, Int.reduceLE, Int.reduceEq, Int.reduceAdd, Int.reduceSub, Int.reduceNeg, Int.reduceMul, reduceCtorEq, List.reduceReplicate, Nat.reduceGT, Int.reduceGT, Int.reduceGE, Int.reduceBEq, Int.natCast_zero, Int.natCast_one, Int.cast_ofNat_Int, List.range_zero, Nat.reduceMod, Nat.reduceLT, or_false, false_or, or_self]
    intro B7 hB7; simp only [none_set_iff] at hB7; have hB7s := hB7; simp only [ne_comm (a := B7)] at hB7s
    have hne7 := ne_some hB hB7.2.2
    refine ACall.less (R := (S.set B4 Z26).set B (rd l e)) (by rw [mayF_not hm]; (first | (focus (repeat' (first | exact AS.le_refl _ | assumption | exact AS.del_le _ _ | refine AS.set_le_set ?_ | refine AS.del_skip ?_ | refine AS.del_del ?_ | refine AS.le_new ?_ (by simp [AS.set, AS.del, *]; done))); done) | (intro b' o' h'; simp only [AS.set, AS.del] at h' ⊢; (repeat' split at h') <;> (repeat' split) <;> simp_all))) ((is_ok 1 words _ l e B _ (by simp) (by simp [words])).mono ?_)
    rintro _ _ ⟨rfl, rfl⟩
    by_cases hi : isF 1 words l = true
    · rw [if_pos hi] at h; cases h
    · rw [if_neg hi] at h
      rw [Bool.not_eq_true] at hi
      simp -implicitDefEqProofs only [go_sem, Nat.reduceAdd, Nat.reduceSub, Nat.reduceMul, Nat.reduceEqDiff, Nat.reduceLeDiff, Nat.reduceBEq, Nat.reduceBNe, ↓reduceIte, Int.reduceToNat, Int.reduceLT, Int.reduceLE, Int.reduceEq, Int.reduceAdd, Int.reduceSub, Int.reduceNeg, Int.reduceMul, reduceCtorEq, List.reduceReplicate, Nat.reduceGT, Int.reduceGT, Int.reduceGE, Int.reduceBEq, Int.natCast_zero, Int.natCast_one, Int.cast_ofNat_Int, List.range_zero, Nat.reduceMod, Nat.reduceLT, or_false, false_or, or_self, hi]
      refine (number_ok2 l e B _ (by simp)).mono ?_
      rw [numF_eq]
      cases hg : numG l with
      | none =>
        rw [hg] at h
        cases h
        rintro _ _ ⟨rfl, rfl⟩
        simp -implicitDefEqProofs only [go_sem, Nat.reduceAdd, Nat.reduceSub, Nat.reduceMul, Nat.reduceEqDiff, Nat.reduceLeDiff, Nat.reduceBEq, Nat.reduceBNe, ↓reduceIte, Int.reduceToNat, Int.reduceLT, Int.reduceLE, Int.reduceEq, Int.reduceAdd, Int.reduceSub, Int.reduceNeg, Int.reduceMul, reduceCtorEq, List.reduceReplicate, Nat.reduceGT, Int.reduceGT, Int.reduceGE, Int.reduceBEq, Int.natCast_zero, Int.natCast_one, Int.cast_ofNat_Int, List.range_zero, Nat.reduceMod, Nat.reduceLT, or_false, false_or, or_self]
        exact ⟨S.del B, by (first | (focus (repeat' (first | exact AS.le_refl _ | assumption | exact AS.del_le _ _ | refine AS.set_le_set ?_ | refine AS.del_skip ?_ | refine AS.del_del ?_ | refine AS.le_new ?_ (by simp [AS.set, AS.del, *]; done))); done) | (intro b' o' h'; simp only [AS.set, AS.del] at h' ⊢; (repeat' split at h') <;> (repeat' split) <;> simp_all)), rfl, rfl⟩
      | some q =>
        rw [hg] at h
        cases h
        rintro _ _ ⟨rfl, rfl⟩
        simp -implicitDefEqProofs only [go_sem, Nat.reduceAdd, Nat.reduceSub, Nat.reduceMul, Nat.reduceEqDiff, Nat.reduceLeDiff, Nat.reduceBEq, Nat.reduceBNe, ↓reduceIte, Int.reduceToNat, Int.reduceLT, Int.reduceLE, Int.reduceEq, Int.reduceAdd, Int.reduceSub, Int.reduceNeg, Int.reduceMul, reduceCtorEq, List.reduceReplicate, Nat.reduceGT, Int.reduceGT, Int.reduceGE, Int.reduceBEq, Int.natCast_zero, Int.natCast_one, Int.cast_ofNat_Int, List.range_zero, Nat.reduceMod, Nat.reduceLT, or_false, false_or, or_self, hne, hnes, Z26]
        refine resK_seal (T := S.set B (rd q.2 e)) (by (first | (focus (repeat' (first | exact AS.le_refl _ | assumption | exact AS.del_le _ _ | refine AS.set_le_set ?_ | refine AS.del_skip ?_ | refine AS.del_del ?_ | refine AS.le_new ?_ (by simp [AS.set, AS.del, *]; done))); done) | (intro b' o' h'; simp only [AS.set, AS.del] at h' ⊢; (repeat' split at h') <;> (repeat' split) <;> simp_all))) ⟨?_, rfl⟩
        simp [AV.shut, sealL, sealLL, isNilSl, encE, encEs]
end Go.Proofs.YtedicdnflpjhkaaDoor
