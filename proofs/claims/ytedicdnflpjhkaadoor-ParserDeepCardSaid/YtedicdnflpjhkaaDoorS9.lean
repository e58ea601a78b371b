/- parser.reader's box, and what Parse and Expr read: where nothing is wrong, or an expression has a fault. No condition beyond the bounds named. -/
import Derived.Test.YtedicdnflpjhkaaDoorS8
set_option linter.unusedSimpArgs false
set_option linter.unusedVariables false
set_option maxRecDepth 100000
set_option maxHeartbeats 1000000
namespace Go.Proofs.YtedicdnflpjhkaaDoor
open Go.Aw
def encB (b : Nat × Ex) : List AV := .v (.int .i64 b.1) :: encE b.2
theorem encB_length (b : Nat × Ex) : (encB b).length = 6 := by simp [encB, encE_length]
theorem encB_one (b : Nat × Ex) : (encB b).all AV.one = true := by simp only [encB, List.all_cons, encE_one, AV.one]; rfl
theorem sealB (b : Nat × Ex) : sealL (encB b) = encB b := by simp [encB, sealL, AV.shut, sealE, isNilSl]
def boxF (e f : Nat) (l : List Tk) : Option ((Nat × Ex) × List Tk) :=
  match l with
  | [] => none
  | t :: r => if isF 1 [[98, 111, 120]] (t :: r) then
      (match numG r with
      | none => none
      | some (n, r1) => match mustF [[61]] r1 with
        | none => none
        | some (_, r2) => match exprF e f r2 0 with
          | some (.ok x r3) => (match mustF [[59]] r3 with | some (_, r4) => some ((n, x), r4) | none => none)
          | _ => none)
    else none
def Z35 : AObj := .var [.v (.int .i64 0), .v (.int .i64 0), .v (.int .i64 0), .str [], .v (.slice none 0 0), .v (.slice none 0 0)] 35
theorem box_ok (l l' : List Tk) (e f B : Nat) (b : Nat × Ex) (S : AS) (hB : S B = some (rd l e)) (h : boxF e f l = some (b, l')) :
    ACall Tryd.prog 13 [.ptr B 0] S fun r T => r = .ret (.agg (encB b)) ∧ T = S.set B (rd l' e) := by
  unfold boxF at h
  cases l with
  | nil => cases h
  | cons t r =>
    simp only at h
    split at h
    · rename_i hi
      split at h
      · cases h
      · rename_i n r1 hn
        split at h
        · cases h
        · rename_i v2 r2 hm
          split at h
          · rename_i x r3 hx
            split at h
            · rename_i v4 r4 hm2
              cases h
              refine ACall.by_code Tryd.func13 rfl Tryd.ntmps13 rfl ?_
              simp -implicitDefEqProofs only [go_sem, Nat.reduceAdd, Nat.reduceSub, Nat.reduceMul, Nat.reduceEqDiff, Nat.reduceLeDiff, Nat.reduceBEq, Nat.reduceBNe, ↓reduceIte, Int.reduceToNat, Int.reduceLT, Int.reduceLE, Int.reduceEq, Int.reduceAdd, Int.reduceSub, Int.reduceNeg, Int.reduceMul, reduceCtorEq, List.reduceReplicate, Nat.reduceGT, Int.reduceGT, Int.reduceGE, Int.reduceBEq, Int.natCast_zero, Int.natCast_one, Int.cast_ofNat_Int, List.range_zero, Nat.reduceMod, Nat.reduceLT, or_false, false_or, or_self]
              intro B2 hB2
              have hne := ne_some hB hB2
              have hnes := hne.symm
              intro B5 hB5; simp only [none_set_iff] at hB5; have hB5s := hB5; simp only [ne_comm (a := B5)] at hB5s
              have hne5 := ne_some hB (C := B5) (by simp [hB5])
              refine ACall.less (R := S.set B2 Z35) (by unfold Z35; (first | (focus (repeat' (first | exact AS.le_refl _ | assumption | exact AS.del_le _ _ | refine AS.set_le_set ?_ | refine AS.del_skip ?_ | refine AS.del_del ?_ | refine AS.le_new ?_ (by simp [AS.set, AS.del, *]; done))); done) | (intro b' o' h'; simp only [AS.set, AS.del] at h' ⊢; (repeat' split at h') <;> (repeat' split) <;> simp_all))) ((is_ok 1 [[98, 111, 120]] _ (t :: r) e B _ (by simp [AS.set, hne, hB]) (by simp)).mono ?_)
              rintro _ _ ⟨rfl, rfl⟩
              simp -implicitDefEqProofs only [go_sem, Nat.reduceAdd, Nat.reduceSub, Nat.reduceMul, Nat.reduceEqDiff, Nat.reduceLeDiff, Nat.reduceBEq, Nat.reduceBNe, ↓reduceIte, Int.reduceToNat, Int.reduceLT, Int.reduceLE, Int.reduceEq, Int.reduceAdd, Int.reduceSub, Int.reduceNeg, Int.reduceMul, reduceCtorEq, List.reduceReplicate, Nat.reduceGT, Int.reduceGT, Int.reduceGE, Int.reduceBEq, Int.natCast_zero, Int.natCast_one, Int.cast_ofNat_Int, List.range_zero, Nat.reduceMod, Nat.reduceLT, or_false, false_or, or_self, hi]
              refine (take_ok t r e B _ (by simp [AS.set, hne, hB])).mono ?_
              rintro _ _ ⟨rfl, rfl⟩
              simp -implicitDefEqProofs only [go_sem, Nat.reduceAdd, Nat.reduceSub, Nat.reduceMul, Nat.reduceEqDiff, Nat.reduceLeDiff, Nat.reduceBEq, Nat.reduceBNe, ↓reduceIte, Int.reduceToNat, Int.reduceLT, Int.reduceLE, Int.reduceEq, Int.reduceAdd, Int.reduceSub, Int.reduceNeg, Int.reduceMul, reduceCtorEq, List.reduceReplicate, Nat.reduceGT, Int.reduceGT, Int.reduceGE, Int.reduceBEq, Int.natCast_zero, Int.natCast_one, Int.cast_ofNat_Int, List.range_zero, Nat.reduceMod, Nat.reduceLT, or_false, false_or, or_self]
              refine (number_ok2 r e B _ (by simp)).mono ?_
              rw [numF_eq, hn]
              rintro _ _ ⟨rfl, rfl⟩
              simp -implicitDefEqProofs only [go_sem, Nat.reduceAdd, Nat.reduceSub, Nat.reduceMul, Nat.reduceEqDiff, Nat.reduceLeDiff, Nat.reduceBEq, Nat.reduceBNe, ↓reduceIte, Int.reduceToNat, Int.reduceLT, Int.reduceLE, Int.reduceEq, Int.reduceAdd, Int.reduceSub, Int.reduceNeg, Int.reduceMul, reduceCtorEq, List.reduceReplicate, Nat.reduceGT, Int.reduceGT, Int.reduceGE, Int.reduceBEq, Int.natCast_zero, Int.natCast_one, Int.cast_ofNat_Int, List.range_zero, Nat.reduceMod, Nat.reduceLT, or_false, false_or, or_self]
              intro B3 hB3; simp only [none_set_iff] at hB3; have hB3s := hB3; simp only [ne_comm (a := B3)] at hB3s
              have hne3 := ne_some hB (C := B3) (by simp [hB3])
              intro B6 hB6; simp only [none_set_iff] at hB6; have hB6s := hB6; simp only [ne_comm (a := B6)] at hB6s
              have hne6 := ne_some hB (C := B6) (by simp [hB6])
              refine ACall.less (R := ((S.set B2 Z35).set B3 (.var [.v (.int .i64 n), .v (.int .i64 0), .v (.int .i64 0), .str [], .v (.slice none 0 0), .v (.slice none 0 0)] 35)).set B (rd r1 e)) ?_ ((must_ok [[61]] _ r1 e B _ (by simp) (by simp)).mono ?_)
              · (first | (focus (repeat' (first | exact AS.le_refl _ | assumption | exact AS.del_le _ _ | refine AS.set_le_set ?_ | refine AS.del_skip ?_ | refine AS.del_del ?_ | refine AS.le_new ?_ (by simp [AS.set, AS.del, *]; done))); done) | (intro b' o' h'; simp only [AS.set, AS.del] at h' ⊢; (repeat' split at h') <;> (repeat' split) <;> simp_all))
              · rw [hm]
                rintro _ _ ⟨rfl, rfl⟩
                simp -implicitDefEqProofs only [go_sem, Nat.reduceAdd, Nat.reduceSub, Nat.reduceMul, Nat.reduceEqDiff, Nat.reduceLeDiff, Nat.reduceBEq, Nat.reduceBNe, ↓reduceIte, Int.reduceToNat, Int.reduceLT, Int.reduceLE, Int.reduceEq, Int.reduceAdd, Int.reduceSub, Int.reduceNeg, Int.reduceMul, reduceCtorEq, List.reduceReplicate, Nat.reduceGT, Int.reduceGT, Int.reduceGE, Int.reduceBEq, Int.natCast_zero, Int.natCast_one, Int.cast_ofNat_Int, List.range_zero, Nat.reduceMod, Nat.reduceLT, or_false, false_or, or_self]
                refine ((all_ok f).2.2 _ e B 0 _ _ (by simp) (by omega) hx).mono ?_
                rintro _ _ ⟨rfl, rfl⟩
                simp -implicitDefEqProofs only [go_sem, Nat.reduceAdd, Nat.reduceSub, Nat.reduceMul, Nat.reduceEqDiff, Nat.reduceLeDiff, Nat.reduceBEq, Nat.reduceBNe, ↓reduceIte, Int.reduceToNat, Int.reduceLT, Int.reduceLE, Int.reduceEq, Int.reduceAdd, Int.reduceSub, Int.reduceNeg, Int.reduceMul, reduceCtorEq, List.reduceReplicate, Nat.reduceGT, Int.reduceGT, Int.reduceGE, Int.reduceBEq, Int.natCast_zero, Int.natCast_one, Int.cast_ofNat_Int, List.range_zero, Nat.reduceMod, Nat.reduceLT, or_false, false_or, or_self, hne3, hB3, hB3s, encE_length, encE_one]
                intro B7 hB7; simp only [none_set_iff] at hB7; have hB7s := hB7; simp only [ne_comm (a := B7)] at hB7s
                have hne7 := ne_some hB (C := B7) (by simp [hB7])
                refine ACall.less (R := ((S.set B2 Z35).set B3 (.var (.v (.int .i64 n) :: encE x) 35)).set B (rd r3 e)) ?_ ((must_ok [[59]] _ r3 e B _ (by simp) (by simp)).mono ?_)
                · (first | (focus (repeat' (first | exact AS.le_refl _ | assumption | exact AS.del_le _ _ | refine AS.set_le_set ?_ | refine AS.del_skip ?_ | refine AS.del_del ?_ | refine AS.le_new ?_ (by simp [AS.set, AS.del, *]; done))); done) | (intro b' o' h'; simp only [AS.set, AS.del] at h' ⊢; (repeat' split at h') <;> (repeat' split) <;> simp_all))
                · rw [hm2]
                  rintro _ _ ⟨rfl, rfl⟩
                  simp -implicitDefEqProofs only [go_sem, Nat.reduceAdd, Nat.reduceSub, Nat.reduceMul, Nat.reduceEqDiff, Nat.reduceLeDiff, Nat.reduceBEq, Nat.reduceBNe, ↓reduceIte, Int.reduceToNat, Int.reduceLT, Int.reduceLE, Int.reduceEq, Int.reduceAdd, Int.reduceSub, Int.reduceNeg, Int.reduceMul, reduceCtorEq, List.reduceReplicate, Nat.reduceGT, Int.reduceGT, Int.reduceGE, Int.reduceBEq, Int.natCast_zero, Int.natCast_one, Int.cast_ofNat_Int, List.range_zero, Nat.reduceMod, Nat.reduceLT, or_false, false_or, or_self, hne3, hB3, hB3s, hne, hnes, encE_length, encE_one, encE_take, Z35]
                  exact resK_mk (by (first | (focus (repeat' (first | exact AS.le_refl _ | assumption | exact AS.del_le _ _ | refine AS.set_le_set ?_ | refine AS.del_skip ?_ | refine AS.del_del ?_ | refine AS.le_new ?_ (by simp [AS.set, AS.del, *]; done))); done) | (intro b' o' h'; simp only [AS.set, AS.del] at h' ⊢; (repeat' split at h') <;> (repeat' split) <;> simp_all))) ⟨rfl, rfl⟩
            · cases h
          · cases h
    · cases h
def progF (e f : Nat) : Nat → List Tk → Option (List (Nat × Ex))
  | 0, _ => none
  | _ + 1, [] => some []
  | n + 1, t :: r => match boxF e f (t :: r) with
    | some (b, l') => (match progF e f n l' with | some bs => some (b :: bs) | none => none)
    | none => none
theorem sealBs (l : List (Nat × Ex)) : sealLL (l.map encB) = l.map encB := by
  rw [sealLL_eq, List.map_map]; exact List.map_congr_left fun b _ => sealB b
theorem encB_take (b : Nat × Ex) (l : List AV) : List.take 6 (encB b ++ l) = encB b := by
  rw [List.take_append_of_le_length (by rw [encB_length]; exact Nat.le_refl _), List.take_of_length_le (by rw [encB_length]; exact Nat.le_refl _)]
theorem encB_take6 (b : Nat × Ex) : List.take 6 (encB b) = encB b := List.take_of_length_le (by rw [encB_length]; exact Nat.le_refl _)
theorem parse1_ok (l : List Tk) (e f n0 B : Nat) (bs : List (Nat × Ex)) (S : AS) (hB : S B = some (rd l e)) (hn0 : n0 ≤ 100000) (h : progF e f n0 l = some bs) :
    ACall Tryd.prog 12 [.ptr B 0] S fun r T => r = .ret (.sl (bs.map encB) none) ∧ T = S.del B := by
  refine ACall.by_code Tryd.func12 rfl Tryd.ntmps12 rfl ?_
  simp -implicitDefEqProofs only [go_sem, Nat.reduceAdd, Nat.reduceSub, Nat.reduceMul, Nat.reduceEqDiff, Nat.reduceLeDiff, Nat.reduceBEq, Nat.reduceBNe, ↓reduceIte, Int.reduceToNat, Int.reduceLT, Int.reduceLE, Int.reduceEq, Int.reduceAdd, Int.reduceSub, Int.reduceNeg, Int.reduceMul, reduceCtorEq, List.reduceReplicate, Nat.reduceGT, Int.reduceGT, Int.reduceGE, Int.reduceBEq, Int.natCast_zero, Int.natCast_one, Int.cast_ofNat_Int, List.range_zero, Nat.reduceMod, Nat.reduceLT, or_false, false_or, or_self]
  refine AWp.loop (fun n a T => ∃ (l : List Tk) (x : AV) (t0 t1 : List (Nat × Ex)), progF e f n l = some t1 ∧ t0 ++ t1 = bs ∧ t0.length + n ≤ 100000 ∧ (S.set B (rd l e)).le T ∧ Owns (S.set B (rd l e)) T 35 6 x (t0.map encB) ∧ ∃ j1 j3 j4 j5 j6 j7 j8 j9 j10 j11 j12 j13 j14 : AV, a = ⟨[.ptr B 0, j1, x, j3, j4, j5, j6, j7, j8, j9, j10, j11, j12, j13, j14]⟩) n0 ?_ ?_
  · refine ⟨l, _, [], bs, h, rfl, by simpa using hn0, ?_, .nil, ⟨_, _, _, _, _, _, _, _, _, _, _, _, _, rfl⟩⟩
    intro b o hb
    by_cases e : b = B
    · subst e; simp at hb; rw [hB, hb]
    · simpa [AS.set, e] using hb
  · rintro n a T ⟨l, x, t0, t1, hl, ht, hn, hT, ho, ⟨j1, j3, j4, j5, j6, j7, j8, j9, j10, j11, j12, j13, j14, rfl⟩⟩
    refine WC.sound _ _ _ _ ?_
    have hTB : T B = some (rd l e) := hT _ _ (by simp)
    have hTB' := hTB
    unfold rd at hTB'
    cases n with
    | zero => unfold progF at hl; cases hl
    | succ n =>
      cases l with
      | nil =>
        unfold progF at hl
        cases hl
        simp -implicitDefEqProofs only [go_sem, Nat.reduceAdd, Nat.reduceSub, Nat.reduceMul, Nat.reduceEqDiff, Nat.reduceLeDiff, Nat.reduceBEq, Nat.reduceBNe, ↓reduceIte, Int.reduceToNat, Int.reduceLT, Int.reduceLE, Int.reduceEq, Int.reduceAdd, Int.reduceSub, Int.reduceNeg, Int.reduceMul, reduceCtorEq, List.reduceReplicate, Nat.reduceGT, Int.reduceGT, Int.reduceGE, Int.reduceBEq, Int.natCast_zero, Int.natCast_one, Int.cast_ofNat_Int, List.range_zero, Nat.reduceMod, Nat.reduceLT, or_false, false_or, or_self, hTB']
        have hle : (S.del B).le T := by intro b o hb; exact hT _ _ (by by_cases e : b = B <;> simp_all [AS.set, AS.del])
        have : t0 = bs := by simpa using ht
        subst this
        rcases ho with ⟨rfl, h2⟩ | ⟨C, cap, rfl, h1, h2⟩
        · have : t0 = [] := by simpa using h2
          subst this
          exact resK_seal hle ⟨rfl, rfl⟩
        · refine resK_seal hle ⟨?_, rfl⟩
          simp only [AV.shut, sealBs]
      | cons t r =>
        unfold progF at hl
        cases hb : boxF e f (t :: r) with
        | none => rw [hb] at hl; cases hl
        | some q =>
          obtain ⟨b, l'⟩ := q
          simp only [hb] at hl
          cases hp : progF e f n l' with
          | none => rw [hp] at hl; cases hl
          | some bs' =>
            rw [hp] at hl
            cases hl
            have h1 : (0 : Int) < ((r.length + 1 : Nat) : Int) := by omega
            simp -implicitDefEqProofs only [go_sem, Nat.reduceAdd, Nat.reduceSub, Nat.reduceMul, Nat.reduceEqDiff, Nat.reduceLeDiff, Nat.reduceBEq, Nat.reduceBNe, ↓reduceIte, Int.reduceToNat, Int.reduceLT, Int.reduceLE, Int.reduceEq, Int.reduceAdd, Int.reduceSub, Int.reduceNeg, Int.reduceMul, reduceCtorEq, List.reduceReplicate, Nat.reduceGT, Int.reduceGT, Int.reduceGE, Int.reduceBEq, Int.natCast_zero, Int.natCast_one, Int.cast_ofNat_Int, List.range_zero, Nat.reduceMod, Nat.reduceLT, or_false, false_or, or_self, hTB', decide_eq_true h1]
            refine (box_ok (t :: r) l' e f B b T hTB hb).mono ?_
            rintro _ _ ⟨rfl, rfl⟩
            simp -implicitDefEqProofs only [go_sem, Nat.reduceAdd, Nat.reduceSub, Nat.reduceMul, Nat.reduceEqDiff, Nat.reduceLeDiff, Nat.reduceBEq, Nat.reduceBNe, ↓reduceIte, Int.reduceToNat, Int.reduceLT, Int.reduceLE, Int.reduceEq, Int.reduceAdd, Int.reduceSub, Int.reduceNeg, Int.reduceMul, reduceCtorEq, List.reduceReplicate, Nat.reduceGT, Int.reduceGT, Int.reduceGE, Int.reduceBEq, Int.natCast_zero, Int.natCast_one, Int.cast_ofNat_Int, List.range_zero, Nat.reduceMod, Nat.reduceLT, or_false, false_or, or_self, encB_length, encB_one]
            intro B2 hB2
            have hT2 : (S.set B (rd l' e)).le (T.set B (rd l' e)) := by
              intro b' o' h'
              by_cases e2 : b' = B
              · subst e2; simpa using h'
              · have := hT b' o' (by simpa [AS.set, e2] using h'); simpa [AS.set, e2] using this
            have hT3 : (T.set B (rd l' e)).le ((T.set B (rd l' e)).set B2 (.tip 35 6 1 1)) := AS.le_set (by simpa [AS.set] using hB2)
            refine AppendK_owns (S := S.set B (rd l' e)) (e := 35) (s := 6) (z := .agg #[.int .i64 0, .int .i64 0, .int .i64 0, .string ⟨#[]⟩, .slice none 0 0, .slice none 0 0]) (bytes := 88) (AS.le_trans hT2 hT3)
              (ho.turn.up hT3) (by kernel_rfl) (by kernel_rfl) (by kernel_rfl) (by simp) (by rintro el hel; obtain ⟨q, _, rfl⟩ := List.mem_map.1 hel; exact encB_length q) (by rintro el hel; rw [List.mem_singleton] at hel; rw [hel, encB_take6]; exact ⟨encB_length b, encB_one b⟩) (by simp [maxLen]; omega) (by simp; omega) ?_
            intro x' T' hT' ho'
            simp -implicitDefEqProofs only [go_sem, Nat.reduceAdd, Nat.reduceSub, Nat.reduceMul, Nat.reduceEqDiff, Nat.reduceLeDiff, Nat.reduceBEq, Nat.reduceBNe, ↓reduceIte, Int.reduceToNat, Int.reduceLT, Int.reduceLE, Int.reduceEq, Int.reduceAdd, Int.reduceSub, Int.reduceNeg, Int.reduceMul, reduceCtorEq, List.reduceReplicate, Nat.reduceGT, Int.reduceGT, Int.reduceGE, Int.reduceBEq, Int.natCast_zero, Int.natCast_one, Int.cast_ofNat_Int, List.range_zero, Nat.reduceMod, Nat.reduceLT, or_false, false_or, or_self]
            exact ⟨n, by omega, l', x', t0 ++ [b], bs', hp, by simpa using ht, by simp; omega, hT', by simpa [encB_take6] using ho', ⟨_, _, _, _, _, _, _, _, _, _, _, _, _, rfl⟩⟩
def AnsX (S : AS) (B : Nat) : PR → AEnd → AS → Prop
  | .ok x _, r, T => r = .ret (.sl [encB (1, x)] none) ∧ T = S.del B
  | .bad p x, r, T => r = .panic (fault p x) ∧ T = S.del B
theorem expr1_ok (l : List Tk) (e f B : Nat) (pr : PR) (S : AS) (hB : S B = some (rd l e)) (h : exprF e f l 0 = some pr) (hr : ∀ x r, pr = .ok x r → r = []) :
    ACall Tryd.prog 9 [.ptr B 0] S (AnsX S B pr) := by
  refine ACall.by_code Tryd.func9 rfl Tryd.ntmps9 rfl ?_
  simp -implicitDefEqProofs only [go_sem, Nat.reduceAdd, Nat.reduceSub, Nat.reduceMul, Nat.reduceEqDiff, Nat.reduceLeDiff, Nat.reduceBEq, Nat.reduceBNe, ↓reduceIte, Int.reduceToNat, Int.reduceLT, Int.reduceLE, Int.reduceEq, Int.reduceAdd, Int.reduceSub, Int.reduceNeg, Int.reduceMul, reduceCtorEq, List.reduceReplicate, Nat.reduceGT, Int.reduceGT, Int.reduceGE, Int.reduceBEq, Int.natCast_zero, Int.natCast_one, Int.cast_ofNat_Int, List.range_zero, Nat.reduceMod, Nat.reduceLT, or_false, false_or, or_self]
  refine ((all_ok f).2.2 _ e B 0 _ _ hB (by omega) h).mono ?_
  cases pr with
  | bad p z =>
    rintro _ _ ⟨rfl, rfl⟩
    simp -implicitDefEqProofs only [go_sem, Nat.reduceAdd, Nat.reduceSub, Nat.reduceMul, Nat.reduceEqDiff, Nat.reduceLeDiff, Nat.reduceBEq, Nat.reduceBNe, ↓reduceIte, Int.reduceToNat, Int.reduceLT, Int.reduceLE, Int.reduceEq, Int.reduceAdd, Int.reduceSub, Int.reduceNeg, Int.reduceMul, reduceCtorEq, List.reduceReplicate, Nat.reduceGT, Int.reduceGT, Int.reduceGE, Int.reduceBEq, Int.natCast_zero, Int.natCast_one, Int.cast_ofNat_Int, List.range_zero, Nat.reduceMod, Nat.reduceLT, or_false, false_or, or_self]
    exact ⟨S.del B, AS.le_refl _, rfl, rfl⟩
  | ok x r =>
    cases hr x r rfl
    rintro _ _ ⟨rfl, rfl⟩
    simp -implicitDefEqProofs only [go_sem, Nat.reduceAdd, Nat.reduceSub, Nat.reduceMul, Nat.reduceEqDiff, Nat.reduceLeDiff, Nat.reduceBEq, Nat.reduceBNe, ↓reduceIte, Int.reduceToNat, Int.reduceLT, Int.reduceLE, Int.reduceEq, Int.reduceAdd, Int.reduceSub, Int.reduceNeg, Int.reduceMul, reduceCtorEq, List.reduceReplicate, Nat.reduceGT, Int.reduceGT, Int.reduceGE, Int.reduceBEq, Int.natCast_zero, Int.natCast_one, Int.cast_ofNat_Int, List.range_zero, Nat.reduceMod, Nat.reduceLT, or_false, false_or, or_self, encE_length]
    intro B3 hB3; simp only [none_set_iff] at hB3; have hB3s := hB3; simp only [ne_comm (a := B3)] at hB3s
    have hne3 := ne_some hB (C := B3) (by simp [hB3])
    simp -implicitDefEqProofs only [go_sem, Nat.reduceAdd, Nat.reduceSub, Nat.reduceMul, Nat.reduceEqDiff, Nat.reduceLeDiff, Nat.reduceBEq, Nat.reduceBNe, ↓reduceIte, Int.reduceToNat, Int.reduceLT, Int.reduceLE, Int.reduceEq, Int.reduceAdd, Int.reduceSub, Int.reduceNeg, Int.reduceMul, reduceCtorEq, List.reduceReplicate, Nat.reduceGT, Int.reduceGT, Int.reduceGE, Int.reduceBEq, Int.natCast_zero, Int.natCast_one, Int.cast_ofNat_Int, List.range_zero, Nat.reduceMod, Nat.reduceLT, or_false, false_or, or_self, rd, hne3, hB3, hB3s, encE_length, encE_one]
    intro B4 hB4; simp only [none_set_iff] at hB4; have hB4s := hB4; simp only [ne_comm (a := B4)] at hB4s
    simp -implicitDefEqProofs only [go_sem, Nat.reduceAdd, Nat.reduceSub, Nat.reduceMul, Nat.reduceEqDiff, Nat.reduceLeDiff, Nat.reduceBEq, Nat.reduceBNe, ↓reduceIte, Int.reduceToNat, Int.reduceLT, Int.reduceLE, Int.reduceEq, Int.reduceAdd, Int.reduceSub, Int.reduceNeg, Int.reduceMul, reduceCtorEq, List.reduceReplicate, Nat.reduceGT, Int.reduceGT, Int.reduceGE, Int.reduceBEq, Int.natCast_zero, Int.natCast_one, Int.cast_ofNat_Int, List.range_zero, Nat.reduceMod, Nat.reduceLT, or_false, false_or, or_self, encE_take, encE_length]
    refine resK_seal (T := S.del B) ?_ ⟨?_, rfl⟩
    · (first | (focus (repeat' (first | exact AS.le_refl _ | assumption | exact AS.del_le _ _ | refine AS.set_le_set ?_ | refine AS.del_skip ?_ | refine AS.del_del ?_ | refine AS.le_new ?_ (by simp [AS.set, AS.del, *]; done))); done) | (intro b' o' h'; simp only [AS.set, AS.del] at h' ⊢; (repeat' split at h') <;> (repeat' split) <;> simp_all))
    · simp only [AV.shut, sealLL, encB, sealL, sealE, isNilSl]; rfl
end Go.Proofs.YtedicdnflpjhkaaDoor

