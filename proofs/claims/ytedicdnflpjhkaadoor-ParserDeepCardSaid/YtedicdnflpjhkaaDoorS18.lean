/- writer.expr and writer.tight of digits and differences. No condition beyond the bounds named. -/
import Derived.Test.YtedicdnflpjhkaaDoorS17
set_option linter.unusedSimpArgs false
set_option linter.unusedVariables false
set_option maxRecDepth 100000
set_option maxHeartbeats 1000000
namespace Go.Proofs.YtedicdnflpjhkaaDoor
open Go.Aw
theorem WrT.new {R T : AS} {B : Nat} {l : List UInt8} (h : WrT R B l T) {C : Nat} {o : AObj} (hC : T C = none) : WrT R B l (T.set C o) := by
  obtain ⟨h1, h2, x, y, h3, h4, h5⟩ := h
  have hB := ne_some h3 hC
  have hRC : R C = none := by
    cases hx : R C with
    | none => rfl
    | some o => rw [h2 _ _ hx] at hC; cases hC
  refine ⟨h1, AS.le_new h2 hRC, x, y, by rw [AS.set_other _ _ hB]; exact h3, h4, ?_⟩
  rcases h5 with h5 | ⟨g, cap, e1, e2, e3, e4⟩
  · exact .inl h5
  · exact .inr ⟨g, cap, e1, by rw [AS.set_other _ _ (ne_some e2 hC)]; exact e2, e3, e4⟩
theorem WrT.beside {R T : AS} {B : Nat} {l : List UInt8} (h : WrT R B l T) {C : Nat} {o : AObj} (hC : T C = none) : WrT (R.set C o) B l (T.set C o) := by
  obtain ⟨h1, h2, x, y, h3, h4, h5⟩ := h
  have hB := ne_some h3 hC
  refine ⟨by rw [AS.set_other _ _ hB]; exact h1, AS.set_le h2 C o, x, y, by rw [AS.set_other _ _ hB]; exact h3, h4, ?_⟩
  rcases h5 with h5 | ⟨g, cap, e1, e2, e3, e4⟩
  · exact .inl h5
  · have hg := ne_some e2 hC
    exact .inr ⟨g, cap, e1, by rw [AS.set_other _ _ hg]; exact e2, by rw [AS.set_other _ _ hg]; exact e3, e4⟩
theorem WrT.shrink {R R' T : AS} {B : Nat} {l : List UInt8} (h : WrT R B l T) (hle : R'.le R) : WrT R' B l T := by
  obtain ⟨h1, h2, x, y, h3, h4, h5⟩ := h
  have none_of : ∀ b, R b = none → R' b = none := by
    intro b hb
    cases hx : R' b with
    | none => rfl
    | some o => rw [hle _ _ hx] at hb; cases hb
  refine ⟨none_of _ h1, AS.le_trans hle h2, x, y, h3, h4, ?_⟩
  rcases h5 with h5 | ⟨g, cap, e1, e2, e3, e4⟩
  · exact .inl h5
  · exact .inr ⟨g, cap, e1, e2, none_of _ e3, e4⟩
theorem WrT.at {R T : AS} {B : Nat} {l : List UInt8} (h : WrT R B l T) {C : Nat} {o : AObj} (hC : R C = some o) : T C = some o := h.2.1 _ _ hC
/-- What is written of an expression of digits and differences. -/
def exprP : Nat → Ex → Option (List UInt8)
  | 0, _ => none
  | f + 1, e =>
    if e.kind = 1 then (if 0 ≤ e.n ∧ e.n < 10 then some (digit e.n.toNat) else none)
    else if e.kind = 5 then (match e.kids with
      | [a, b] => if b.kind = 1 then (match exprP f a, exprP f b with | some s, some t => some (s ++ [32, 45, 32] ++ t) | _, _ => none) else none
      | _ => none)
    else none
def WexprC (f : Nat) : Prop := ∀ (R : AS) (B : Nat) (l s : List UInt8) (e : Ex) (S : AS), WrT R B l S → exprP f e = some s → l.length + s.length ≤ 1000000 →
  ACall Tryd.prog 17 [.ptr B 0, .agg (encE e)] S fun r T => r = .ret (.tup []) ∧ WrT R B (l ++ s) T
theorem tight_ok (f : Nat) (ih : WexprC f) (R : AS) (B : Nat) (l s : List UInt8) (e : Ex) (S : AS) (h : WrT R B l S) (he : exprP f e = some s) (hl : l.length + s.length ≤ 1000000) (hk : e.kind = 1) :
    ACall Tryd.prog 35 [.ptr B 0, .agg (encE e)] S fun r T => r = .ret (.tup []) ∧ WrT R B (l ++ s) T := by
  refine ACall.by_code Tryd.func35 rfl Tryd.ntmps35 rfl ?_
  have heq := encE_eq e
  rw [hk] at heq
  simp -implicitDefEqProofs only [go_sem, Nat.reduceAdd, Nat.reduceSub, Nat.reduceMul, Nat.reduceEqDiff, Nat.reduceLeDiff, Nat.reduceBEq, Nat.reduceBNe, ↓reduceIte, Int.reduceToNat, Int.reduceLT, Int.reduceLE, Int.reduceEq, Int.reduceAdd, Int.reduceSub, Int.reduceNeg, Int.reduceMul, reduceCtorEq, List.reduceReplicate, Nat.reduceGT, Int.reduceGT, Int.reduceGE, Int.reduceBEq, Int.natCast_zero, Int.natCast_one, Int.cast_ofNat_Int, List.range_zero, Nat.reduceMod, Nat.reduceLT, or_false, false_or, or_self]
  intro B3 hB3
  simp -implicitDefEqProofs only [go_sem, Nat.reduceAdd, Nat.reduceSub, Nat.reduceMul, Nat.reduceEqDiff, Nat.reduceLeDiff, Nat.reduceBEq, Nat.reduceBNe, ↓reduceIte, Int.reduceToNat, Int.reduceLT, Int.reduceLE, Int.reduceEq, Int.reduceAdd, Int.reduceSub, Int.reduceNeg, Int.reduceMul, reduceCtorEq, List.reduceReplicate, Nat.reduceGT, Int.reduceGT, Int.reduceGE, Int.reduceBEq, Int.natCast_zero, Int.natCast_one, Int.cast_ofNat_Int, List.range_zero, Nat.reduceMod, Nat.reduceLT, or_false, false_or, or_self, heq]
  rw [← heq]
  refine (ih _ B l s e _ (h.beside hB3) he hl).mono ?_
  rintro _ T ⟨rfl, hT⟩
  simp -implicitDefEqProofs only [go_sem, Nat.reduceAdd, Nat.reduceSub, Nat.reduceMul, Nat.reduceEqDiff, Nat.reduceLeDiff, Nat.reduceBEq, Nat.reduceBNe, ↓reduceIte, Int.reduceToNat, Int.reduceLT, Int.reduceLE, Int.reduceEq, Int.reduceAdd, Int.reduceSub, Int.reduceNeg, Int.reduceMul, reduceCtorEq, List.reduceReplicate, Nat.reduceGT, Int.reduceGT, Int.reduceGE, Int.reduceBEq, Int.natCast_zero, Int.natCast_one, Int.cast_ofNat_Int, List.range_zero, Nat.reduceMod, Nat.reduceLT, or_false, false_or, or_self]
  exact resK_mk (AS.le_refl _) ⟨rfl, hT.shrink (AS.le_set (by
    cases hx : R B3 with
    | none => rfl
    | some o => rw [h.2.1 _ _ hx] at hB3; cases hB3))⟩
theorem wexpr_ok : ∀ f, WexprC f := by
  intro f
  induction f with
  | zero => intro R B l s e S _ h; cases h
  | succ f ih =>
    intro R B l s e S h he hl
    unfold exprP at he
    have heq := encE_eq e
    refine ACall.by_code Tryd.func17 rfl Tryd.ntmps17 rfl ?_
    simp -implicitDefEqProofs only [go_sem, Nat.reduceAdd, Nat.reduceSub, Nat.reduceMul, Nat.reduceEqDiff, Nat.reduceLeDiff, Nat.reduceBEq, Nat.reduceBNe, ↓reduceIte, Int.reduceToNat, Int.reduceLT, Int.reduceLE, Int.reduceEq, Int.reduceAdd, Int.reduceSub, Int.reduceNeg, Int.reduceMul, reduceCtorEq, List.reduceReplicate, Nat.reduceGT, Int.reduceGT, Int.reduceGE, Int.reduceBEq, Int.natCast_zero, Int.natCast_one, Int.cast_ofNat_Int, List.range_zero, Nat.reduceMod, Nat.reduceLT, or_false, false_or, or_self]
    intro B3 hB3
    have hRB3 : R B3 = none := by
      cases hx : R B3 with
      | none => rfl
      | some o => rw [h.2.1 _ _ hx] at hB3; cases hB3
    split at he
    · rename_i hk
      split at he
      · rename_i hn
        cases he
        obtain ⟨m, hm⟩ : ∃ m : Nat, e.n = (m : Int) := ⟨e.n.toNat, by omega⟩
        have hd : digit e.n.toNat = digit m := by rw [hm]; rfl
        rw [hk, hm] at heq
        rw [hd] at hl ⊢
        simp -implicitDefEqProofs only [go_sem, Nat.reduceAdd, Nat.reduceSub, Nat.reduceMul, Nat.reduceEqDiff, Nat.reduceLeDiff, Nat.reduceBEq, Nat.reduceBNe, ↓reduceIte, Int.reduceToNat, Int.reduceLT, Int.reduceLE, Int.reduceEq, Int.reduceAdd, Int.reduceSub, Int.reduceNeg, Int.reduceMul, reduceCtorEq, List.reduceReplicate, Nat.reduceGT, Int.reduceGT, Int.reduceGE, Int.reduceBEq, Int.natCast_zero, Int.natCast_one, Int.cast_ofNat_Int, List.range_zero, Nat.reduceMod, Nat.reduceLT, or_false, false_or, or_self, heq]
        refine (expr1d_ok m _ (by omega)).mono ?_
        rintro _ _ ⟨rfl, rfl⟩
        simp -implicitDefEqProofs only [go_sem, Nat.reduceAdd, Nat.reduceSub, Nat.reduceMul, Nat.reduceEqDiff, Nat.reduceLeDiff, Nat.reduceBEq, Nat.reduceBNe, ↓reduceIte, Int.reduceToNat, Int.reduceLT, Int.reduceLE, Int.reduceEq, Int.reduceAdd, Int.reduceSub, Int.reduceNeg, Int.reduceMul, reduceCtorEq, List.reduceReplicate, Nat.reduceGT, Int.reduceGT, Int.reduceGE, Int.reduceBEq, Int.natCast_zero, Int.natCast_one, Int.cast_ofNat_Int, List.range_zero, Nat.reduceMod, Nat.reduceLT, or_false, false_or, or_self]
        intro B6 hB6
        refine (put_ok R B l [digit m] _ _ ((h.new hB3).new hB6) (by simp [digit]) (by simpa using hl) (by simp)).mono ?_
        rintro _ T ⟨rfl, hT⟩
        simp -implicitDefEqProofs only [go_sem, Nat.reduceAdd, Nat.reduceSub, Nat.reduceMul, Nat.reduceEqDiff, Nat.reduceLeDiff, Nat.reduceBEq, Nat.reduceBNe, ↓reduceIte, Int.reduceToNat, Int.reduceLT, Int.reduceLE, Int.reduceEq, Int.reduceAdd, Int.reduceSub, Int.reduceNeg, Int.reduceMul, reduceCtorEq, List.reduceReplicate, Nat.reduceGT, Int.reduceGT, Int.reduceGE, Int.reduceBEq, Int.natCast_zero, Int.natCast_one, Int.cast_ofNat_Int, List.range_zero, Nat.reduceMod, Nat.reduceLT, or_false, false_or, or_self]
        exact resK_mk (AS.le_refl _) ⟨rfl, by simpa using hT⟩
      · cases he
    · split at he
      · rename_i hk1 hk
        split at he
        · rename_i a b hkids
          split at he
          · rename_i hb
            split at he
            · rename_i s1 s2 h1 h2
              cases he
              rw [hk, hkids] at heq
              simp -implicitDefEqProofs only [go_sem, Nat.reduceAdd, Nat.reduceSub, Nat.reduceMul, Nat.reduceEqDiff, Nat.reduceLeDiff, Nat.reduceBEq, Nat.reduceBNe, ↓reduceIte, Int.reduceToNat, Int.reduceLT, Int.reduceLE, Int.reduceEq, Int.reduceAdd, Int.reduceSub, Int.reduceNeg, Int.reduceMul, reduceCtorEq, List.reduceReplicate, Nat.reduceGT, Int.reduceGT, Int.reduceGE, Int.reduceBEq, Int.natCast_zero, Int.natCast_one, Int.cast_ofNat_Int, List.range_zero, Nat.reduceMod, Nat.reduceLT, or_false, false_or, or_self, heq]
              simp only [List.length_append] at hl
              have hw := h.beside (o := .var [.v (.int .i64 5), .v (.int .i64 e.n), .str e.field, .sl (List.map encF e.filters) none, .sl [encE a, encE b] none] 26) hB3
              simp -implicitDefEqProofs only [go_sem, Nat.reduceAdd, Nat.reduceSub, Nat.reduceMul, Nat.reduceEqDiff, Nat.reduceLeDiff, Nat.reduceBEq, Nat.reduceBNe, ↓reduceIte, Int.reduceToNat, Int.reduceLT, Int.reduceLE, Int.reduceEq, Int.reduceAdd, Int.reduceSub, Int.reduceNeg, Int.reduceMul, reduceCtorEq, List.reduceReplicate, Nat.reduceGT, Int.reduceGT, Int.reduceGE, Int.reduceBEq, Int.natCast_zero, Int.natCast_one, Int.cast_ofNat_Int, List.range_zero, Nat.reduceMod, Nat.reduceLT, or_false, false_or, or_self, encE_length, encE_take]
              refine (ih _ B l s1 a _ hw h1 (by omega)).mono ?_
              rintro _ T ⟨rfl, hT⟩
              have hT3 := hT.at (C := B3) (AS.set_same _ _ _)
              simp -implicitDefEqProofs only [go_sem, Nat.reduceAdd, Nat.reduceSub, Nat.reduceMul, Nat.reduceEqDiff, Nat.reduceLeDiff, Nat.reduceBEq, Nat.reduceBNe, ↓reduceIte, Int.reduceToNat, Int.reduceLT, Int.reduceLE, Int.reduceEq, Int.reduceAdd, Int.reduceSub, Int.reduceNeg, Int.reduceMul, reduceCtorEq, List.reduceReplicate, Nat.reduceGT, Int.reduceGT, Int.reduceGE, Int.reduceBEq, Int.natCast_zero, Int.natCast_one, Int.cast_ofNat_Int, List.range_zero, Nat.reduceMod, Nat.reduceLT, or_false, false_or, or_self, hT3]
              refine (bit_ok _ _).mono ?_
              rintro _ _ ⟨rfl, rfl⟩
              simp -implicitDefEqProofs only [go_sem, Nat.reduceAdd, Nat.reduceSub, Nat.reduceMul, Nat.reduceEqDiff, Nat.reduceLeDiff, Nat.reduceBEq, Nat.reduceBNe, ↓reduceIte, Int.reduceToNat, Int.reduceLT, Int.reduceLE, Int.reduceEq, Int.reduceAdd, Int.reduceSub, Int.reduceNeg, Int.reduceMul, reduceCtorEq, List.reduceReplicate, Nat.reduceGT, Int.reduceGT, Int.reduceGE, Int.reduceBEq, Int.natCast_zero, Int.natCast_one, Int.cast_ofNat_Int, List.range_zero, Nat.reduceMod, Nat.reduceLT, or_false, false_or, or_self]
              intro B6 hB6
              refine (put_ok _ B (l ++ s1) [[32, 45, 32]] _ _ (hT.new hB6) (by simp) (by simp at hl ⊢; omega) (by simp)).mono ?_
              rintro _ T' ⟨rfl, hT'⟩
              have hT3' := hT'.at (C := B3) (AS.set_same _ _ _)
              simp -implicitDefEqProofs only [go_sem, Nat.reduceAdd, Nat.reduceSub, Nat.reduceMul, Nat.reduceEqDiff, Nat.reduceLeDiff, Nat.reduceBEq, Nat.reduceBNe, ↓reduceIte, Int.reduceToNat, Int.reduceLT, Int.reduceLE, Int.reduceEq, Int.reduceAdd, Int.reduceSub, Int.reduceNeg, Int.reduceMul, reduceCtorEq, List.reduceReplicate, Nat.reduceGT, Int.reduceGT, Int.reduceGE, Int.reduceBEq, Int.natCast_zero, Int.natCast_one, Int.cast_ofNat_Int, List.range_zero, Nat.reduceMod, Nat.reduceLT, or_false, false_or, or_self, hT3', encE_length, encE_take]
              refine (tight_ok f ih _ B _ s2 b _ hT' h2 (by simp at hl ⊢; omega) hb).mono ?_
              rintro _ T2 ⟨rfl, hT2⟩
              simp -implicitDefEqProofs only [go_sem, Nat.reduceAdd, Nat.reduceSub, Nat.reduceMul, Nat.reduceEqDiff, Nat.reduceLeDiff, Nat.reduceBEq, Nat.reduceBNe, ↓reduceIte, Int.reduceToNat, Int.reduceLT, Int.reduceLE, Int.reduceEq, Int.reduceAdd, Int.reduceSub, Int.reduceNeg, Int.reduceMul, reduceCtorEq, List.reduceReplicate, Nat.reduceGT, Int.reduceGT, Int.reduceGE, Int.reduceBEq, Int.natCast_zero, Int.natCast_one, Int.cast_ofNat_Int, List.range_zero, Nat.reduceMod, Nat.reduceLT, or_false, false_or, or_self]
              exact resK_mk (AS.le_refl _) ⟨rfl, by simpa using hT2.shrink (AS.le_set hRB3)⟩
            · cases he
          · cases he
        · cases he
      · cases he
end Go.Proofs.YtedicdnflpjhkaaDoor
