/- strings.Builder in a writer: copyCheck, WriteString. No condition beyond the bounds named. -/
import Derived.Test.YtedicdnflpjhkaaDoorS14
import Derived.Laws.Externs
set_option linter.unusedSimpArgs false
set_option linter.unusedVariables false
set_option maxRecDepth 100000
set_option maxHeartbeats 1000000
namespace Go.Proofs.YtedicdnflpjhkaaDoor
open Go.Aw
/-- A writer in block B that holds l; R: what is known beside it. -/
def WrT (R : AS) (B : Nat) (l : List UInt8) (T : AS) : Prop :=
  R B = none ∧ R.le T ∧ ∃ x y, T B = some (.var [x, y] 51) ∧ (x = .v (.pointer none) ∨ x = .ptr B 0) ∧
    ((y = .v (.slice none 0 0) ∧ l = []) ∨ ∃ g cap, y = .sl (bytesA l) (some (g, cap)) ∧ T g = some (.tip 5 1 l.length cap) ∧ R g = none ∧ g ≠ B)
theorem okF66 : okF Tryd.prog 66 = false := by kernel_rfl
theorem ext66 (x : AV) : ExtRun Tryd.prog 66 [x] x := by
  intro π w vs h
  obtain ⟨u, rfl, hu⟩ := h.one
  refine ⟨u, ?_, hu⟩
  rw [run_callFunc_extern Tryd.func66 (by kernel_rfl) (by kernel_rfl) (by kernel_rfl) (e := Extern.AbiNoEscape.same) (by kernel_rfl), Lib.run_noEscape]
  rfl
theorem upTo1 : upTo Tryd.prog 46 104 = true := by kernel_rfl
theorem upTo2 : upTo Tryd.prog 104 46 = false := by kernel_rfl
theorem upFrom2 : upFrom Tryd.prog 104 46 51 2 0 = true := by kernel_rfl
theorem WrT.var {R T : AS} {B : Nat} {l : List UInt8} (h : WrT R B l T) {x' : AV} (hx : x' = .v (.pointer none) ∨ x' = .ptr B 0) {x y : AV} (hT : T B = some (.var [x, y] 51)) : WrT R B l (T.set B (.var [x', y] 51)) := by
  obtain ⟨h1, h2, x0, y0, h3, h4, h5⟩ := h
  rw [hT] at h3
  cases h3
  refine ⟨h1, AS.le_new h2 h1, x', y, by simp, hx, ?_⟩
  rcases h5 with h5 | ⟨g, cap, e1, e2, e3, e4⟩
  · exact .inl h5
  · exact .inr ⟨g, cap, e1, by rw [AS.set_other _ _ e4]; exact e2, e3, e4⟩
theorem copyCheck_ok (R : AS) (B : Nat) (l : List UInt8) (S : AS) (h : WrT R B l S) : ACall Tryd.prog 50 [.ptr B 0] S fun r T => r = .ret (.tup []) ∧ WrT R B l T := by
  have h' := h
  obtain ⟨h1, h2, x, y, h3, h4, h5⟩ := h'
  refine ACall.by_code Tryd.func50 rfl Tryd.ntmps50 rfl ?_
  rcases h4 with rfl | rfl
  · simp -implicitDefEqProofs only [go_sem, Nat.reduceAdd, Nat.reduceSub, Nat.reduceMul, Nat.reduceEqDiff, Nat.reduceLeDiff, Nat.reduceBEq, Nat.reduceBNe, ↓reduceIte, Int.reduceToNat, Int.reduceLT, Int.reduceLE, Int.reduceEq, Int.reduceAdd, Int.reduceSub, Int.reduceNeg, Int.reduceMul, reduceCtorEq, List.reduceReplicate, Nat.reduceGT, Int.reduceGT, Int.reduceGE, Int.reduceBEq, Int.natCast_zero, Int.natCast_one, Int.cast_ofNat_Int, List.range_zero, Nat.reduceMod, Nat.reduceLT, or_false, false_or, or_self, h3, okF66, upTo1, upTo2, upFrom2]
    refine ⟨_, ext66 _, ?_⟩
    simp -implicitDefEqProofs only [go_sem, Nat.reduceAdd, Nat.reduceSub, Nat.reduceMul, Nat.reduceEqDiff, Nat.reduceLeDiff, Nat.reduceBEq, Nat.reduceBNe, ↓reduceIte, Int.reduceToNat, Int.reduceLT, Int.reduceLE, Int.reduceEq, Int.reduceAdd, Int.reduceSub, Int.reduceNeg, Int.reduceMul, reduceCtorEq, List.reduceReplicate, Nat.reduceGT, Int.reduceGT, Int.reduceGE, Int.reduceBEq, Int.natCast_zero, Int.natCast_one, Int.cast_ofNat_Int, List.range_zero, Nat.reduceMod, Nat.reduceLT, or_false, false_or, or_self, h3, upTo2, upFrom2]
    exact resK_mk (AS.le_refl _) ⟨rfl, h.var (.inr rfl) h3⟩
  · simp -implicitDefEqProofs only [go_sem, Nat.reduceAdd, Nat.reduceSub, Nat.reduceMul, Nat.reduceEqDiff, Nat.reduceLeDiff, Nat.reduceBEq, Nat.reduceBNe, ↓reduceIte, Int.reduceToNat, Int.reduceLT, Int.reduceLE, Int.reduceEq, Int.reduceAdd, Int.reduceSub, Int.reduceNeg, Int.reduceMul, reduceCtorEq, List.reduceReplicate, Nat.reduceGT, Int.reduceGT, Int.reduceGE, Int.reduceBEq, Int.natCast_zero, Int.natCast_one, Int.cast_ofNat_Int, List.range_zero, Nat.reduceMod, Nat.reduceLT, or_false, false_or, or_self, h3]
    exact resK_mk (AS.le_refl _) ⟨rfl, h⟩
theorem bytesA_append (l s : List UInt8) : bytesA (l ++ s) = bytesA l ++ bytesA s := by simp [bytesA]
theorem infoByte : (Tryd.prog.info? 5).map (fun i => (i.zero, i.size, i.bytes)) = some (some (.int .u8 0), 1, 1) := by kernel_rfl
theorem writeString_ok (R : AS) (B : Nat) (l s : List UInt8) (S : AS) (h : WrT R B l S) (hne : s ≠ []) (hl : l.length + s.length ≤ 1000000) :
    ACall Tryd.prog 31 [.ptr B 0, .str s] S fun r T => r = .ret (.tup [.v (.int .i64 s.length), .v .nilIface]) ∧ WrT R B (l ++ s) T := by
  refine ACall.by_code Tryd.func31 rfl Tryd.ntmps31 rfl ?_
  simp -implicitDefEqProofs only [go_sem, Nat.reduceAdd, Nat.reduceSub, Nat.reduceMul, Nat.reduceEqDiff, Nat.reduceLeDiff, Nat.reduceBEq, Nat.reduceBNe, ↓reduceIte, Int.reduceToNat, Int.reduceLT, Int.reduceLE, Int.reduceEq, Int.reduceAdd, Int.reduceSub, Int.reduceNeg, Int.reduceMul, reduceCtorEq, List.reduceReplicate, Nat.reduceGT, Int.reduceGT, Int.reduceGE, Int.reduceBEq, Int.natCast_zero, Int.natCast_one, Int.cast_ofNat_Int, List.range_zero, Nat.reduceMod, Nat.reduceLT, or_false, false_or, or_self]
  refine (copyCheck_ok R B l S h).mono ?_
  rintro _ S ⟨rfl, h⟩
  obtain ⟨h1, h2, x, y, h3, h4, h5⟩ := h
  simp -implicitDefEqProofs only [go_sem, Nat.reduceAdd, Nat.reduceSub, Nat.reduceMul, Nat.reduceEqDiff, Nat.reduceLeDiff, Nat.reduceBEq, Nat.reduceBNe, ↓reduceIte, Int.reduceToNat, Int.reduceLT, Int.reduceLE, Int.reduceEq, Int.reduceAdd, Int.reduceSub, Int.reduceNeg, Int.reduceMul, reduceCtorEq, List.reduceReplicate, Nat.reduceGT, Int.reduceGT, Int.reduceGE, Int.reduceBEq, Int.natCast_zero, Int.natCast_one, Int.cast_ofNat_Int, List.range_zero, Nat.reduceMod, Nat.reduceLT, or_false, false_or, or_self, h3]
  rcases h5 with ⟨rfl, rfl⟩ | ⟨g, cap, rfl, e2, e3, e4⟩
  · refine ⟨5, 1, [], S, Tryd_sliceD47, Tryd_strD9, infoByte, rfl, hne, by simp, by simp [maxLen] at hl ⊢; omega, by simp at hl ⊢; omega, ?_⟩
    intro g cap hg
    have hgB := ne_some h3 hg
    simp -implicitDefEqProofs only [go_sem, Nat.reduceAdd, Nat.reduceSub, Nat.reduceMul, Nat.reduceEqDiff, Nat.reduceLeDiff, Nat.reduceBEq, Nat.reduceBNe, ↓reduceIte, Int.reduceToNat, Int.reduceLT, Int.reduceLE, Int.reduceEq, Int.reduceAdd, Int.reduceSub, Int.reduceNeg, Int.reduceMul, reduceCtorEq, List.reduceReplicate, Nat.reduceGT, Int.reduceGT, Int.reduceGE, Int.reduceBEq, Int.natCast_zero, Int.natCast_one, Int.cast_ofNat_Int, List.range_zero, Nat.reduceMod, Nat.reduceLT, or_false, false_or, or_self, h3, hgB]
    have hRg : R g = none := by
      cases hx : R g with
      | none => rfl
      | some o => rw [h2 _ _ hx] at hg; cases hg
    refine resK_mk (AS.le_refl _) ⟨rfl, h1, AS.le_new (AS.le_new h2 hRg) h1, x, .sl (bytesA s) (some (g, cap)), by simp, h4, .inr ⟨g, cap, rfl, ?_, hRg, hgB.symm⟩⟩
    rw [AS.set_other _ _ hgB.symm]; simp
  · refine ⟨5, 1, bytesA l, S.del g, Tryd_sliceD47, Tryd_strD9, infoByte, by simp [tipOf, e2, bytesA_length], hne, by intro el hel; obtain ⟨b, _, rfl⟩ := List.mem_map.1 hel; rfl, by simp [maxLen, bytesA_length] at hl ⊢; omega, by simp [bytesA_length] at hl ⊢; omega, ?_⟩
    intro g' cap' hg
    have hdB : (S.del g) B = some (.var [x, .sl (bytesA l) (some (g, cap))] 51) := by simp [AS.del, e4.symm, h3]
    have hgB := ne_some hdB hg
    have hle : R.le (S.del g) := by
      intro b o hb
      have hbg : b ≠ g := fun e => by subst e; rw [e3] at hb; cases hb
      simp [AS.del, hbg, h2 _ _ hb]
    have hRg : R g' = none := by
      cases hx : R g' with
      | none => rfl
      | some o => rw [hle _ _ hx] at hg; cases hg
    simp -implicitDefEqProofs only [go_sem, Nat.reduceAdd, Nat.reduceSub, Nat.reduceMul, Nat.reduceEqDiff, Nat.reduceLeDiff, Nat.reduceBEq, Nat.reduceBNe, ↓reduceIte, Int.reduceToNat, Int.reduceLT, Int.reduceLE, Int.reduceEq, Int.reduceAdd, Int.reduceSub, Int.reduceNeg, Int.reduceMul, reduceCtorEq, List.reduceReplicate, Nat.reduceGT, Int.reduceGT, Int.reduceGE, Int.reduceBEq, Int.natCast_zero, Int.natCast_one, Int.cast_ofNat_Int, List.range_zero, Nat.reduceMod, Nat.reduceLT, or_false, false_or, or_self, hdB, hgB]
    refine resK_mk (AS.le_refl _) ⟨rfl, h1, AS.le_new (AS.le_new hle hRg) h1, x, .sl (bytesA (l ++ s)) (some (g', cap')), by simp [bytesA_append], h4, .inr ⟨g', cap', rfl, ?_, hRg, hgB.symm⟩⟩
    rw [AS.set_other _ _ hgB.symm]; simp [bytesA_length]
end Go.Proofs.YtedicdnflpjhkaaDoor
