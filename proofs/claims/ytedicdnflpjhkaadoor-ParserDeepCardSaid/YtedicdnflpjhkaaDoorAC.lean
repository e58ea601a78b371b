/- Slices that a walk grows; regions whose order is open, option by option. No condition: definitions and lemmas. -/
import Derived.Test.YtedicdnflpjhkaaDoorAB
set_option linter.unusedVariables false
namespace Go.Aw
open Go.RowKit

/-- A slice that is appended to: nil, or in a block that nothing in S knows of. -/
def Owns (S T : AS) (e : TypeId) (s : Nat) (x : AV) (es : List (List AV)) : Prop :=
  (x = .v (.slice none 0 0) ∧ es = []) ∨ ∃ B cap, x = .sl es (some (B, cap)) ∧ T B = some (.tip e s es.length cap) ∧ S B = none
theorem Owns.nil {S T : AS} {e : TypeId} {s : Nat} : Owns S T e s (.v (.slice none 0 0)) [] := .inl ⟨rfl, rfl⟩
theorem Owns.up {S T T' : AS} {e : TypeId} {s : Nat} {x : AV} {es : List (List AV)} (h : Owns S T e s x es) (hT : T.le T') : Owns S T' e s x es := by
  rcases h with h | ⟨B, cap, h1, h2, h3⟩
  · exact .inl h
  · exact .inr ⟨B, cap, h1, hT _ _ h2, h3⟩
theorem none_set {b B : Nat} {o : AObj} {x : Option AObj} (h : (if b = B then some o else x) = none) : b ≠ B ∧ x = none := by
  split at h
  · cases h
  · exact ⟨by assumption, h⟩
theorem none_set_iff {b B : Nat} {o : AObj} {x : Option AObj} : (if b = B then some o else x) = none ↔ b ≠ B ∧ x = none := ⟨none_set, fun h => by rw [if_neg h.1]; exact h.2⟩
theorem ne_some {S : AS} {B C : Nat} {o : AObj} (h : S B = some o) (k : S C = none) : B ≠ C := fun e => by subst e; rw [h] at k; cases k
/-- Room is left for what is new beside it. -/
theorem Owns.beside {S T : AS} {e : TypeId} {s : Nat} {x : AV} {es : List (List AV)} (h : Owns S T e s x es) {B : Nat} {o : AObj} (hB : T B = none) : Owns (S.set B o) (T.set B o) e s x es := by
  rcases h with h | ⟨C, cap, h1, h2, h3⟩
  · exact .inl h
  · have hne : C ≠ B := fun e => by subst e; rw [hB] at h2; cases h2
    exact .inr ⟨C, cap, h1, by rw [AS.set_other _ _ hne]; exact h2, by rw [AS.set_other _ _ hne]; exact h3⟩
/-- A block beside it turns. -/
theorem Owns.turn {S T : AS} {e : TypeId} {s : Nat} {x : AV} {es : List (List AV)} {B : Nat} {o o' : AObj} (h : Owns (S.set B o) T e s x es) : Owns (S.set B o') (T.set B o') e s x es := by
  rcases h with h | ⟨C, cap, h1, h2, h3⟩
  · exact .inl h
  · have hne : C ≠ B := fun e => by subst e; simp at h3
    rw [AS.set_other _ _ hne] at h3
    exact .inr ⟨C, cap, h1, by rw [AS.set_other _ _ hne]; exact h2, by rw [AS.set_other _ _ hne]; exact h3⟩
theorem AppendK_owns {P : Program} {S T : AS} {t e : TypeId} {s bytes : Nat} {z : Value} {x : AV} {es es2 : List (List AV)} {own2 : Option (Nat × Nat)} {K : AV → AS → Prop}
    (hS : S.le T) (ho : Owns S T e s x es) (h1 : sliceD P t = some e) (h2 : (P.info? e).map (fun i => (i.zero, i.size, i.bytes)) = some (some z, s, bytes)) (h3 : z.cells.size = s) (hne : es2 ≠ [])
    (h4 : ∀ el ∈ es, el.length = s) (h5 : ∀ el ∈ es2, el.length = s ∧ el.all AV.one = true) (h6 : es.length + es2.length ≤ maxLen) (h7 : (es.length + es2.length) * bytes ≤ 140737488355328)
    (hK : ∀ x' T', S.le T' → Owns S T' e s x' (es ++ es2) → K x' T') : AppendKX P t t x (.sl es2 own2) T K := by
  left
  rcases ho with ⟨rfl, rfl⟩ | ⟨B, cap, rfl, hB, hSB⟩
  · refine ⟨e, s, bytes, z, [], es2, own2, T, rfl, h1, h2, h3, by simp [tipOf, isNilSl], rfl, hne, h4, h5, h6, h7, ?_⟩
    intro B cap hB
    refine hK _ _ (AS.le_trans hS (AS.le_set hB)) (.inr ⟨B, cap, rfl, by simp, ?_⟩)
    cases hx : S B with
    | none => rfl
    | some o => rw [hS _ _ hx] at hB; cases hB
  · refine ⟨e, s, bytes, z, es, es2, own2, T.del B, rfl, h1, h2, h3, by simp [tipOf, hB], rfl, hne, h4, h5, h6, h7, ?_⟩
    have hle : S.le (T.del B) := by
      intro b o hb
      unfold AS.del
      split
      · rename_i e; subst e; rw [hSB] at hb; cases hb
      · exact hS _ _ hb
    intro B' cap' hB'
    refine hK _ _ (AS.le_trans hle (AS.le_set hB')) (.inr ⟨B', cap', rfl, by simp, ?_⟩)
    cases hx : S B' with
    | none => rfl
    | some o => rw [hle _ _ hx] at hB'; cases hB'
@[go_sem] theorem one_int (k : IntKind) (n : Int) : (Value.int k n).oneCell' = true := _root_.id rfl
@[go_sem] theorem one_bool (b : Bool) : (Value.bool b).oneCell' = true := _root_.id rfl
@[go_sem] theorem one_string (b : ByteArray) : (Value.string b).oneCell' = true := _root_.id rfl
@[go_sem] theorem one_slice (a : Option Addr) (n c : Nat) : (Value.slice a n c).oneCell' = true := _root_.id rfl
@[go_sem] theorem one_pointer (a : Option Addr) : (Value.pointer a).oneCell' = true := _root_.id rfl
@[go_sem] theorem one_nilFunc : Value.nilFunc.oneCell' = true := _root_.id rfl
@[go_sem] theorem one_nilIface : Value.nilIface.oneCell' = true := _root_.id rfl
@[go_sem] theorem one_map (a : Option Nat) : (Value.map a).oneCell' = true := _root_.id rfl
@[go_sem] theorem anyQ_normal {P : Program} {ops : Array Oper} {Q : APost} {fuel : Nat} {listed : Array Bool} {a : AAct} {S : AS} : anyQ P ops Q fuel listed .normal a S = AAny P ops Q fuel listed a S := _root_.id rfl
@[go_sem] theorem anyQ_panic {P : Program} {ops : Array Oper} {Q : APost} {fuel : Nat} {listed : Array Bool} {a : AAct} {S : AS} {x : AV} : anyQ P ops Q fuel listed (.panic x) a S = Q (.panic x) a S := _root_.id rfl
/-- The same, where what stands behind the labels may be used ahead of them. -/
theorem AWp.scopeI {P : Program} {c : Code} {a : AAct} {S : AS} {Q : APost} (J : Nat → Nat → AAct → AS → Prop)
    (first : (∀ l n a S, J l n a S → ∃ rest, findLabel c l = some (.seq .skip rest) ∧ AWp P rest a S (AExit.jump (fun l a S => ∃ n, J l n a S) Q)) → AWp P c a S (AExit.jump (fun l a S => ∃ n, J l n a S) Q))
    (pass : ∀ l n a S, J l n a S → ∃ rest, findLabel c l = some (.seq .skip rest) ∧ AWp P rest a S (AExit.jump (fun l' a' S' => ∃ n', n' < n ∧ J l' n' a' S') Q)) : AWp P (.scope c) a S Q :=
  AWp.scope J (first fun l n a S h => by
    obtain ⟨rest, h1, h2⟩ := pass l n a S h
    refine ⟨rest, h1, h2.mono fun e a S he => ?_⟩
    cases e with
    | goto l' => obtain ⟨n', _, h⟩ := he; exact ⟨n', h⟩
    | normal => exact he
    | ret => exact he
    | exit i => exact he
    | panic x => exact he) (fun l n a S h => by
    obtain ⟨rest, h1, h2⟩ := pass l n a S h
    exact ⟨_, h1, AWp.seq (AWp.skip h2)⟩)
section
variable {P : Program} {ops : Array Oper} {Q : APost} {fuel : Nat} {listed : Array Bool} {a : AAct} {S : AS}
@[go_sem] theorem quiet_field {t : TypeId} {x : Operand} {f : Nat} : quietA P (.fieldAddr t x f) a = fieldA P t f (a.get x) := _root_.id rfl
@[go_sem] theorem quiet_move {x : Operand} : quietA P (.move x) a = some (a.get x) := _root_.id rfl
def takeX (P : Program) (ops : Array Oper) (Q : APost) (fuel : Nat) (listed : Array Bool) (i : Nat) (dst : Option Tmp) (a : AAct) (S : AS) : Option AV → Prop
  | some x => AAny P ops Q fuel (listed.setIfInBounds i true) (a.put dst x) S
  | none => False
def takeK (P : Program) (ops : Array Oper) (Q : APost) (fuel : Nat) (listed : Array Bool) (i : Nat) (a : AAct) (S : AS) : Option Oper → Prop
  | some o => o.guard = none ∧ takeX P ops Q fuel listed i o.dst a S (quietA P o.op a)
  | none => False
@[go_sem] theorem takeX_some {i : Nat} {dst : Option Tmp} {x : AV} : takeX P ops Q fuel listed i dst a S (some x) = AAny P ops Q fuel (listed.setIfInBounds i true) (a.put dst x) S := _root_.id rfl
@[go_sem] theorem takeK_some {i : Nat} {dst : Option Tmp} {op : Op} {ty : TypeId} {pos : String} {af : Array Edge} :
    takeK P ops Q fuel listed i a S (some { dst := dst, op := op, type := ty, pos := pos, after := af, guard := none }) = takeX P ops Q fuel listed i dst a S (quietA P op a) := by simp [takeK]
theorem AAny.takeI (i : Nat) (hs : Region.noSelect ops = true) (hf : Region.free .any ops listed i = true) (hr : (Region.ready .any ops listed).contains i = true)
    (hQ : ∀ y a a' S, Q (.panic y) a S → Q (.panic y) a' S) (h : takeK P ops Q fuel listed i a S ops[i]?) : AAny P ops Q (fuel + 1) listed a S := by
  unfold takeK at h
  split at h
  · rename_i o ho
    obtain ⟨hg, h⟩ := h
    unfold takeX at h
    split at h
    · rename_i x hq; exact AAny.take ho hs hf hr hg hq h hQ
    · exact h.elim
  · exact h.elim
def allK (P : Program) (ops : Array Oper) (Q : APost) (fuel : Nat) (listed : Array Bool) (i : Nat) (a : AAct) (S : AS) : Option Oper → Prop
  | some o => WL P ops (anyQ P ops Q fuel (listed.setIfInBounds i true)) [o] a S
  | none => False
@[go_sem] theorem allK_some {i : Nat} {o : Oper} : allK P ops Q fuel listed i a S (some o) = WL P ops (anyQ P ops Q fuel (listed.setIfInBounds i true)) [o] a S := _root_.id rfl
theorem AAny.allI {rs : List Nat} (hr : Region.ready .any ops listed = rs) (hne : rs ≠ []) (h : ∀ i ∈ rs, allK P ops Q fuel listed i a S ops[i]?) : AAny P ops Q (fuel + 1) listed a S :=
  AAny.all hr hne fun i hi => by
    have := h i hi
    unfold allK at this
    split at this
    · rename_i o ho; exact ⟨o, ho, this⟩
    · exact this.elim
end
attribute [go_sem] convP
/-- What stands in a frame, slot by slot. -/
def fr (l : List AV) (i : Nat) : AV := l.getD i undefA
theorem FX.mk {l : List AV} {p : (Nat → AV) → List AV} (h : l = p (fr l)) : ∃ f : Nat → AV, (⟨l⟩ : AAct) = ⟨p f⟩ := ⟨fr l, by rw [← h]⟩
end Go.Aw
