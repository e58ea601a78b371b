/- Walks as formulas: what is left to show of a function's code. No condition: definitions and lemmas. -/
import Derived.Test.YtedicdnflpjhkaaDoorAR
set_option linter.unusedVariables false
namespace Go.Aw
open Go.RowKit

/-! ### sealing: a value that is handed out may be appended to no more -/
mutual
def AV.shut : AV → AV
  | .v x => if isNilSl x then .sl [] none else .v x
  | .str l => .str l
  | .ptr B o => .ptr B o
  | .cptr cs => .cptr cs
  | .sl es _ => .sl (sealLL es) none
  | .mp B => .mp B
  | .fn f c => .fn f c
  | .ifc t x => .ifc t x.shut
  | .agg cs => .agg (sealL cs)
  | .tup vs => .tup (sealL vs)
  | .win B o n c => .win B o n c
  | .fsl es => .sl (sealLL es) none
def sealL : List AV → List AV
  | [] => []
  | x :: r => x.shut :: sealL r
def sealLL : List (List AV) → List (List AV)
  | [] => []
  | x :: r => sealL x :: sealLL r
end
theorem sealL_eq : ∀ l : List AV, sealL l = l.map AV.shut
  | [] => rfl
  | x :: r => by simp [sealL, sealL_eq r]
theorem sealLL_eq : ∀ l : List (List AV), sealLL l = l.map sealL
  | [] => rfl
  | x :: r => by simp [sealLL, sealLL_eq r]
theorem VR.shut {π : Pi} {v : Value} {a : AV} (h : VR π v a) : VR π v a.shut := by
  induction h with
  | v x =>
    unfold AV.shut
    split
    · rename_i h; rw [isNilSl_eq h]; exact .nilsl
    · exact .v x
  | str s l hh => unfold AV.shut; exact .str s l hh
  | ptr B off => unfold AV.shut; exact .ptr B off
  | cptr B off cells val hp hv ih => unfold AV.shut; exact .cptr B off cells val hp hv
  | nilsl => simp only [AV.shut, sealLL]; exact .nilsl
  | sl ad n cap esz es own val hn hes hs hc hm hp hv ho ih =>
    unfold AV.shut
    refine .sl ad n cap esz _ none val (by rw [sealLL_eq]; simpa using hn) ?_ hs hc hm hp ?_ (by simp)
    · intro e he
      rw [sealLL_eq] at he
      obtain ⟨e', he', rfl⟩ := List.mem_map.1 he
      rw [sealL_eq]; simpa using hes e' he'
    · intro i j e a he ha
      rw [sealLL_eq, List.getElem?_map] at he
      cases hx : es[i]? with
      | none => simp [hx] at he
      | some e' =>
        simp only [hx, Option.map_some, Option.some.injEq] at he
        subst he
        rw [sealL_eq, List.getElem?_map] at ha
        cases hy : e'[j]? with
        | none => simp [hy] at ha
        | some a' =>
          simp only [hy, Option.map_some, Option.some.injEq] at ha
          subst ha
          exact ih i j e' a' hx hy
  | mp B => unfold AV.shut; exact .mp B
  | fn f cs as hl hh ih => unfold AV.shut; exact .fn f cs as hl hh
  | ifc t x a hh ih => unfold AV.shut; exact .ifc t x _ ih
  | agg cs as hl hh ih =>
    unfold AV.shut
    refine .agg cs _ (by rw [sealL_eq]; simpa using hl) (fun i x a hx ha => ?_)
    rw [sealL_eq, List.getElem?_map] at ha
    cases hy : as[i]? with
    | none => simp [hy] at ha
    | some a' => simp only [hy, Option.map_some, Option.some.injEq] at ha; subst ha; exact ih i x a' hx hy
  | tup cs as hl hh ih =>
    unfold AV.shut
    refine .tup cs _ (by rw [sealL_eq]; simpa using hl) (fun i x a hx ha => ?_)
    rw [sealL_eq, List.getElem?_map] at ha
    cases hy : as[i]? with
    | none => simp [hy] at ha
    | some a' => simp only [hy, Option.map_some, Option.some.injEq] at ha; subst ha; exact ih i x a' hx hy
  | win B off n cap hn hm => unfold AV.shut; exact .win B off n cap hn hm
  | fsl ad n es hh hl ih => unfold AV.shut at ih ⊢; exact ih

section
variable {P : Program} {ops : Array Oper} {S : AS} {a : AAct} {Q : APost}

/-- 'append', and what comes behind it. -/
def AppendK (P : Program) (t u : TypeId) (x y : AV) (S : AS) (K : AV → AS → Prop) : Prop :=
  ∃ e s bytes z es es2 own2 S1, u = t ∧ sliceD P t = some e ∧ (P.info? e).map (fun i => (i.zero, i.size, i.bytes)) = some (some z, s, bytes) ∧ z.cells.size = s ∧ tipOf S e s x = some (es, S1) ∧ y = .sl es2 own2 ∧ es2 ≠ [] ∧
    (∀ el ∈ es, el.length = s) ∧ (∀ el ∈ es2, el.length = s ∧ el.all AV.one = true) ∧ es.length + es2.length ≤ maxLen ∧ (es.length + es2.length) * bytes ≤ 140737488355328 ∧
    ∀ B cap, S1 B = none → K (.sl (es ++ es2) (some (B, cap))) (S1.set B (.tip e s (es.length + es2.length) cap))

/-- 'append' of a text, and what comes behind it. -/
def AppendSK (P : Program) (t u : TypeId) (x : AV) (l : List UInt8) (S : AS) (K : AV → AS → Prop) : Prop :=
  ∃ e bytes es S1, sliceD P t = some e ∧ strD P u = true ∧ (P.info? e).map (fun i => (i.zero, i.size, i.bytes)) = some (some (.int .u8 0), 1, bytes) ∧ tipOf S e 1 x = some (es, S1) ∧ l ≠ [] ∧
    (∀ el ∈ es, el.length = 1) ∧ es.length + l.length ≤ maxLen ∧ (es.length + l.length) * bytes ≤ 140737488355328 ∧
    ∀ B cap, S1 B = none → K (.sl (es ++ bytesA l) (some (B, cap))) (S1.set B (.tip e 1 (es.length + l.length) cap))
def AppendKX (P : Program) (t u : TypeId) (x y : AV) (S : AS) (K : AV → AS → Prop) : Prop := AppendK P t u x y S K ∨ AppendVK P t u x y S K ∨ AppendNK P t u x y S K
def AppendAny (P : Program) (t u : TypeId) (x y : AV) (S : AS) (K : AV → AS → Prop) : Prop :=
  match y with | .str l => AppendSK P t u x l S K | y => AppendKX P t u x y S K
def callK (P : Program) (f : AV) (xs : List AV) (S : AS) (R : AEnd → AS → Prop) : Prop :=
  match f with | .fn (.func f) cap => if okF P f = true then ACall P f (xs ++ cap) S R else ∃ y, ExtRun P f (xs ++ cap) y ∧ R (.ret y) S | _ => False
/-- Does an operation make a block? -/
def makes : Op → Bool
  | .alloc _ | .box _ _ | .buildSlice _ _ _ | .range _ _ | .makeMap _ _ | .makeSlice _ _ _ => true
  | _ => false
def Kont (K : AV → AS → Prop) (Z : AV → AS → Prop) : AEnd → AS → Prop := fun r S => match r with | .ret x => K x S | .panic x => Z x S
theorem Kont_ret {K : AV → AS → Prop} {Z : AV → AS → Prop} {x : AV} {S : AS} : Kont K Z (.ret x) S = K x S := rfl
theorem Kont_panic {K : AV → AS → Prop} {Z : AV → AS → Prop} {x : AV} {S : AS} : Kont K Z (.panic x) S = Z x S := rfl

/-- One operation, and what comes behind it. -/
def WO (P : Program) (op : Op) (a : AAct) (S : AS) (K : AV → AS → Prop) (Z : AV → AS → Prop) : Prop :=
  match op with
  | .call { callee := .value fo, args, argTypes := _ } => callK P (a.get fo) (args.toList.map a.get) S (Kont K Z)
  | .call { callee := .builtin .append, args, argTypes } => (match args.toList, argTypes.toList with
    | [x, y], [t, u] => AppendAny P t u (a.get x) (a.get y) S K
    | _, _ => False)
  | .call { callee := .builtin .copy, args, argTypes } => (match args.toList, argTypes.toList with
    | [x, y], [t, _] => (match copyA P t (a.get x) (a.get y) S with | some (r, S') => K r S' | none => False)
    | _, _ => False)
  | .next x false => NextK (a.get x) S K
  | .panic x => (match a.get x with | .ifc t y => Z (.ifc t y) S | _ => False)
  | op => if makes op then ∀ B, S B = none → (match opA P op a S B with | some (x, S') => K x S' | none => False) else (match opA P op a S 0 with | some (x, S') => K x S' | none => False)

def WL (P : Program) (ops : Array Oper) (Q : APost) : List Oper → AAct → AS → Prop
  | [], a, S => Q .normal a S
  | o :: rest, a, S =>
    match wantedA ops a o.guard with
    | some true => WO P o.op a S (fun x S' => WL P ops Q rest (a.put o.dst x) S') (fun x S' => Q (.panic x) a S')
    | some false => WL P ops Q rest (a.put o.dst undefA) S
    | none => False

theorem opA_free {op : Op} (h : makes op = false) (a : AAct) (S : AS) (B : Nat) : opA P op a S B = opA P op a S 0 := by
  cases op <;> try first | rfl | cases h
  case slice t x lo hi mx => cases mx <;> rfl
  case next x b => cases b <;> rfl
  case typeAssert x t t' b => cases b <;> rfl
  case call c => obtain ⟨f, x, t⟩ := c; cases f <;> rfl

theorem WL.sound : ∀ (l : List Oper) (a : AAct) (S : AS), WL P ops Q l a S → AList P ops l a S Q
  | [], a, S, h => AList.nil h
  | o :: rest, a, S, h => by
    unfold WL at h
    split at h
    · rename_i hw
      unfold WO at h
      split at h
      · rename_i fo args ats hop
        unfold callK at h
        split at h
        · rename_i f cap hf
          split at h
          · rename_i hk
            exact AList.call (c := { callee := .value fo, args := args, argTypes := ats }) hw hop rfl hf hk (h.mono fun e S' he => by
              cases e with
              | ret x => exact WL.sound rest _ _ he
              | panic x => exact he)
          · obtain ⟨y, hy, h⟩ := h
            exact AList.ext (c := { callee := .value fo, args := args, argTypes := ats }) hw hop rfl hf hy (WL.sound rest _ _ h)
        · exact h.elim
      · rename_i args ats hop
        split at h
        · rename_i x y t u hx ht
          unfold AppendAny at h
          have ea : args = #[x, y] := by cases args; simp at hx; subst hx; rfl
          have et : ats = #[t, u] := by cases ats; simp at ht; subst ht; rfl
          subst ea; subst et
          split at h
          · rename_i l hl
            obtain ⟨e, bytes, es, S1, h1, h2, h3, h4, h5, h6, h7, h8, h9⟩ := h
            exact AList.appendS hw hop h1 h2 h3 h4 hl h5 h6 h7 h8 (fun B cap hB => WL.sound rest _ _ (h9 B cap hB))
          · rcases h with h | h | h
            · obtain ⟨e, s, bytes, z, es, es2, own2, S1, rfl, h1, h2, h3, h4, h5, h6, h7, h8, h9, h10, h11⟩ := h
              exact AList.append hw hop h1 h2 h3 h4 h5 h6 h7 h8 h9 h10 (fun B cap hB => WL.sound rest _ _ (h11 B cap hB))
            · exact AList.appendV hw hop (AppendVK.mono (fun x S' h => WL.sound rest _ _ h) h)
            · exact AList.appendN hw hop (AppendNK.mono (fun x S' h => WL.sound rest _ _ h) h)
        · exact h.elim
      · rename_i args ats hop
        split at h
        · rename_i x y t u hx ht
          have ea : args = #[x, y] := by cases args; simp at hx; subst hx; rfl
          have et : ats = #[t, u] := by cases ats; simp at ht; subst ht; rfl
          subst ea; subst et
          split at h
          · rename_i r S' hc
            exact AList.copy hw hop hc (WL.sound rest _ _ h)
          · exact h.elim
        · exact h.elim
      · rename_i x hop
        exact AList.nextM hw hop (NextK.mono (fun x S' h => WL.sound rest _ _ h) h)
      · rename_i x hop
        split at h
        · rename_i t y hx
          exact AList.panic hw hop hx h
        · exact h.elim
      · split at h
        · refine AList.op hw fun B hB => ?_
          have := h B hB
          split at this
          · rename_i x S' e; exact ⟨x, S', e, WL.sound rest _ _ this⟩
          · exact this.elim
        · rename_i hm
          refine AList.op hw fun B hB => ?_
          split at h
          · rename_i x S' e; exact ⟨x, S', by rw [opA_free (by simpa using hm)]; exact e, WL.sound rest _ _ h⟩
          · exact h.elim
    · rename_i hw; exact AList.skip hw (WL.sound rest _ _ h)
    · exact h.elim

/-- Code, as a formula; loops and what this does not take stay as they are. -/
def WC (P : Program) : Code → APost → AAct → AS → Prop
  | .skip, Q, a, S => Q .normal a S
  | .region _ ops false, Q, a, S => WL P ops Q ops.toList a S
  | .seq x y, Q, a, S => WC P x (AExit.then (fun a S => WC P y Q a S) Q) a S
  | .cond c x y, Q, a, S => (match a.get c with | .v (.bool b) => (b = true → WC P x Q a S) ∧ (b = false → WC P y Q a S) | _ => False)
  | .block id c, Q, a, S => WC P c (AExit.inBlock id Q) a S
  | .exit id, Q, a, S => Q (.exit id) a S
  | .label _, Q, a, S => Q .normal a S
  | .goto l, Q, a, S => Q (.goto l) a S
  | .ret, Q, a, S => Q .ret a S
  | c, Q, a, S => AWp P c a S Q

theorem WC.sound : ∀ (c : Code) (Q : APost) (a : AAct) (S : AS), WC P c Q a S → AWp P c a S Q
  | .skip, Q, a, S, h => AWp.skip h
  | .region id ops draw, Q, a, S, h => by
    cases draw with
    | true => exact h
    | false =>
      have := AWp.region (id := id) (l := ops.toList) (WL.sound (ops := ops.toList.toArray) _ _ _ (by simpa [WC] using h))
      simpa using this
  | .seq x y, Q, a, S, h => AWp.seq ((WC.sound x _ a S h).mono fun e a S he => by
      cases e <;> first | exact WC.sound y Q _ _ he | exact he)
  | .cond c x y, Q, a, S, h => by
    simp only [WC] at h
    split at h
    · rename_i b hb; exact AWp.cond hb (fun e => WC.sound x Q a S (h.1 e)) (fun e => WC.sound y Q a S (h.2 e))
    · exact h.elim
  | .block id c, Q, a, S, h => AWp.block (WC.sound c _ a S h)
  | .exit id, Q, a, S, h => AWp.exit h
  | .label l, Q, a, S, h => AWp.label h
  | .goto l, Q, a, S, h => AWp.goto h
  | .ret, Q, a, S, h => AWp.ret h
  | .loop c, Q, a, S, h => h
  | .rangeFunc f p x c, Q, a, S, h => h
  | .scope c, Q, a, S, h => h
  | .refuse w, Q, a, S, h => h

/-- What a function's code must come to. -/
def FPost (P : Program) (rs : List ResultVar) (R : AEnd → AS → Prop) : APost := fun e a S =>
  match e with
  | .normal | .ret => ∃ x T, resultsA S P a rs = some x ∧ (T.le S ∧ (R (.ret x) T ∨ R (.ret x.shut) T) ∨ ∃ x' S', Frost S x S' x' ∧ T.le S' ∧ R (.ret x') T)
  | .panic x => ∃ T, T.le S ∧ R (.panic x) T
  | _ => False

theorem ACall.by_code {f : FuncId} {fn : Func} {c : Code} {args : List AV} {R : AEnd → AS → Prop} {n : Nat} {rs : List ResultVar} (hf : P.funcs[f]? = some fn) (hb : fn.body = some c) (hn : fn.ntmps = n) (hrs : fn.results = rs.toArray)
    (h : WC P c (FPost P rs R) ⟨args ++ List.replicate (n - args.length) undefA⟩ S) : ACall P f args S R := by
  have h' := WC.sound _ _ _ _ h
  have one : ∀ a S, (∃ x T, resultsA S P a rs = some x ∧ (T.le S ∧ (R (.ret x) T ∨ R (.ret x.shut) T) ∨ ∃ x' S', Frost S x S' x' ∧ T.le S' ∧ R (.ret x') T)) →
      ∃ x, resultsA S P a rs = some x ∧ ∃ T e', R e' T ∧ ((T.le S ∧ (e' = .ret x ∨ e' = .ret x.shut)) ∨ ∃ x' S', Frost S x S' x' ∧ T.le S' ∧ e' = .ret x') := by
    rintro a S ⟨x, T, h1, ⟨h2, h3 | h3⟩ | ⟨x', S', h2, h3, h4⟩⟩
    · exact ⟨x, h1, T, _, h3, .inl ⟨h2, .inl rfl⟩⟩
    · exact ⟨x, h1, T, _, h3, .inl ⟨h2, .inr rfl⟩⟩
    · exact ⟨x, h1, T, _, h4, .inr ⟨x', S', h2, h3, rfl⟩⟩
  have step := ACall.body (P := P) (R := fun e S' => ∃ T e', R e' T ∧ (match e with
      | .ret x => (T.le S' ∧ (e' = .ret x ∨ e' = .ret x.shut)) ∨ ∃ x' S'', Frost S' x S'' x' ∧ T.le S'' ∧ e' = .ret x'
      | .panic x => T.le S' ∧ e' = .panic x)) hf hb hn hrs (h'.mono fun e a S he => by
    cases e with
    | normal => exact one a S he
    | ret => exact one a S he
    | panic x => obtain ⟨T, h2, h3⟩ := he; exact ⟨T, _, h3, h2, rfl⟩
    | exit id => exact he
    | goto l => exact he)
  intro b0 w0 π w vs hs ha
  refine (step b0 w0 π w vs hs ha).mono ?_
  rintro e w' ⟨π', r, S', h1, h2, h3, T, e', h5, h6⟩
  cases r with
  | panic x => obtain ⟨h7, rfl⟩ := h6; exact ⟨π', _, T, h1, h2.le h7, h3, h5⟩
  | ret x =>
    cases e with
    | panicked ch => exact h3.elim
    | outgrown => exact h3.elim
    | returned v =>
      rcases h6 with ⟨h7, rfl | rfl⟩ | ⟨x', S'', hfr, h7, rfl⟩
      · exact ⟨π', _, T, h1, h2.le h7, h3, h5⟩
      · exact ⟨π', .ret x.shut, T, h1, h2.le h7, VR.shut h3, h5⟩
      · obtain ⟨π'', g1, g2, g3⟩ := hfr b0 w0 π' w' v h2 h3
        exact ⟨π'', .ret x', T, Pi.le_trans h1 g1, g2.le h7, g3, h5⟩
end
end Go.Aw
