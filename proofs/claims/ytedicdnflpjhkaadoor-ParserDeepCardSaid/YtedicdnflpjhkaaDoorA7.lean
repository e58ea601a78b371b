/- Walks told of abstract values: lists of operations, code, calls. No condition: definitions and lemmas. -/
import Derived.Test.YtedicdnflpjhkaaDoorA6
import Derived.Orders
import Derived.Deep.LoopGhost
set_option linter.unusedVariables false
namespace Go.Aw
open Go.RowKit
variable {D : List Deferred}

inductive AExit where
  | normal
  | exit (id : Nat)
  | goto (l : Nat)
  | ret
  | panic (x : AV)
inductive AEnd where
  | ret (x : AV)
  | panic (x : AV)
def ERel (π : Pi) : Exit → AExit → Prop
  | .normal, .normal => True
  | .exit i, .exit j => i = j
  | .goto i, .goto j => i = j
  | .ret, .ret => True
  | .panic ch, .panic x => ∃ v, ch = [{ v, recovered := false }] ∧ VR π v x
  | _, _ => False
theorem ERel.mono {π π' : Pi} (h : π.le π') {e : Exit} {e' : AExit} (r : ERel π e e') : ERel π' e e' := by
  cases e <;> cases e' <;> first | exact r | (obtain ⟨v, h1, h2⟩ := r; exact ⟨v, h1, h2.mono h⟩)
def EndRel (π : Pi) : Ending → AEnd → Prop
  | .returned v, .ret x => VR π v x
  | .panicked ch, .panic x => ∃ v, ch = [{ v, recovered := false }] ∧ VR π v x
  | _, _ => False

/-- What stands in the frame behind an exit: of a frame that is left by a panic nothing is looked at. -/
def PRel (D : List Deferred) (π : Pi) (_ : Exit) (act : Act) (a : AAct) : Prop := ARel D π act a
theorem PRel.of {π : Pi} {e : Exit} {act : Act} {a : AAct} (h : ARel D π act a) : PRel D π e act a := h
abbrev APost := AExit → AAct → AS → Prop
def Post (D : List Deferred) (b0 : Nat) (w0 : World) (π : Pi) (Q : APost) : Exit → Act → World → Prop := fun e act w =>
  ∃ π' e' a S, π.le π' ∧ Sim b0 w0 π' S w ∧ PRel D π' e act a ∧ ERel π' e e' ∧ Q e' a S
theorem Post.mono {b0 : Nat} {w0 : World} {π π' : Pi} {Q : APost} (h : π.le π') {e : Exit} {act : Act} {w : World} (p : Post D b0 w0 π' Q e act w) : Post D b0 w0 π Q e act w := by
  obtain ⟨p1, e', a, S, h1, h2⟩ := p
  exact ⟨p1, e', a, S, Pi.le_trans h h1, h2⟩
def AWp (P : Program) (c : Code) (a : AAct) (S : AS) (Q : APost) : Prop :=
  ∀ D b0 w0 π w act, Sim b0 w0 π S w → ARel D π act a → c.wp P (Post D b0 w0 π Q) act w
def AList (P : Program) (ops : Array Oper) (l : List Oper) (a : AAct) (S : AS) (Q : APost) : Prop :=
  ∀ D b0 w0 π w act, Sim b0 w0 π S w → ARel D π act a → wpList P ops (Post D b0 w0 π Q) l act w
def ACall (P : Program) (f : FuncId) (args : List AV) (S : AS) (Q : AEnd → AS → Prop) : Prop :=
  ∀ b0 w0 π w vs, Sim b0 w0 π S w → PW π vs args → Calls P f vs w fun e w' => ∃ π' r S', π.le π' ∧ Sim b0 w0 π' S' w' ∧ EndRel π' e r ∧ Q r S'

section
variable {P : Program} {ops : Array Oper} {rest : List Oper} {o : Oper} {a : AAct} {S : AS} {Q Q' : APost}

theorem Oper.wp_mono2 {o : Oper} {act : Act} {w : World} {K K' : Act → World → Prop} {Q Q' : Exit → Act → World → Prop} (h : ∀ a w, K a w → K' a w) (hq : ∀ e a w, Q e a w → Q' e a w)
    (hh : o.wp P act w K Q) : o.wp P act w K' Q' := by
  unfold Oper.wp at *
  generalize (execOp act.eval o).run P w = r at *
  cases r with
  | ok n w' =>
    cases n <;> simp only [Oper.upon] at hh ⊢ <;>
      first
        | exact h _ _ hh
        | exact Calls.mono hh (fun e w'' he => by cases e <;> first | exact h _ _ he | exact hq _ _ _ he | exact ⟨_, _, hq _ _ _ he.choose_spec.choose_spec⟩)
        | exact Rows.mono hh (fun _ _ he => h _ _ he)
  | halt x w' => cases x <;> simp only [Oper.upon] at hh ⊢ <;> first | exact hh | exact hq _ _ _ hh
theorem wpList_mono {Q Q' : Exit → Act → World → Prop} (hq : ∀ e a w, Q e a w → Q' e a w) : ∀ (l : List Oper) (act : Act) (w : World), wpList P ops Q l act w → wpList P ops Q' l act w
  | [], act, w, h => hq _ _ _ h
  | o :: rest, act, w, h => by
    unfold wpList at h ⊢
    split
    · rename_i hw
      rw [if_pos hw] at h
      rcases h with h | ⟨h, a', w', h'⟩
      · exact .inl (Oper.wp_mono2 (fun a w => wpList_mono hq rest a w) hq h)
      · exact .inr ⟨h, a', w', hq _ _ _ h'⟩
    · rename_i hw
      rw [if_neg hw] at h
      exact wpList_mono hq rest _ _ h

def wantedA (ops : Array Oper) (a : AAct) : Option (Nat × Bool) → Option Bool
  | none => some true
  | some (j, want) => match ((ops[j]?).bind (·.dst)).bind (a.tmps[·]?) with
    | some (.v (.bool b)) => some (b == want)
    | some (.v (.tuple _)) => some false
    | _ => none
theorem wanted_of {π : Pi} {act : Act} {g : Option (Nat × Bool)} {b : Bool} (hg : o.guard = g) (ha : ARel D π act a) (h : wantedA ops a g = some b) : Region.wanted o (yielded ops act.tmps) = b := by
  subst hg
  unfold Region.wanted
  unfold wantedA at h
  cases hgd : o.guard with
  | none => simpa [hgd] using h
  | some q =>
    obtain ⟨j, want⟩ := q
    simp only [hgd] at h ⊢
    unfold yielded
    cases hd : (ops[j]?).bind (·.dst) with
    | none => simp [hd] at h
    | some t =>
      simp only [hd, Option.bind_some] at h ⊢
      cases ht : a.tmps[t]? with
      | none => simp [ht] at h
      | some x =>
        obtain ⟨v, hv, hr⟩ := ha.tmps.get ht
        rw [ht] at h
        rw [hv]
        cases x with
        | v y =>
          have := hr.v_inv
          subst this
          cases v <;> simp only at h <;> first | (cases h; done) | (simp only [Option.some.injEq] at h; subst h; first | rfl | (rename_i p; cases p <;> cases want <;> rfl))
        | _ => simp at h

theorem AList.nil (h : Q .normal a S) : AList P ops [] a S Q :=
  fun D b0 w0 π w act hs ha => ⟨π, .normal, a, S, Pi.le_refl π, hs, ha, trivial, h⟩
theorem AList.skip (hw : wantedA ops a o.guard = some false) (h : AList P ops rest (a.put o.dst undefA) S Q) : AList P ops (o :: rest) a S Q := by
  intro D b0 w0 π w act hs ha
  unfold wpList
  rw [if_neg (by rw [wanted_of rfl ha hw]; simp)]
  exact h D b0 w0 π w _ hs (ha.put _ (.v _))
theorem wpList_inl {Q : Exit → Act → World → Prop} {act : Act} {w : World} (hw : Region.wanted o (yielded ops act.tmps) = true) (h : o.wp P act w (wpList P ops Q rest) Q) : wpList P ops Q (o :: rest) act w := by
  unfold wpList
  rw [if_pos hw]
  exact .inl h
theorem AList.op (hw : wantedA ops a o.guard = some true) (h : ∀ B, S B = none → ∃ x S', opA P o.op a S B = some (x, S') ∧ AList P ops rest (a.put o.dst x) S' Q) : AList P ops (o :: rest) a S Q := by
  intro D b0 w0 π w act hs ha
  obtain ⟨x, S', hop, hrest⟩ := h w.heap.size hs.fresh
  obtain ⟨nx, w', π', v, hrun, hnx, hle, hs', hv⟩ := opA_sound hs ha o hop
  refine wpList_inl (wanted_of rfl ha hw) ?_
  unfold Oper.wp
  rw [hrun]
  have hfin := hrest D b0 w0 π' w' _ hs' ((ha.mono hle).put o.dst hv)
  have hfin' := wpList_mono (fun e a w p => Post.mono hle p) rest _ _ hfin
  rcases hnx with rfl | ⟨rfl, rfl⟩
  · exact hfin'
  · exact hfin'

/-- Which function a value is, if it is one that has a body. -/
def okF (P : Program) (f : FuncId) : Bool := match P.funcs[f]? with | some fn => fn.name != "runtime.NumGoroutine" && fn.body.isSome | none => false
theorem run_callFunc {w : World} {f : FuncId} {args : Array Value} (h : okF P f = true) : (callFunc f args).run P w = .ok (.enter f args) w := by
  unfold okF at h
  cases hf : P.funcs[f]? with
  | none => simp [hf] at h
  | some fn =>
    simp only [hf, Bool.and_eq_true, bne_iff_ne, ne_eq] at h
    obtain ⟨h1, h2⟩ := h
    simp [callFunc, hf, h1, Option.isNone_iff_eq_none, Option.isSome_iff_ne_none.1 h2]
theorem AList.call {c : Call} {fo : Operand} {f : FuncId} {cap : List AV} (hw : wantedA ops a o.guard = some true) (ho : o.op = .call c) (hc : c.callee = .value fo) (hf : a.get fo = .fn (.func f) cap) (hk : okF P f = true)
    (h : ACall P f (c.args.toList.map a.get ++ cap) S fun r S' => match r with | .ret x => AList P ops rest (a.put o.dst x) S' Q | .panic x => Q (.panic x) a S') : AList P ops (o :: rest) a S Q := by
  intro D b0 w0 π w act hs ha
  obtain ⟨callee, args, argTypes⟩ := c
  simp only at hc
  subst hc
  refine wpList_inl (wanted_of rfl ha hw) ?_
  have hv := ha.eval fo
  rw [hf] at hv
  obtain ⟨cs, e, hcap⟩ := hv.fn_inv
  have hargs := (ha.args args).append hcap
  have hrun : (execOp act.eval o).run P w = .ok (.enter f ((args.map act.eval).toList ++ cs.toList).toArray) w := by
    unfold execOp
    rw [ho]
    have hres : (resolve act.eval { callee := .value fo, args := args, argTypes := argTypes } o.type).run P w = .ok { target := .fn (.func f) cs, args := args.map act.eval } w := by
      simp [resolve, e, Deferred.ofValue]
    simp only [Sem.run_bind, hres, Result.andThen_ok, invoke, run_callFunc hk]
    congr 2
    apply Array.ext'
    simp
  unfold Oper.wp
  rw [hrun, Oper.upon_enter]
  refine (h b0 w0 π w _ hs hargs).mono ?_
  rintro e w' ⟨π', r, S', hle, hs', hr, hq⟩
  cases e with
  | returned v =>
    cases r with
    | ret x => exact wpList_mono (fun e a w p => Post.mono hle p) rest _ _ (hq D b0 w0 π' w' _ hs' ((ha.mono hle).put o.dst hr))
    | panic x => exact hr.elim
  | panicked ch =>
    cases r with
    | ret x => exact hr.elim
    | panic x =>
      obtain ⟨v, h1, h2⟩ := hr
      exact ⟨π', .panic x, a, S', hle, hs', PRel.of (ha.mono hle), ⟨v, h1, h2⟩, hq⟩
  | outgrown => exact hr.elim

/-- A function without a body that looks at no memory: what it answers. -/
def ExtRun (P : Program) (f : FuncId) (args : List AV) (y : AV) : Prop := ∀ π w vs, PW π vs args → ∃ v, (callFunc f vs).run P w = .ok (.value v) w ∧ VR π v y
theorem AList.ext {c : Call} {fo : Operand} {f : FuncId} {cap : List AV} {y : AV} (hw : wantedA ops a o.guard = some true) (ho : o.op = .call c) (hc : c.callee = .value fo) (hf : a.get fo = .fn (.func f) cap) (hk : ExtRun P f (c.args.toList.map a.get ++ cap) y)
    (h : AList P ops rest (a.put o.dst y) S Q) : AList P ops (o :: rest) a S Q := by
  intro D b0 w0 π w act hs ha
  obtain ⟨callee, args, argTypes⟩ := c
  simp only at hc
  subst hc
  refine wpList_inl (wanted_of rfl ha hw) ?_
  have hv := ha.eval fo
  rw [hf] at hv
  obtain ⟨cs, e, hcap⟩ := hv.fn_inv
  have hargs := (ha.args args).append hcap
  obtain ⟨v, hrun0, hvr⟩ := hk π w _ hargs
  have hrun : (execOp act.eval o).run P w = .ok (.value v) w := by
    unfold execOp
    rw [ho]
    have hres : (resolve act.eval { callee := .value fo, args := args, argTypes := argTypes } o.type).run P w = .ok { target := .fn (.func f) cs, args := args.map act.eval } w := by
      simp [resolve, e, Deferred.ofValue]
    simp only [Sem.run_bind, hres, Result.andThen_ok, invoke]
    rw [← hrun0]
    congr 2
    apply Array.ext'
    simp
  unfold Oper.wp
  rw [hrun, Oper.upon_value]
  exact h D b0 w0 π w _ hs (ha.put o.dst hvr)

/-- What an explicit panic comes to. -/
theorem AList.panic {x : Operand} {t : TypeId} {y : AV} (hw : wantedA ops a o.guard = some true) (ho : o.op = .panic x) (hx : a.get x = .ifc t y) (h : Q (.panic (.ifc t y)) a S) : AList P ops (o :: rest) a S Q := by
  intro D b0 w0 π w act hs ha
  refine wpList_inl (wanted_of rfl ha hw) ?_
  have hv := ha.eval x
  rw [hx] at hv
  obtain ⟨u, e, hr⟩ := hv.ifc_inv
  have hrun : (execOp act.eval o).run P w = .halt (.panic (.iface t u)) w := by
    unfold execOp
    rw [ho]
    simp [Instr.panic, e]
  unfold Oper.wp
  rw [hrun, Oper.upon_panic]
  exact ⟨π, .panic (.ifc t y), a, S, Pi.le_refl π, hs, PRel.of ha, ⟨_, rfl, .ifc _ _ _ hr⟩, h⟩

/-! ### code -/
theorem AWp.mono {c : Code} (h : AWp P c a S Q) (hq : ∀ e a S, Q e a S → Q' e a S) : AWp P c a S Q' :=
  fun D b0 w0 π w act hs ha => wp_mono (h D b0 w0 π w act hs ha) fun _ _ _ ⟨π', e', a', S', h1, h2, h3, h4, h5⟩ => ⟨π', e', a', S', h1, h2, h3, h4, hq _ _ _ h5⟩
theorem AWp.region {id : Nat} {l : List Oper} (h : AList P l.toArray l a S Q) : AWp P (.region id l.toArray false) a S Q :=
  fun D b0 w0 π w act hs ha => wp_region_lit (h D b0 w0 π w act hs ha)
theorem AWp.skip (h : Q .normal a S) : AWp P .skip a S Q := fun D b0 w0 π w act hs ha => wp_skip ⟨π, .normal, a, S, Pi.le_refl π, hs, ha, trivial, h⟩
theorem AWp.ret (h : Q .ret a S) : AWp P .ret a S Q := fun D b0 w0 π w act hs ha => wp_ret ⟨π, .ret, a, S, Pi.le_refl π, hs, ha, trivial, h⟩
theorem AWp.exit {id : Nat} (h : Q (.exit id) a S) : AWp P (.exit id) a S Q := fun D b0 w0 π w act hs ha => wp_exit ⟨π, .exit id, a, S, Pi.le_refl π, hs, ha, rfl, h⟩
theorem AWp.label {l : Nat} (h : Q .normal a S) : AWp P (.label l) a S Q := fun D b0 w0 π w act hs ha => wp_label ⟨π, .normal, a, S, Pi.le_refl π, hs, ha, trivial, h⟩
theorem AWp.goto {l : Nat} (h : Q (.goto l) a S) : AWp P (.goto l) a S Q := fun D b0 w0 π w act hs ha => wp_goto ⟨π, .goto l, a, S, Pi.le_refl π, hs, ha, rfl, h⟩
def AExit.then (K : AAct → AS → Prop) (Q : APost) : APost
  | .normal, a, S => K a S
  | e, a, S => Q e a S
theorem AWp.seq {x y : Code} (h : AWp P x a S (AExit.then (fun a S => AWp P y a S Q) Q)) : AWp P (.seq x y) a S Q := by
  intro D b0 w0 π w act hs ha
  refine wp_seq (wp_mono (h D b0 w0 π w act hs ha) ?_)
  rintro e act' w' ⟨π', e', a', S', h1, h2, h3, h4, h5⟩
  cases e <;> cases e' <;> first
    | exact h4.elim
    | exact wp_mono (h5 D b0 w0 π' w' act' h2 h3) (fun e a w p => Post.mono h1 p)
    | exact ⟨π', _, a', S', h1, h2, h3, h4, h5⟩
theorem AWp.cond {c : Operand} {x y : Code} {b : Bool} (hc : a.get c = .v (.bool b)) (ht : b = true → AWp P x a S Q) (hf : b = false → AWp P y a S Q) : AWp P (.cond c x y) a S Q := by
  intro D b0 w0 π w act hs ha
  have hv := ha.eval c
  rw [hc] at hv
  refine wp_cond_split hv.v_inv (fun h => ht h D b0 w0 π w act hs ha) (fun h => hf h D b0 w0 π w act hs ha)
def AExit.inBlock (id : Nat) (Q : APost) : APost
  | .exit id', a, S => if id' = id then Q .normal a S else Q (.exit id') a S
  | e, a, S => Q e a S
theorem AWp.block {id : Nat} {c : Code} (h : AWp P c a S (AExit.inBlock id Q)) : AWp P (.block id c) a S Q := by
  intro D b0 w0 π w act hs ha
  refine wp_block (wp_mono (h D b0 w0 π w act hs ha) ?_)
  rintro e act' w' ⟨π', e', a', S', h1, h2, h3, h4, h5⟩
  cases e <;> cases e' <;> first
    | exact h4.elim
    | (simp only [ERel] at h4
       subst h4
       simp only [AExit.inBlock] at h5
       simp only [Exit.inBlock]
       split
       · rename_i e; rw [if_pos e] at h5; exact ⟨π', .normal, a', S', h1, h2, h3, trivial, h5⟩
       · rename_i e; rw [if_neg e] at h5; exact ⟨π', .exit _, a', S', h1, h2, h3, rfl, h5⟩)
    | exact ⟨π', _, a', S', h1, h2, h3, h4, h5⟩
/-- A loop: what holds at each round's head, with a number that goes down. -/
theorem AWp.loop {c : Code} (I : Nat → AAct → AS → Prop) (n₀ : Nat) (h0 : I n₀ a S)
    (round : ∀ n a S, I n a S → AWp P c a S (AExit.then (fun a' S' => ∃ n', n' < n ∧ I n' a' S') Q)) : AWp P (.loop c) a S Q := by
  intro D b0 w0 π w act hs ha
  refine wp_loop_ghost (fun n act w => ∃ π' a S, π.le π' ∧ Sim b0 w0 π' S w ∧ ARel D π' act a ∧ I n a S) n₀ ⟨π, a, S, Pi.le_refl π, hs, ha, h0⟩ ?_
  rintro n act w ⟨π₁, a, S, hle, hs, ha, hI⟩
  refine wp_mono (round n a S hI D b0 w0 π₁ w act hs ha) ?_
  rintro e act' w' ⟨π', e', a', S', h1, h2, h3, h4, h5⟩
  cases e <;> cases e' <;> first
    | exact h4.elim
    | (obtain ⟨n', hlt, hI'⟩ := h5; exact ⟨n', hlt, π', a', S', Pi.le_trans hle h1, h2, h3, hI'⟩)
    | exact ⟨π', _, a', S', Pi.le_trans hle h1, h2, h3, h4, h5⟩

/-! ### calls -/
theorem ACall.mono {f : FuncId} {args : List AV} {R R' : AEnd → AS → Prop} (h : ACall P f args S R) (hr : ∀ e S, R e S → R' e S) : ACall P f args S R' :=
  fun b0 w0 π w vs hs ha => (h b0 w0 π w vs hs ha).mono fun _ _ ⟨π', r, S', h1, h2, h3, h4⟩ => ⟨π', r, S', h1, h2, h3, hr _ _ h4⟩
/-- What is known of fewer blocks is known. -/
theorem ACall.keep {f : FuncId} {args : List AV} {R : AEnd → AS → Prop} {T : AEnd → AS} (h : ACall P f args S fun e S' => (T e).le S' ∧ R e (T e)) : ACall P f args S R :=
  fun b0 w0 π w vs hs ha => (h b0 w0 π w vs hs ha).mono fun _ _ ⟨π', r, S', h1, h2, h3, h4⟩ => ⟨π', r, T r, h1, h2.le h4.1, h3, h4.2⟩

/-- The results of a frame. -/
def resA (S : AS) (P : Program) (a : AAct) : ResultVar → Option AV
  | .tmp t => some (a.tmps.getD t undefA)
  | .cell t ty => match cellsAt S (a.tmps.getD t undefA) with | some cs => loadC P ty cs | none => none
def allSome {α β : Type} (f : α → Option β) : List α → Option (List β)
  | [] => some []
  | x :: r => match f x, allSome f r with | some y, some l => some (y :: l) | _, _ => none
def resultsA (S : AS) (P : Program) (a : AAct) (rs : List ResultVar) : Option AV :=
  match allSome (resA S P a) rs with
  | some [x] => some x
  | some l => some (.tup l)
  | none => none
theorem ARel.tmp {π : Pi} {act : Act} {a : AAct} (ha : ARel D π act a) (t : Tmp) : VR π (act.tmps.getD t undef) (a.tmps.getD t undefA) := ha.eval (.tmp t)
theorem run_results {b0 : Nat} {w0 : World} {π : Pi} {w : World} {act : Act} (hs : Sim b0 w0 π S w) (ha : ARel D π act a) : ∀ (rs : List ResultVar) (xs : List AV), allSome (resA S P a) rs = some xs →
    ∃ vs, (rs.mapM fun r => (match r with | .tmp t => pure (act.tmps.getD t undef) | .cell p t => do loadVar t (← asAddr (act.tmps.getD p undef)) : Sem Value)).run P w = .ok vs w ∧ vs.length = xs.length ∧
      ∀ (i : Nat) (v : Value) (x : AV), vs[i]? = some v → xs[i]? = some x → VR π v x
  | [], xs, h => by cases h; exact ⟨[], by simp, rfl, by simp⟩
  | r :: rs, xs, h => by
    unfold allSome at h
    split at h
    · rename_i y l hy hl
      cases h
      obtain ⟨vs, h1, h2, h3⟩ := run_results hs ha rs l hl
      have hone : ∃ v, (match r with | .tmp t => pure (act.tmps.getD t undef) | .cell p t => do loadVar t (← asAddr (act.tmps.getD p undef)) : Sem Value).run P w = .ok v w ∧ VR π v y := by
        cases r with
        | tmp t => simp only [resA, Option.some.injEq] at hy; subst hy; exact ⟨_, rfl, ha.tmp t⟩
        | cell p t =>
          simp only [resA] at hy
          split at hy
          · rename_i cs hc
            have hv := ha.tmp p
            obtain ⟨u, e1, e2⟩ := run_loadAt (P := P) hs hv hc hy
            refine ⟨u, ?_, e2⟩
            have hptr : ∃ ad, act.tmps.getD p undef = .pointer (some ad) := by
              generalize act.tmps.getD p undef = v at hv
              generalize a.tmps.getD p undefA = z at hv hc
              cases hv <;> first
                | exact ⟨_, rfl⟩
                | (exfalso; simp [cellsAt] at hc; done)
            obtain ⟨ad, ead⟩ := hptr
            rw [ead] at e1
            simp only [ead, asAddr, Sem.run_bind, Sem.run_pure, Result.andThen_ok]
            simpa only [Instr.loadAt, Instr.sureAddr, Sem.run_bind, Sem.run_pure, Result.andThen_ok] using e1
          · cases hy
      obtain ⟨v, e1, e2⟩ := hone
      refine ⟨v :: vs, ?_, by simp [h2], ?_⟩
      · simp only [List.mapM_cons, Sem.run_bind, e1, Result.andThen_ok, h1, Sem.run_pure]
      · intro i u x hu hx
        cases i with
        | zero => simp at hu hx; subst hu; subst hx; exact e2
        | succ i => exact h3 i u x (by simpa using hu) (by simpa using hx)
    · cases h
theorem run_resultsA {b0 : Nat} {w0 : World} {π : Pi} {w : World} {act : Act} (hs : Sim b0 w0 π S w) (ha : ARel D π act a) {fn : Func} {rs : List ResultVar} (hrs : fn.results = rs.toArray) {x : AV} (h : resultsA S P a rs = some x) :
    ∃ v, (results fn act.tmps).run P w = .ok v w ∧ VR π v x := by
  unfold resultsA at h
  cases hall : allSome (resA S P a) rs with
  | none => simp [hall] at h
  | some l =>
    obtain ⟨vs, h1, h2, h3⟩ := run_results hs ha rs l hall
    have hm : (fn.results.mapM fun r => (match r with | .tmp t => pure (act.tmps.getD t undef) | .cell p t => do loadVar t (← asAddr (act.tmps.getD p undef)) : Sem Value)).run P w = .ok vs.toArray w := by
      rw [hrs, Array.mapM_eq_mapM_toList]
      simp only [Sem.run_map, h1, Result.andThen_ok]
    refine ⟨if h : vs.toArray.size = 1 then vs.toArray[0] else .tuple vs.toArray, ?_, ?_⟩
    · unfold results
      simp only [Sem.run_bind]
      erw [hm]
      rfl
    · rw [hall] at h
      cases l with
      | nil =>
        simp only [Option.some.injEq] at h
        subst h
        have : vs = [] := List.eq_nil_of_length_eq_zero h2
        subst this
        exact .tup _ _ rfl (by simp)
      | cons y l =>
        cases l with
        | nil =>
          simp only [Option.some.injEq] at h
          subst h
          match vs, h2, h3 with
          | [v], _, h3 => exact h3 0 v y rfl rfl
        | cons z l =>
          simp only [Option.some.injEq] at h
          subst h
          have hne : ¬ vs.toArray.size = 1 := by simp [h2]
          rw [dif_neg hne]
          exact .tup _ _ (by simp [h2]) (fun i v x hv hx => h3 i v x (by simpa using hv) hx)

/-- A call, by its body. -/
theorem ACall.body {f : FuncId} {fn : Func} {c : Code} {args : List AV} {R : AEnd → AS → Prop} {n : Nat} {rs : List ResultVar} (hf : P.funcs[f]? = some fn) (hb : fn.body = some c) (hn : fn.ntmps = n) (hrs : fn.results = rs.toArray)
    (h : AWp P c ⟨args ++ List.replicate (n - args.length) undefA⟩ S fun e a S' =>
      match e with
      | .normal | .ret => ∃ x, resultsA S' P a rs = some x ∧ R (.ret x) S'
      | .panic x => R (.panic x) S'
      | _ => False) : ACall P f args S R := by
  intro b0 w0 π w vs hs ha
  refine calls_of_wp hf hb ?_
  have hrel : ARel [] π { tmps := vs ++ Array.replicate (fn.ntmps - vs.size) undef, defers := [] } ⟨args ++ List.replicate (n - args.length) undefA⟩ := by
    refine ⟨?_, rfl⟩
    have h2 : PW π (Array.replicate (fn.ntmps - vs.size) undef) (List.replicate (n - args.length) undefA) := by
      refine ⟨by simp [hn, ha.1], fun i v x hv hx => ?_⟩
      simp only [Array.getElem?_replicate, List.getElem?_replicate] at hv hx
      split at hv
      · split at hx
        · cases hv; cases hx; exact .v _
        · cases hx
      · cases hv
    have := ha.append h2
    have e : vs ++ Array.replicate (fn.ntmps - vs.size) undef = (vs.toList ++ (Array.replicate (fn.ntmps - vs.size) undef).toList).toArray := by
      apply Array.ext'; simp
    rw [e]; exact this
  refine wp_mono (h [] b0 w0 π w _ hs hrel) ?_
  rintro e act' w' ⟨π', e', a', S', h1, h2, h3, h4, h5⟩
  cases e <;> cases e' <;> first
    | exact h4.elim
    | (obtain ⟨x, hx, hR⟩ := h5
       have h3' : ARel [] π' act' a' := h3
       obtain ⟨v, hv, hvr⟩ := run_resultsA (P := P) h2 h3' hrs hx
       exact ⟨h3'.defers, v, hv, π', .ret x, S', h1, h2, hvr, hR⟩)
    | exact ⟨ARel.defers (D := []) h3, π', .panic _, S', h1, h2, h4, h5⟩
    | exact h5.elim
end
end Go.Aw
