/- Deferred calls and recover, told of abstract values. No condition: definitions and lemmas. -/
import Derived.Test.YtedicdnflpjhkaaDoorAC
import Derived.Recover
set_option linter.unusedVariables false
namespace Go.Aw
open Go.RowKit

inductive AMode where
  | ret
  | panic (x : AV)
def MRel (π : Pi) : FrameMode → AMode → Prop
  | .returning, .ret => True
  | .panicking ch, .panic x => ∃ v, ch = [{ v, recovered := false }] ∧ VR π v x
  | _, _ => False
/-- What a deferred call does, told of abstract values. -/
def ADefer (P : Program) (f : FuncId) (args : List AV) (m : AMode) (S : AS) (R : AMode → AS → Prop) : Prop :=
  ∀ b0 w0 π w vs u, Sim b0 w0 π S w → PW π vs args → MRel π u m → CallsD P f vs u w fun e u' w' => (∃ v, e = .returned v) ∧ ∃ π' m' S', π.le π' ∧ Sim b0 w0 π' S' w' ∧ MRel π' (settle u') m' ∧ R m' S'
theorem hrel_body {π : Pi} {vs : Array Value} {args : List AV} {fn : Func} {n : Nat} (hn : fn.ntmps = n) (ha : PW π vs args) :
    ARel [] π { tmps := vs ++ Array.replicate (fn.ntmps - vs.size) undef, defers := [] } ⟨args ++ List.replicate (n - args.length) undefA⟩ := by
  refine ⟨?_, rfl⟩
  have h2 : PW π (Array.replicate (fn.ntmps - vs.size) undef) (List.replicate (n - args.length) undefA) := by
    refine ⟨by simp [hn, ha.1], fun i v x hv hx => ?_⟩
    simp only [Array.getElem?_replicate, List.getElem?_replicate] at hv hx
    split at hv
    · split at hx
      · cases hv; cases hx; exact .v _
      · cases hx
    · cases hv
  have := ha.append h2
  have e : vs ++ Array.replicate (fn.ntmps - vs.size) undef = (vs.toList ++ (Array.replicate (fn.ntmps - vs.size) undef).toList).toArray := by
    apply Array.ext'; simp
  rw [e]; exact this
def modeV : AMode → AV
  | .ret => .v .nilIface
  | .panic x => x
/-- A deferred function that begins with 'recover' and comes to an end. -/
theorem ADefer.by_recover {P : Program} {f : FuncId} {fn : Func} {d e : Tmp} {id : Nat} {t1 t2 : TypeId} {p1 p2 : String} {a1 a2 : Array Edge} {rest : Code} {args : List AV} {m : AMode} {S : AS} {R : AS → Prop} {n : Nat}
    (hf : P.funcs[f]? = some fn)
    (hb : fn.body = some (.seq (.region id #[{ dst := some d, op := .call { callee := .builtin .recover, args := #[], argTypes := #[] }, type := t1, pos := p1, after := a1, guard := none },
      { dst := some e, op := .assign (.tmp d), type := t2, pos := p2, after := a2, guard := none }] false) rest))
    (hn : fn.ntmps = n) (hrs : fn.results = #[])
    (h : WC P rest (fun ex _ S' => match ex with | .normal | .ret => ∃ T, T.le S' ∧ R T | _ => False)
      (((AAct.mk (args ++ List.replicate (n - args.length) undefA)).put (some d) (modeV m)).put (some e) (((AAct.mk (args ++ List.replicate (n - args.length) undefA)).put (some d) (modeV m)).get (.tmp d))) S) :
    ADefer P f args m S (fun m' T => m' = .ret ∧ R T) := by
  intro b0 w0 π w vs u hs ha hm
  refine callsD_of_wpS hf hb fun c₀ cs hc => ?_
  have hrel := hrel_body hn ha
  have hrun : ∀ (ρ : Operand → Value) (w : World), (execOp ρ { dst := some d, op := .call { callee := .builtin .recover, args := #[], argTypes := #[] }, type := t1, pos := p1, after := a1, guard := none }).run P w = .ok .recover w := by
    intro ρ w; rfl
  have hcs : ∃ v cs' u', (match recoverD (c₀ :: cs) with | some (v, cs') => (v, cs') | none => (.nilIface, c₀ :: cs)) = (v, cs') ∧ cs' = { c₀ with mode := u' } :: cs ∧ settle u' = .returning ∧ VR π v (modeV m) := by
    cases u with
    | run => exact hm.elim
    | returning =>
      cases m with
      | panic x => exact hm.elim
      | ret => exact ⟨.nilIface, c₀ :: cs, .returning, by simp [recoverD, hc], by rw [← hc], rfl, .v _⟩
    | panicking ch =>
      cases m with
      | ret => exact hm.elim
      | panic x =>
        obtain ⟨v, rfl, hv⟩ := hm
        exact ⟨v, _, .panicking [{ v, recovered := true }], by simp only [recoverD, hc], rfl, rfl, hv⟩
  obtain ⟨v, cs', u', hc1, hc2, hc3, hc4⟩ := hcs
  refine wpS_seq (wpS_region ?_)
  have hw := WC.sound _ _ _ _ h [] b0 w0 π w _ hs ((hrel.put (some d) hc4).put (some e) ((hrel.put (some d) hc4).eval (.tmp d)))
  have key : rest.wpS P (bodyPostS P fn c₀ cs fun e' u' w' => (∃ v, e' = .returned v) ∧ ∃ π' m' S', π.le π' ∧ Sim b0 w0 π' S' w' ∧ MRel π' (settle u') m' ∧ m' = .ret ∧ R S')
      ((Act.put { tmps := vs ++ Array.replicate (fn.ntmps - vs.size) undef, defers := [] } (some d) v).put (some e) ((Act.put { tmps := vs ++ Array.replicate (fn.ntmps - vs.size) undef, defers := [] } (some d) v).eval (.tmp d))) cs' w := by
    refine wpS_of_wp (wp_mono hw ?_)
    rintro ex act' w' ⟨π', e', a', S', h1, h2, h3, h4, h5⟩
    cases ex <;> cases e' <;> first
      | exact h4.elim
      | (obtain ⟨T, hT, hR⟩ := h5
         have h3' : ARel [] π' act' a' := h3
         obtain ⟨r, hr, _⟩ := run_resultsA (P := P) (rs := []) h2 h3' (by rw [hrs]) rfl
         exact ⟨h3'.defers, u', hc2, r, hr, ⟨r, rfl⟩, π', .ret, T, h1, h2.le hT, by rw [hc3]; trivial, rfl, hR⟩)
      | exact h5.elim
  show wpOpsS P _ _ [0, 1] _ _ _
  unfold wpOpsS
  simp only [List.getElem?_toArray, List.getElem?_cons_zero]
  rw [if_pos (by rfl)]
  simp only [hrun]
  have fin : ∀ (v : Value) (cs' : List Frame), rest.wpS P (bodyPostS P fn c₀ cs fun e' u' w' => (∃ v, e' = .returned v) ∧ ∃ π' m' S', π.le π' ∧ Sim b0 w0 π' S' w' ∧ MRel π' (settle u') m' ∧ m' = .ret ∧ R S')
      ((Act.put { tmps := vs ++ Array.replicate (fn.ntmps - vs.size) undef, defers := [] } (some d) v).put (some e) ((Act.put { tmps := vs ++ Array.replicate (fn.ntmps - vs.size) undef, defers := [] } (some d) v).eval (.tmp d))) cs' w →
      wpOpsS P #[{ dst := some d, op := .call { callee := .builtin .recover, args := #[], argTypes := #[] }, type := t1, pos := p1, after := a1, guard := none }, { dst := some e, op := .assign (.tmp d), type := t2, pos := p2, after := a2, guard := none }]
        (Exit.thenS (rest.wpS P (bodyPostS P fn c₀ cs fun e' u' w' => (∃ v, e' = .returned v) ∧ ∃ π' m' S', π.le π' ∧ Sim b0 w0 π' S' w' ∧ MRel π' (settle u') m' ∧ m' = .ret ∧ R S')) (bodyPostS P fn c₀ cs fun e' u' w' => (∃ v, e' = .returned v) ∧ ∃ π' m' S', π.le π' ∧ Sim b0 w0 π' S' w' ∧ MRel π' (settle u') m' ∧ m' = .ret ∧ R S')) [1]
        (Act.put { tmps := vs ++ Array.replicate (fn.ntmps - vs.size) undef, defers := [] } (some d) v) cs' w := by
    intro v cs' hk
    unfold wpOpsS
    simp only [List.getElem?_toArray, List.getElem?_cons_zero, List.getElem?_cons_succ]
    rw [if_pos (by rfl)]
    exact hk
  cases hrc : recoverD (c₀ :: cs) with
  | none => rw [hrc] at hc1; cases hc1; exact fin _ _ key
  | some q => obtain ⟨q1, q2⟩ := q; rw [hrc] at hc1; cases hc1; exact fin _ _ key
/-- What a function's end comes to. -/
def Ends (P : Program) (rs : List ResultVar) (R : AEnd → AS → Prop) (a : AAct) (S : AS) : Prop :=
  ∃ x T, resultsA S P a rs = some x ∧ T.le S ∧ (R (.ret x) T ∨ R (.ret x.shut) T)
/-- What the code of a function with at most one deferred call must come to. -/
def DPost (P : Program) (rs : List ResultVar) (R : AEnd → AS → Prop) (b0 : Nat) (w0 : World) (π : Pi) (e : Exit) (act : Act) (w : World) : Prop :=
  ∃ π' a S', π.le π' ∧ Sim b0 w0 π' S' w ∧ ARel act.defers π' act a ∧
    ((act.defers = [] ∧ (e = .normal ∨ e = .ret) ∧ Ends P rs R a S') ∨
     (∃ g capv cap m u, act.defers = [{ target := .fn (.func g) capv, args := #[] }] ∧ okF P g = true ∧ PW π' capv cap ∧ (((e = .normal ∨ e = .ret) ∧ u = .returning) ∨ ∃ ch, e = .panic ch ∧ u = .panicking ch) ∧ MRel π' u m ∧
        ADefer P g cap m S' (fun m' T => m' = .ret ∧ Ends P rs R a T)))
theorem ends_rel {P : Program} {fn : Func} {rs : List ResultVar} {R : AEnd → AS → Prop} {b0 : Nat} {w0 : World} {D : List Deferred} {π : Pi} {w : World} {act : Act} {a : AAct} {S : AS} (hrs : fn.results = rs.toArray)
    (hs : Sim b0 w0 π S w) (ha : ARel D π act a) (h : Ends P rs R a S) : ∃ v, (results fn act.tmps).run P w = .ok v w ∧ ∃ r T, Sim b0 w0 π T w ∧ EndRel π (.returned v) r ∧ R r T := by
  obtain ⟨x, T, h1, h2, h3⟩ := h
  obtain ⟨v, hv, hvr⟩ := run_resultsA (P := P) hs ha hrs h1
  rcases h3 with h3 | h3
  · exact ⟨v, hv, .ret x, T, hs.le h2, hvr, h3⟩
  · exact ⟨v, hv, .ret x.shut, T, hs.le h2, VR.shut hvr, h3⟩
theorem ACall.body_defer {P : Program} {f : FuncId} {fn : Func} {c : Code} {args : List AV} {S : AS} {R : AEnd → AS → Prop} {n : Nat} {rs : List ResultVar} (hf : P.funcs[f]? = some fn) (hb : fn.body = some c) (hn : fn.ntmps = n) (hrs : fn.results = rs.toArray)
    (h : ∀ b0 w0 π w act, Sim b0 w0 π S w → ARel [] π act ⟨args ++ List.replicate (n - args.length) undefA⟩ → c.wp P (DPost P rs R b0 w0 π) act w) : ACall P f args S R := by
  intro b0 w0 π w vs hs ha
  refine calls_of_wp_defers hf hb (wp_mono (h b0 w0 π w _ hs (hrel_body hn ha)) ?_)
  rintro e act w' ⟨π', a, S', hle, hs', ha', hcase⟩
  have main : ∀ u : FrameMode, (((e = .normal ∨ e = .ret) ∧ u = .returning) ∨ ∃ ch, e = .panic ch ∧ u = .panicking ch) →
      Leaves P fn act.tmps (fun e w' => ∃ π' r S', π.le π' ∧ Sim b0 w0 π' S' w' ∧ EndRel π' e r ∧ R r S') act.defers u w' := by
    intro u hu
    rcases hcase with ⟨hd, he, hE⟩ | ⟨g, capv, cap, m, u', hd, hok, hcap, hu', hm, hD⟩
    · have hur : u = .returning := by
        rcases hu with ⟨_, h⟩ | ⟨ch, h, _⟩
        · exact h
        · rcases he with he | he <;> rw [he] at h <;> cases h
      subst hur
      rw [hd]
      obtain ⟨v, hv, r, T, h1, h2, h3⟩ := ends_rel hrs hs' ha' hE
      exact ⟨v, hv, π', r, T, hle, h1, h2, h3⟩
    · have huu : u' = u := by
        rcases hu with ⟨h1, rfl⟩ | ⟨ch, h1, rfl⟩ <;> rcases hu' with ⟨h2, rfl⟩ | ⟨ch', h2, rfl⟩
        · rfl
        · rw [h2] at h1; rcases h1 with h | h <;> cases h
        · rw [h1] at h2; rcases h2 with h | h <;> cases h
        · rw [h1] at h2; cases h2; rfl
      subst huu
      rw [hd]
      have hne : u' ≠ .run := by
        intro e; subst e; exact hm.elim
      refine leaves_cons (f := g) (args := capv) hne ?_ ((hD b0 w0 π' w' capv u' hs' hcap hm).mono ?_)
      · have := run_callFunc (P := P) (w := w') (f := g) (args := capv) hok
        simpa [invoke] using this
      · rintro e2 u2 w2 ⟨⟨v, rfl⟩, π2, m2, S2, h1, h2, h3, rfl, hE⟩
        have hset : settle u2 = .returning := by
          generalize settle u2 = z at h3
          cases z with
          | returning => rfl
          | run => exact h3.elim
          | panicking ch => exact h3.elim
        show Leaves P fn act.tmps _ [] (settle u2) w2
        rw [hset]
        obtain ⟨v, hv, r, T, h4, h5, h6⟩ := ends_rel hrs h2 (ha'.mono h1) hE
        exact ⟨v, hv, π2, r, T, Pi.le_trans hle h1, h4, h5, h6⟩
  cases e with
  | normal => exact main _ (.inl ⟨.inl rfl, rfl⟩)
  | ret => exact main _ (.inl ⟨.inr rfl, rfl⟩)
  | panic ch => exact main _ (.inr ⟨ch, rfl, rfl⟩)
  | exit id => rcases hcase with ⟨_, h | h, _⟩ | ⟨_, _, _, _, _, _, _, _, ⟨h | h, _⟩ | ⟨_, h, _⟩, _⟩ <;> cases h
  | goto l => rcases hcase with ⟨_, h | h, _⟩ | ⟨_, _, _, _, _, _, _, _, ⟨h | h, _⟩ | ⟨_, h, _⟩, _⟩ <;> cases h
  | outgrown => rcases hcase with ⟨_, h | h, _⟩ | ⟨_, _, _, _, _, _, _, _, ⟨h | h, _⟩ | ⟨_, h, _⟩, _⟩ <;> cases h
/-- A function is made and deferred. -/
theorem wp_makedefer {P : Program} {id g d : Nat} {t1 t2 : TypeId} {p1 p2 : String} {a1 a2 : Array Edge} {caps : Array Operand} {Q : Exit → Act → World → Prop} {π : Pi} {act : Act} {a : AAct} {w : World} (ha : ARel [] π act a) (hd : d < a.tmps.length)
    (h : ∀ capv act', PW π capv (caps.toList.map a.get) → ARel [{ target := .fn (.func g) capv, args := #[] }] π act' (a.put (some d) (.fn (.func g) (caps.toList.map a.get))) → Q .normal act' w) :
    (Code.region id #[{ dst := some d, op := .makeFunc (.func g) #[] caps, type := t1, pos := p1, after := a1, guard := none }, { dst := none, op := .defer { callee := .value (.tmp d), args := #[], argTypes := #[] }, type := t2, pos := p2, after := a2, guard := none }] false).wp P Q act w := by
  refine wp_region_lit (wpList_inl (by rfl) ?_)
  have hcap : PW π (caps.map act.eval) (caps.toList.map a.get) := ha.args caps
  have h1 : (execOp act.eval { dst := some d, op := .makeFunc (.func g) #[] caps, type := t1, pos := p1, after := a1, guard := none }).run P w = .ok (.value (.func (.func g) #[] (caps.map act.eval))) w := by
    unfold execOp; simp [Instr.makeFunc]
  unfold Oper.wp
  rw [h1, Oper.upon_value]
  refine wpList_inl (by rfl) ?_
  have hd' : d < act.tmps.size := by rw [ha.tmps.1]; exact hd
  have hev : (act.put (some d) (.func (.func g) #[] (caps.map act.eval))).eval (.tmp d) = .func (.func g) #[] (caps.map act.eval) := by
    simp [Act.put, Act.eval, Array.getD, hd']
  have h2 : (execOp (act.put (some d) (.func (.func g) #[] (caps.map act.eval))).eval { dst := none, op := .defer { callee := .value (.tmp d), args := #[], argTypes := #[] }, type := t2, pos := p2, after := a2, guard := none }).run P w = .ok (.defer { target := .fn (.func g) (caps.map act.eval), args := #[] }) w := by
    unfold execOp; simp [resolve, hev, Deferred.ofValue]
  unfold Oper.wp
  rw [h2, Oper.upon_defer]
  have hput := ha.put (some d) (x := .func (.func g) #[] (caps.map act.eval)) (y := .fn (.func g) (caps.toList.map a.get)) (.fn _ _ _ hcap.1 hcap.2)
  refine h (caps.map act.eval) _ hcap ⟨hput.tmps, ?_⟩
  show _ :: act.defers = _
  rw [ha.defers]
/-- Code of a function with at most one deferred call, ahead of it. -/
def CWp (P : Program) (rs : List ResultVar) (R : AEnd → AS → Prop) (c : Code) (a : AAct) (S : AS) : Prop :=
  ∀ b0 w0 π w act, Sim b0 w0 π S w → ARel [] π act a → c.wp P (DPost P rs R b0 w0 π) act w
theorem DPost.mono {P : Program} {rs : List ResultVar} {R : AEnd → AS → Prop} {b0 : Nat} {w0 : World} {π π' : Pi} (h : π.le π') {e : Exit} {act : Act} {w : World} (p : DPost P rs R b0 w0 π' e act w) : DPost P rs R b0 w0 π e act w := by
  obtain ⟨p1, a, S, h1, h2⟩ := p
  exact ⟨p1, a, S, Pi.le_trans h h1, h2⟩
def CPost (P : Program) (rs : List ResultVar) (R : AEnd → AS → Prop) : APost := fun e a S => match e with | .ret => Ends P rs R a S | _ => False
theorem CWp.seq {P : Program} {rs : List ResultVar} {R : AEnd → AS → Prop} {x y : Code} {a : AAct} {S : AS} (h : WC P x (AExit.then (fun a S => CWp P rs R y a S) (CPost P rs R)) a S) : CWp P rs R (.seq x y) a S := by
  intro b0 w0 π w act hs ha
  refine wp_seq (wp_mono (WC.sound _ _ _ _ h [] b0 w0 π w act hs ha) ?_)
  rintro e act' w' ⟨π', e', a', S', h1, h2, h3, h4, h5⟩
  have h3' : ARel [] π' act' a' := h3
  cases e <;> cases e' <;> first
    | exact h4.elim
    | exact wp_mono (h5 b0 w0 π' w' act' h2 h3') (fun e a w p => DPost.mono h1 p)
    | exact ⟨π', a', S', h1, h2, by rw [h3'.defers]; exact h3', .inl ⟨h3'.defers, .inr rfl, h5⟩⟩
    | exact h5.elim
def QDefer (P : Program) (rs : List ResultVar) (R : AEnd → AS → Prop) (g : FuncId) (cap : List AV) : APost := fun e a S => match e with
  | .normal | .ret => ADefer P g cap .ret S (fun m T => m = .ret ∧ Ends P rs R a T)
  | .panic x => ADefer P g cap (.panic x) S (fun m T => m = .ret ∧ Ends P rs R a T)
  | _ => False
theorem CWp.defer {P : Program} {rs : List ResultVar} {R : AEnd → AS → Prop} {y : Code} {a : AAct} {S : AS} {id g d : Nat} {t1 t2 : TypeId} {p1 p2 : String} {a1 a2 : Array Edge} {caps : Array Operand} (hd : d < a.tmps.length) (hok : okF P g = true)
    (h : AWp P y (a.put (some d) (.fn (.func g) (caps.toList.map a.get))) S (QDefer P rs R g (caps.toList.map a.get))) :
    CWp P rs R (.seq (.region id #[{ dst := some d, op := .makeFunc (.func g) #[] caps, type := t1, pos := p1, after := a1, guard := none }, { dst := none, op := .defer { callee := .value (.tmp d), args := #[], argTypes := #[] }, type := t2, pos := p2, after := a2, guard := none }] false) y) a S := by
  intro b0 w0 π w act hs ha
  refine wp_seq (wp_makedefer ha hd fun capv act' hcap ha' => ?_)
  refine wp_mono (h _ b0 w0 π w act' hs ha') ?_
  rintro e act2 w' ⟨π', e', a', S', h1, h2, h3, h4, h5⟩
  have h3' : ARel _ π' act2 a' := h3
  cases e <;> cases e' <;> first
    | exact h4.elim
    | exact ⟨π', a', S', h1, h2, by rw [h3'.defers]; exact h3', .inr ⟨g, capv, _, .ret, .returning, h3'.defers, hok, hcap.mono h1, .inl ⟨by first | exact .inl rfl | exact .inr rfl, rfl⟩, trivial, h5⟩⟩
    | (obtain ⟨v, rfl, hv⟩ := h4
       exact ⟨π', a', S', h1, h2, by rw [h3'.defers]; exact h3', .inr ⟨g, capv, _, .panic _, .panicking _, h3'.defers, hok, hcap.mono h1, .inr ⟨_, rfl, rfl⟩, ⟨v, rfl, hv⟩, h5⟩⟩)
    | exact h5.elim
theorem ACall.by_defer {P : Program} {f : FuncId} {fn : Func} {c : Code} {args : List AV} {S : AS} {R : AEnd → AS → Prop} {n : Nat} {rs : List ResultVar} (hf : P.funcs[f]? = some fn) (hb : fn.body = some c) (hn : fn.ntmps = n) (hrs : fn.results = rs.toArray)
    (h : CWp P rs R c ⟨args ++ List.replicate (n - args.length) undefA⟩ S) : ACall P f args S R := ACall.body_defer hf hb hn hrs h
section
variable {P : Program} {rs : List ResultVar} {R : AEnd → AS → Prop} {g : FuncId} {cap : List AV} {a : AAct} {S : AS} {x : AV}
@[go_sem] theorem CPost_ret : CPost P rs R .ret a S = Ends P rs R a S := _root_.id rfl
@[go_sem] theorem CPost_panic : CPost P rs R (.panic x) a S = False := _root_.id rfl
@[go_sem] theorem QDefer_ret : QDefer P rs R g cap .ret a S = ADefer P g cap .ret S (fun m T => m = .ret ∧ Ends P rs R a T) := _root_.id rfl
@[go_sem] theorem QDefer_panic : QDefer P rs R g cap (.panic x) a S = ADefer P g cap (.panic x) S (fun m T => m = .ret ∧ Ends P rs R a T) := _root_.id rfl
@[go_sem] theorem QDefer_normal : QDefer P rs R g cap .normal a S = ADefer P g cap .ret S (fun m T => m = .ret ∧ Ends P rs R a T) := _root_.id rfl
end
theorem QDefer.panic {P : Program} {rs : List ResultVar} {R : AEnd → AS → Prop} {g : FuncId} {cap : List AV} {a : AAct} {S : AS} {x : AV} (h : ADefer P g cap (.panic x) S (fun m T => m = .ret ∧ Ends P rs R a T)) : QDefer P rs R g cap (.panic x) a S := h
theorem ADefer.mono {P : Program} {f : FuncId} {args : List AV} {m : AMode} {S : AS} {R R' : AMode → AS → Prop} (h : ADefer P f args m S R) (hr : ∀ m S, R m S → R' m S) : ADefer P f args m S R' :=
  fun b0 w0 π w vs u hs ha hm => (h b0 w0 π w vs u hs ha hm).mono fun _ _ _ ⟨h1, π', m', S', h2, h3, h4, h5⟩ => ⟨h1, π', m', S', h2, h3, h4, hr _ _ h5⟩
theorem ADefer.less {P : Program} {f : FuncId} {args : List AV} {m : AMode} {S T : AS} {R : AMode → AS → Prop} (hle : S.le T) (h : ADefer P f args m S R) : ADefer P f args m T R :=
  fun b0 w0 π w vs u hs ha hm => h b0 w0 π w vs u (hs.le hle) ha hm
end Go.Aw
