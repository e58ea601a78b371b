/- Regions whose order is open, jumps, lengths: told of abstract values. No condition: definitions and lemmas. -/
import Derived.Test.YtedicdnflpjhkaaDoorAA
import Derived.ScopeJumps
set_option linter.unusedVariables false
namespace Go.Aw
open Go.RowKit
variable {D : List Deferred}

section
variable {P : Program} {ops : Array Oper} {a : AAct} {S : AS} {Q : APost}

/-- No slice is longer than the machine's ints tell. -/
theorem AWp.slen {c : Code} {t : Tmp} {es : List (List AV)} {own : Option (Nat × Nat)} (ht : a.tmps[t]? = some (.sl es own)) (h : es.length ≤ maxLen → AWp P c a S Q) : AWp P c a S Q := by
  intro D b0 w0 π w act hs ha
  obtain ⟨v, hv, hr⟩ := ha.tmps.get ht
  have hl : es.length ≤ maxLen := by
    cases hr with
    | nilsl => exact Nat.zero_le _
    | sl ad n cap esz es own val hn hes hs hc hm => omega
  exact h hl D b0 w0 π w act hs ha
theorem AWp.strlen {c : Code} {t : Tmp} {l : List UInt8} (hl : l.length ≤ maxLen) (h : AWp P c a S Q) : AWp P c a S Q := h

def AAny (P : Program) (ops : Array Oper) (Q : APost) (fuel : Nat) (listed : Array Bool) (a : AAct) (S : AS) : Prop :=
  ∀ D b0 w0 π w act, Sim b0 w0 π S w → ARel D π act a → wpAny P .any ops (Post D b0 w0 π Q) fuel listed act w

theorem AWp.draw {id : Nat} (hm : P.follows .mixedOrders = true) (h : AAny P ops Q ops.size (Array.replicate ops.size false) a S) : AWp P (.region id ops true) a S Q :=
  fun D b0 w0 π w act hs ha => wp_region_any hm (h D b0 w0 π _ act hs.drew ha)
theorem AAny.done {listed : Array Bool} {fuel : Nat} (hr : Region.ready .any ops listed = []) (h : Q .normal a S) : AAny P ops Q fuel listed a S :=
  fun D b0 w0 π w act hs ha => wpAny_done hr ⟨π, .normal, a, S, Pi.le_refl π, hs, ha, trivial, h⟩ fuel

theorem wpAny_mono {Q Q' : Exit → Act → World → Prop} {md : Region.Mode} (hq : ∀ e a w, Q e a w → Q' e a w) : ∀ (fuel : Nat) (listed : Array Bool) (act : Act) (w : World), wpAny P md ops Q fuel listed act w → wpAny P md ops Q' fuel listed act w
  | 0, listed, act, w, h => ⟨h.1, hq _ _ _ h.2⟩
  | fuel + 1, listed, act, w, h => by
    refine ⟨fun h0 => hq _ _ _ (h.1 h0), fun i hi => ?_⟩
    have := h.2 i hi
    unfold wpOp at this ⊢
    split
    · rename_i ho; simp only [ho] at this; exact wpAny_mono hq fuel _ _ _ this
    · rename_i o ho
      simp only [ho] at this
      split
      · rename_i hw
        rw [if_pos hw] at this
        rcases this with h1 | ⟨h1, a', w', h2⟩
        · exact .inl (Oper.wp_mono2 (fun a w => wpAny_mono hq fuel _ a w) hq h1)
        · exact .inr ⟨h1, a', w', hq _ _ _ h2⟩
      · rename_i hw
        rw [if_neg hw] at this
        exact wpAny_mono hq fuel _ _ _ this

/-- What is left to show behind one operation of a region whose order is open. -/
def anyQ (P : Program) (ops : Array Oper) (Q : APost) (fuel : Nat) (listed : Array Bool) : APost := fun e a S =>
  match e with | .normal => AAny P ops Q fuel listed a S | .panic x => Q (.panic x) a S | _ => False
theorem AAny.step {i : Nat} {o : Oper} {fuel : Nat} {listed : Array Bool} (hi : ops[i]? = some o) (h : WL P ops (anyQ P ops Q fuel listed) [o] a S) :
    ∀ D b0 w0 π w act, Sim b0 w0 π S w → ARel D π act a → wpOp P ops (Post D b0 w0 π Q) i (wpAny P .any ops (Post D b0 w0 π Q) fuel listed) act w := by
  intro D b0 w0 π w act hs ha
  have hl := WL.sound _ _ _ h D b0 w0 π w act hs ha
  unfold wpList at hl
  unfold wpOp
  simp only [hi]
  have conv : ∀ act' w', Post D b0 w0 π (anyQ P ops Q fuel listed) .normal act' w' → wpAny P .any ops (Post D b0 w0 π Q) fuel listed act' w' := by
    rintro act' w' ⟨π', e', a', S', h1, h2, h3, h4, h5⟩
    cases e' <;> try exact h4.elim
    exact wpAny_mono (fun e a w p => Post.mono h1 p) fuel _ _ _ (h5 D b0 w0 π' w' act' h2 h3)
  have convQ : ∀ e act' w', e ≠ .normal → Post D b0 w0 π (anyQ P ops Q fuel listed) e act' w' → Post D b0 w0 π Q e act' w' := by
    rintro e act' w' hne ⟨π', e', a', S', h1, h2, h3, h4, h5⟩
    cases e <;> cases e' <;> first
      | exact h4.elim
      | exact absurd rfl hne
      | exact ⟨π', _, a', S', h1, h2, h3, h4, h5⟩
      | exact h5.elim
  have nopanic : ∀ act' w', ¬ Post D b0 w0 π (anyQ P ops Q fuel listed) .outgrown act' w' := by
    rintro act' w' ⟨π', e', a', S', h1, h2, h3, h4, h5⟩
    cases e' <;> exact h4
  split
  · rename_i hw
    rw [if_pos hw] at hl
    rcases hl with hl | ⟨_, a', w', hl⟩
    · left
      -- the exits of one operation are none but panics
      unfold Oper.wp at hl ⊢
      generalize (execOp act.eval o).run P w = r at hl ⊢
      cases r with
      | ok n w' =>
        cases n <;> simp only [Oper.upon] at hl ⊢ <;> first
          | exact conv _ _ hl
          | exact hl
          | exact Calls.mono hl (fun e w'' he => by
              cases e with
              | returned v => exact conv _ _ he
              | panicked ch => exact convQ _ _ _ (by simp) he
              | outgrown => obtain ⟨a', w', he⟩ := he; exact absurd he (nopanic a' w'))
          | exact Rows.mono hl (fun _ _ he => conv _ _ he)
      | halt x w' => cases x <;> simp only [Oper.upon] at hl ⊢ <;> first | exact hl | exact convQ _ _ _ (by simp) hl
    · exact absurd hl (nopanic a' w')
  · rename_i hw
    rw [if_neg hw] at hl
    exact conv _ _ hl
/-- All operations that may come next. -/
theorem AAny.all {rs : List Nat} {fuel : Nat} {listed : Array Bool} (hr : Region.ready .any ops listed = rs) (hne : rs ≠ [])
    (h : ∀ i ∈ rs, ∃ o, ops[i]? = some o ∧ WL P ops (anyQ P ops Q fuel (listed.setIfInBounds i true)) [o] a S) : AAny P ops Q (fuel + 1) listed a S := by
  intro D b0 w0 π w act hs ha
  refine wpAny_all hr hne fun i hi => ?_
  obtain ⟨o, ho, hw⟩ := h i hi
  exact AAny.step ho hw D b0 w0 π w act hs ha

/-- An operation that looks at no memory: what it makes. -/
def quietA (P : Program) (op : Op) (a : AAct) : Option AV :=
  match op with
  | .move x => some (a.get x)
  | .fieldAddr t x f => fieldA P t f (a.get x)
  | .binOp op t x y _ => (match a.get x, a.get y with
    | .v (.int k p), .v (.int k' q) => if k = k' ∧ op ≠ .quo ∧ op ≠ .rem then intBin op k p q else none
    | _, _ => none)
  | _ => none
theorem quiet_yields {π : Pi} {act : Act} (ha : ARel D π act a) {o : Oper} {x : AV} (hg : o.guard = none) (h : quietA P o.op a = some x) : ∃ v, Yields P ops o v act ∧ VR π v x := by
  have hw : Region.wanted o (yielded ops act.tmps) = true := by simp [Region.wanted, hg]
  unfold quietA at h
  split at h
  · rename_i y hop
    cases h
    exact ⟨act.eval y, .inl ⟨hw, fun w => by unfold execOp; rw [hop]; rfl⟩, ha.eval y⟩
  · rename_i t y f hop
    have hv := ha.eval y
    have hex : ∃ B off, act.eval y = .pointer (some ⟨B, off, none⟩) := by
      unfold fieldA at h
      split at h
      · split at h
        · split at h
          · cases h
          · generalize act.eval y = v at hv
            generalize a.get y = z at hv h
            cases hv <;> first | exact ⟨_, _, rfl⟩ | cases h
        · cases h
      · cases h
    obtain ⟨B, off, e⟩ := hex
    obtain ⟨u, hu, hr⟩ := run_fieldAt (P := P) (w := default) hv h
    have hall : ∀ w, (Instr.fieldAt t (act.eval y) f).run P w = .ok u w := by
      intro w
      obtain ⟨u', hu', hr'⟩ := run_fieldAt (P := P) (w := w) hv h
      have : u' = u := by
        unfold fieldA at h
        split at h
        · rename_i o' ft hf
          obtain ⟨fs, fd, hun, hfs, ho, ht⟩ := fieldD_parts hf
          split at h
          · rename_i bb n hk
            split at h
            · cases h
            · rename_i hn
              have hk' : tkind P fd.type = some (bb, n) := by rw [ht]; exact hk
              have run : ∀ w, (Instr.fieldAt t (.pointer (some ⟨B, off, none⟩)) f).run P w = .ok (.pointer (some ⟨B, off + o', none⟩)) w := by
                intro w
                simp only [Instr.fieldAt, Sem.run_bind, run_underlying hun, Result.andThen_ok, hfs, Instr.sureAddr, Sem.run_pure, fieldPlace, run_size hk']
                rw [if_neg hn]
                simp only [Sem.run_pure, Result.andThen_ok, add_off, ho]
              rw [e, run] at hu hu'
              cases hu; cases hu'; rfl
          · cases h
        · cases h
      rw [← this]; exact hu'
    exact ⟨u, .inl ⟨hw, fun w => by unfold execOp; rw [hop]; simp only [Sem.run_bind, hall w, Result.andThen_ok]; rfl⟩, hr⟩
  · rename_i op t y z yt hop
    split at h
    · rename_i k p k' q hy hz
      have h1 := ha.eval y
      have h2 := ha.eval z
      rw [hy] at h1
      rw [hz] at h2
      have e1 := h1.v_inv
      have e2 := h2.v_inv
      split at h
      · rename_i ek
        obtain ⟨ek, hq1, hq2⟩ := ek
        subst ek
        obtain ⟨u, hu, hr⟩ := run_intBin (P := P) (w := default) (t := t) (π := π) h
        have hall : ∀ w, (binOp op t (.int k p) (.int k q)).run P w = .ok u w := by
          intro w
          obtain ⟨u', hu', hr'⟩ := run_intBin (P := P) (w := w) (t := t) (π := π) h
          have : u' = u := by
            cases op <;> first
              | exact absurd rfl hq1
              | exact absurd rfl hq2
              | (simp only [intBin] at h; cases h; exact hr'.v_inv.trans hr.v_inv.symm)
              | cases h
          rw [← this]; exact hu'
        refine ⟨u, .inl ⟨hw, fun w => ?_⟩, hr⟩
        unfold execOp
        rw [hop]
        have hgd : (eqGuard op t y z (.int k p) (.int k q)).run P w = .ok () w := by cases op <;> rfl
        simp only [e1, e2, Sem.run_bind, hgd, Result.andThen_ok, hall w]; rfl
      · cases h
    · cases h
  · cases h

theorem ARel.unput {π : Pi} {act : Act} {a : AAct} {dst : Option Tmp} {v : Value} (h : ARel D π (act.put dst v) a) : ∃ a', ARel D π act a' := by
  cases dst with
  | none => exact ⟨a, h⟩
  | some d =>
    refine ⟨⟨a.tmps.set d (.v (act.tmps.getD d undef))⟩, ⟨?_, ?_⟩, h.defers⟩
    · have := h.tmps.1
      simpa [Act.put] using this
    · intro i x b hx hb
      rw [List.getElem?_set] at hb
      split at hb
      · rename_i e; subst e
        split at hb
        · cases hb
          have : act.tmps.getD d undef = x := by simp [Array.getD, (Array.getElem?_eq_some_iff.1 hx).1]; exact (Array.getElem?_eq_some_iff.1 hx).2
          rw [this]; exact .v x
        · cases hb
      · rename_i e
        exact h.tmps.2 i x b (by simp [Act.put, Array.getElem?_setIfInBounds, e, hx]) hb

/-- An operation that looks at no memory may come first. -/
theorem AAny.take {i : Nat} {o : Oper} {x : AV} {fuel : Nat} {listed : Array Bool} (hi : ops[i]? = some o) (hs : Region.noSelect ops = true) (hf : Region.free .any ops listed i = true)
    (hr : (Region.ready .any ops listed).contains i = true) (hg : o.guard = none) (hq : quietA P o.op a = some x)
    (h : AAny P ops Q fuel (listed.setIfInBounds i true) (a.put o.dst x) S) (hQ : ∀ y a a' S, Q (.panic y) a S → Q (.panic y) a' S) : AAny P ops Q (fuel + 1) listed a S := by
  intro D b0 w0 π w act hs' ha
  obtain ⟨v, hy, hv⟩ := quiet_yields (ops := ops) ha hg hq
  refine wpAny_take hi hs hf hr ?_ hy (h D b0 w0 π w _ hs' (ha.put o.dst hv))
  rintro c act' w' ⟨π', e', a', S', h1, h2, h3, h4, h5⟩
  cases e' <;> try exact h4.elim
  obtain ⟨a₂, h6⟩ := ARel.unput h3
  exact ⟨π', _, a₂, S', h1, h2, h6, h4, hQ _ _ _ _ h5⟩


/-! ### jumps -/
def Exit.jumpM (J : Nat → Act → World → Prop) (Q : Exit → Act → World → Prop) : Exit → Act → World → Prop
  | .goto l, a, w => J l a w
  | e, a, w => Q e a w
theorem wp_scope_many {Q : Exit → Act → World → Prop} {act : Act} {w : World} {c : Code} (J : Nat → Nat → Act → World → Prop) (first : c.wp P (Exit.jumpM (fun l a w => ∃ n, J l n a w) Q) act w)
    (pass : ∀ l n a w, J l n a w → ∃ rest, findLabel c l = some rest ∧ rest.wp P (Exit.jumpM (fun l' a' w' => ∃ n', n' < n ∧ J l' n' a' w') Q) a w) : (Code.scope c).wp P Q act w := by
  intro b k cs
  have key : ∀ n l rest a w, findLabel c l = some rest → J l n a w → ∃ e a' w', Q e a' w' ∧ Arrives P (lone (b.at a (.code rest :: .inScope c :: k)) cs w) b k cs e a' w' := by
    intro n
    induction n using Nat.strongRecOn with
    | _ n ih =>
      intro l rest a w hf hJ
      obtain ⟨rest', hf', hpass⟩ := pass l n a w hJ
      rw [hf] at hf'
      cases hf'
      obtain ⟨e, a₁, w₁, hq, harr⟩ := hpass b (.inScope c :: k) cs
      cases e with
      | normal => exact ⟨.normal, a₁, w₁, hq, Steps.trans harr (.one step_inScope)⟩
      | exit id => exact ⟨.exit id, a₁, w₁, hq, fun k' hk => harr k' (by simp [exitTo, hk])⟩
      | goto l' =>
        obtain ⟨n', hlt, hJ'⟩ := hq
        obtain ⟨rest2, hf2, _⟩ := pass l' n' a₁ w₁ hJ'
        have hg : gotoIn l' (.inScope c :: k) = some (.code rest2 :: .inScope c :: k) := by simp [gotoIn, hf2]
        obtain ⟨e₂, a₂, w₂, hq₂, harr₂⟩ := ih n' hlt l' rest2 a₁ w₁ hf2 hJ'
        exact ⟨e₂, a₂, w₂, hq₂, .of_steps (harr _ hg) harr₂⟩
      | ret => exact ⟨_, a₁, w₁, hq, harr⟩
      | panic ch => exact ⟨_, a₁, w₁, hq, harr⟩
      | outgrown => exact ⟨_, a₁, w₁, hq, harr⟩
  obtain ⟨e, a₁, w₁, hq, harr⟩ := first b (.inScope c :: k) cs
  cases e with
  | normal => exact ⟨.normal, a₁, w₁, hq, .head step_scope (Steps.trans harr (.one step_inScope))⟩
  | exit id => exact ⟨.exit id, a₁, w₁, hq, fun k' hk => .head step_scope (harr k' (by simp [exitTo, hk]))⟩
  | goto l' =>
    obtain ⟨n', hJ'⟩ := hq
    obtain ⟨rest2, hf2, _⟩ := pass l' n' a₁ w₁ hJ'
    have hg : gotoIn l' (.inScope c :: k) = some (.code rest2 :: .inScope c :: k) := by simp [gotoIn, hf2]
    obtain ⟨e₂, a₂, w₂, hq₂, harr₂⟩ := key n' l' rest2 a₁ w₁ hf2 hJ'
    exact ⟨e₂, a₂, w₂, hq₂, .of_steps (.head step_scope (harr _ hg)) harr₂⟩
  | ret => exact ⟨_, a₁, w₁, hq, .of_steps (.one step_scope) harr⟩
  | panic ch => exact ⟨_, a₁, w₁, hq, .of_steps (.one step_scope) harr⟩
  | outgrown => exact ⟨_, a₁, w₁, hq, .of_steps (.one step_scope) harr⟩
def AExit.jump (J : Nat → AAct → AS → Prop) (Q : APost) : APost
  | .goto l, a, S => J l a S
  | e, a, S => Q e a S
@[go_sem] theorem jump_normal (J : Nat → AAct → AS → Prop) : AExit.jump J Q .normal a S = Q .normal a S := _root_.id rfl
@[go_sem] theorem jump_ret (J : Nat → AAct → AS → Prop) : AExit.jump J Q .ret a S = Q .ret a S := _root_.id rfl
@[go_sem] theorem jump_exit (J : Nat → AAct → AS → Prop) (i : Nat) : AExit.jump J Q (.exit i) a S = Q (.exit i) a S := _root_.id rfl
@[go_sem] theorem jump_panic (J : Nat → AAct → AS → Prop) (x : AV) : AExit.jump J Q (.panic x) a S = Q (.panic x) a S := _root_.id rfl
@[go_sem] theorem jump_goto (J : Nat → AAct → AS → Prop) (l : Nat) : AExit.jump J Q (.goto l) a S = J l a S := _root_.id rfl
@[go_sem] theorem WC_scope (c : Code) : WC P (.scope c) Q a S = AWp P (.scope c) a S Q := _root_.id rfl
/-- Code with labels that is jumped about in: what holds at each jump, with a number that goes down. -/
theorem AWp.scope {c : Code} (J : Nat → Nat → AAct → AS → Prop) (first : AWp P c a S (AExit.jump (fun l a S => ∃ n, J l n a S) Q))
    (pass : ∀ l n a S, J l n a S → ∃ rest, findLabel c l = some rest ∧ AWp P rest a S (AExit.jump (fun l' a' S' => ∃ n', n' < n ∧ J l' n' a' S') Q)) : AWp P (.scope c) a S Q := by
  intro D b0 w0 π w act hs ha
  refine wp_scope_many (fun l n act w => ∃ π' a S, π.le π' ∧ Sim b0 w0 π' S w ∧ ARel D π' act a ∧ J l n a S) ?_ ?_
  · refine wp_mono (first D b0 w0 π w act hs ha) ?_
    rintro e act' w' ⟨π', e', a', S', h1, h2, h3, h4, h5⟩
    cases e <;> cases e' <;> first
      | exact h4.elim
      | (simp only [ERel] at h4; subst h4; obtain ⟨n, hJ⟩ := h5; exact ⟨n, π', a', S', h1, h2, h3, hJ⟩)
      | exact ⟨π', _, a', S', h1, h2, h3, h4, h5⟩
  · rintro l n act w ⟨π₁, a, S, hle, hs, ha, hJ⟩
    obtain ⟨rest, hf, hp⟩ := pass l n a S hJ
    refine ⟨rest, hf, wp_mono (hp D b0 w0 π₁ w act hs ha) ?_⟩
    rintro e act' w' ⟨π', e', a', S', h1, h2, h3, h4, h5⟩
    cases e <;> cases e' <;> first
      | exact h4.elim
      | (simp only [ERel] at h4; subst h4; obtain ⟨n', hlt, hJ⟩ := h5; exact ⟨n', hlt, π', a', S', Pi.le_trans hle h1, h2, h3, hJ⟩)
      | exact ⟨π', _, a', S', Pi.le_trans hle h1, h2, h3, h4, h5⟩

/-- A call that leaves the world alone, by what the machine does. -/
theorem ACall.of_calls {f : FuncId} {args : List AV} {r : AV} (h : ∀ (π : Pi) (w : World) (vs : Array Value), PW π vs args → Calls P f vs w fun e w' => ∃ v, e = .returned v ∧ VR π v r ∧ w' = w) :
    ACall P f args S fun e T => e = .ret r ∧ T = S := by
  intro b0 w0 π w vs hs ha
  refine (h π w vs ha).mono ?_
  rintro e w' ⟨v, rfl, hv, rfl⟩
  exact ⟨π, .ret r, S, Pi.le_refl π, hs, hv, rfl, rfl⟩
theorem PW.two {π : Pi} {vs : Array Value} {x y : AV} (h : PW π vs [x, y]) : ∃ u v, vs = #[u, v] ∧ VR π u x ∧ VR π v y := by
  obtain ⟨u, hu, h1⟩ := h.get (i := 0) rfl
  obtain ⟨v, hv, h2⟩ := h.get (i := 1) rfl
  refine ⟨u, v, ?_, h1, h2⟩
  apply Array.ext_getElem?
  intro i
  match i with
  | 0 => simpa using hu
  | 1 => simpa using hv
  | i + 2 => rw [Array.getElem?_eq_none (by rw [h.1]; simp)]; simp
theorem PW.one {π : Pi} {vs : Array Value} {x : AV} (h : PW π vs [x]) : ∃ u, vs = #[u] ∧ VR π u x := by
  obtain ⟨u, hu, h1⟩ := h.get (i := 0) rfl
  refine ⟨u, ?_, h1⟩
  apply Array.ext_getElem?
  intro i
  match i with
  | 0 => simpa using hu
  | i + 1 => rw [Array.getElem?_eq_none (by rw [h.1]; simp)]; simp
end
end Go.Aw
