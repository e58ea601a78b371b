/- Maps and rows of the call's own: what each operation does. No condition: definitions and lemmas. -/
import Derived.Test.YtedicdnflpjhkaaDoorA5
import Derived.Test.YtedicdnflpjhkaaDoorAK
import Derived.Laws.MakeOwn
import Derived.Maps.RangeRun
set_option linter.unusedVariables false
namespace Go.Aw
open Go.RowKit

abbrev Ent := Key × AV × Nat
def findE (κ : Key) : List Ent → Option AV
  | [] => none
  | p :: r => if p.1 = κ then some p.2.1 else findE κ r
def putE (κ : Key) (v : AV) (c : Nat) : List Ent → List Ent
  | [] => [(κ, v, c)]
  | p :: r => if p.1 = κ then (p.1, v, p.2.2) :: r else p :: putE κ v c r
def findI (κ : Key) : List Ent → List MapEntry → Nat → Option (Nat × Value)
  | p :: r, e :: l, i => if p.1 = κ then some (i, e.val) else findI κ r l (i + 1)
  | _, _, _ => none
def ERel' (π : Pi) (es : List MapEntry) (ents : List Ent) : Prop := es.length = ents.length ∧ ∀ (i : Nat) (e : MapEntry) (p : Ent), es[i]? = some e → ents[i]? = some p → e.key = p.1.val ∧ VR π e.val p.2.1 ∧ e.born = p.2.2
theorem ERel'.cons {π : Pi} {e : MapEntry} {p : Ent} {es : List MapEntry} {ents : List Ent} : ERel' π (e :: es) (p :: ents) ↔ (e.key = p.1.val ∧ VR π e.val p.2.1 ∧ e.born = p.2.2) ∧ ERel' π es ents := by
  constructor
  · rintro ⟨h1, h2⟩
    exact ⟨h2 0 e p rfl rfl, by simpa using h1, fun i e' p' he hp => h2 (i + 1) e' p' (by simpa using he) (by simpa using hp)⟩
  · rintro ⟨h0, h1, h2⟩
    refine ⟨by simp [h1], fun i e' p' he hp => ?_⟩
    cases i with
    | zero => simp at he hp; subst he; subst hp; exact h0
    | succ i => exact h2 i e' p' (by simpa using he) (by simpa using hp)
theorem ERel'.nil {π : Pi} : ERel' π [] [] := ⟨rfl, by simp⟩

section
variable {P : Program} {π : Pi} {w : World} {t : TypeId}
theorem findI_look {κ : Key} : ∀ {ents : List Ent} {es : List MapEntry} (i : Nat), ERel' π es ents →
    (findI κ ents es i = none ∧ findE κ ents = none ∧ ∀ (v : AV) (c : Nat), putE κ v c ents = ents ++ [(κ, v, c)]) ∨
    (∃ j v av, findI κ ents es i = some (i + j, v) ∧ findE κ ents = some av ∧ VR π v av ∧ (∃ e, es[j]? = some e ∧ e.key = κ.val) ∧
      ∀ (nv : Value) (nav : AV) (c : Nat), VR π nv nav → ERel' π (es.modify j fun e => { e with key := κ.val, val := nv }) (putE κ nav c ents) ∧ (putE κ nav c ents).map (·.2.2) = ents.map (·.2.2))
  | [], es, i, h => by
    have : es = [] := List.eq_nil_of_length_eq_zero h.1
    subst this
    exact .inl ⟨rfl, rfl, fun _ _ => rfl⟩
  | p :: r, [], i, h => by have := h.1; simp at this
  | p :: r, e :: l, i, h => by
    obtain ⟨⟨h1, h2, h3⟩, h4⟩ := ERel'.cons.1 h
    by_cases hp : p.1 = κ
    · right
      refine ⟨0, e.val, p.2.1, by simp [findI, hp], by simp [findE, hp], h2, ⟨e, rfl, by rw [h1, hp]⟩, fun nv nav c hnv => ⟨?_, ?_⟩⟩
      · simp only [List.modify_zero_cons, putE, hp, if_true]
        exact ERel'.cons.2 ⟨⟨rfl, hnv, h3⟩, h4⟩
      · simp [putE, hp]
    · rcases findI_look (κ := κ) (i + 1) h4 with ⟨e1, e2, e3⟩ | ⟨j, v, av, e1, e2, e3, e4, e5⟩
      · left
        exact ⟨by simp [findI, hp, e1], by simp [findE, hp, e2], fun v c => by simp [putE, hp, e3]⟩
      · right
        refine ⟨j + 1, v, av, by simp [findI, hp, e1]; omega, by simp [findE, hp, e2], e3, by simpa using e4, fun nv nav c hnv => ?_⟩
        obtain ⟨e6, e7⟩ := e5 nv nav c hnv
        refine ⟨?_, by simp [putE, hp, e7]⟩
        simp only [List.modify_succ_cons, putE, hp, if_false]
        exact ERel'.cons.2 ⟨⟨h1, h2, h3⟩, e6⟩
theorem sameNow_key {κ κ' : Key} {d : TypeDesc} (hu : P.underlying t = some d) (h : keyD P t κ = true) (h' : keyD P t κ' = true) : Instr.sameNow d κ.val κ'.val = none ∨ Instr.sameNow d κ.val κ'.val = some (decide (κ = κ')) := by
  cases κ with
  | agg cs => left; cases d <;> rfl
  | one c =>
    cases κ' with
    | agg cs => left; cases c <;> cases d <;> rfl
    | one c' =>
      unfold keyD at h h'
      split at h
      · rename_i sh b n hs hk
        simp only [hs, hk, Bool.and_eq_true, decide_eq_true_eq, Key.cells, List.map_cons, List.map_nil] at h h'
        have hkk : c.kind = c'.kind := by
          have := h.2.trans h'.2.symm
          simpa using this
        cases c <;> cases c' <;> simp [Key1.kind] at hkk <;> cases d <;> first
          | (left; rfl)
          | (right; subst hkk; simp only [Key.val, Key1.val, Instr.sameNow, if_true]; rename_i a b _; by_cases hab : a = b <;> simp [hab]; done)
          | (right; simp only [Key.val, Key1.val, Instr.sameNow]; rename_i a b; by_cases hab : a = b
             · subst hab; simp; try (rw [beq_toListBytes, toList_inj]; simp)
             · simp only [hab, Key.one.injEq, Key1.str.injEq, Key1.bool.injEq, decide_false, Option.some.injEq]
               first
                 | (cases a <;> cases b <;> first | rfl | exact absurd rfl hab)
                 | (rw [beq_toListBytes, toList_inj]; simp [hab]))
      · cases h
theorem findNow_key {κ : Key} {d : TypeDesc} (hu : P.underlying t = some d) (hκ : keyD P t κ = true) : ∀ {ents : List Ent} {es : List MapEntry} (i : Nat), ERel' π es ents → (∀ p ∈ ents, keyD P t p.1 = true) →
    Instr.findNow d κ.val es i = none ∨ Instr.findNow d κ.val es i = some (findI κ ents es i)
  | [], es, i, h, hall => by
    have : es = [] := List.eq_nil_of_length_eq_zero h.1
    subst this; right; rfl
  | p :: r, [], i, h, hall => by have := h.1; simp at this
  | p :: r, e :: l, i, h, hall => by
    obtain ⟨⟨h1, h2, h3⟩, h4⟩ := ERel'.cons.1 h
    unfold Instr.findNow
    rw [h1]
    rcases sameNow_key hu hκ (hall p (by simp)) with e1 | e1 <;> rw [e1]
    · left; rfl
    · by_cases hp : κ = p.1
      · right; simp [hp, findI]
      · have hp' : ¬ p.1 = κ := fun e => hp e.symm
        simp only [hp, decide_false, findI, hp', if_false]
        exact findNow_key hu hκ (i + 1) h4 (fun q hq => hall q (by simp [hq]))
theorem findAsking_key {κ : Key} (hκ : keyD P t κ = true) : ∀ {ents : List Ent} {es : List MapEntry} (i : Nat), ERel' π es ents → (∀ p ∈ ents, keyD P t p.1 = true) → (Instr.findAsking t κ.val es i).run P w = .ok (findI κ ents es i) w
  | [], es, i, h, hall => by
    have : es = [] := List.eq_nil_of_length_eq_zero h.1
    subst this; rfl
  | p :: r, [], i, h, hall => by have := h.1; simp at this
  | p :: r, e :: l, i, h, hall => by
    obtain ⟨⟨h1, h2, h3⟩, h4⟩ := ERel'.cons.1 h
    unfold Instr.findAsking
    rw [h1]
    simp only [Sem.run_bind, run_equal_key hκ (hall p (by simp)), Result.andThen_ok]
    by_cases hp : κ = p.1
    · simp [hp, findI]
    · have hp' : ¬ p.1 = κ := fun e => hp e.symm
      simp only [hp, decide_false, findI, hp', if_false, Bool.false_eq_true]
      exact findAsking_key hκ (i + 1) h4 (fun q hq => hall q (by simp [hq]))
theorem run_findKey {κ : Key} {ents : List Ent} {es : List MapEntry} (hκ : keyD P t κ = true) (h : ERel' π es ents) (hall : ∀ p ∈ ents, keyD P t p.1 = true) : (Instr.findKey t κ.val es).run P w = .ok (findI κ ents es 0) w := by
  have hu : ∃ d, P.underlying t = some d := by
    unfold keyD at hκ
    split at hκ
    · rename_i sh b n hs hk
      obtain ⟨d, i, hu, _⟩ := tkind_parts hk
      exact ⟨d, hu⟩
    · cases hκ
  obtain ⟨d, hu⟩ := hu
  unfold Instr.findKey
  simp only [Sem.run_bind, run_underlying hu, Result.andThen_ok]
  rcases findNow_key (π := π) hu hκ 0 h hall with e1 | e1 <;> rw [e1]
  · exact findAsking_key hκ 0 h hall
  · rfl
/-- A key of these types may always be one. -/
theorem run_checkFields {d : Nat} {b : Bool} {f : TypeId → Option (List K1)}
    (ih : ∀ t sh, f t = some sh → ∀ (w : World) (e : Nat) (x : List Key1) (ag : Bool) (n : Nat), tkind P t = some (ag, n) → n = sh.length → (ag = false → n = 1) → x.map Key1.kind = sh → (Instr.checkKey b (e + d) t (keyV ag x).val).run P w = .ok () w) :
    ∀ (fs : List Field) (off : Nat) (sh : List K1), shapeFs P f fs off = some sh → ∀ (w : World) (e : Nat) (p x : List Key1), p.length = off → x.map Key1.kind = sh →
      (forIn fs PUnit.unit (fun (fd : Field) (_ : PUnit) => if fd.name ≠ "_" then (do
          let a ← part fd.type ((p ++ x).map Key1.val).toArray fd.offset
          Instr.checkKey b (e + d) fd.type a
          pure (ForInStep.yield PUnit.unit)) else pure (ForInStep.yield PUnit.unit)) : Sem PUnit).run P w = .ok PUnit.unit w
  | [], off, sh, h, w, e, p, x, hp, hx => by simp
  | fd :: r, off, sh, h, w, e, p, x, hp, hx => by
    unfold shapeFs at h
    split at h
    · cases h
    · rename_i hne
      simp only [not_or, ne_eq, Decidable.not_not] at hne
      obtain ⟨hnm, hoff⟩ := hne
      split at h
      · rename_i sh1 ag n hf hk
        split at h
        · rename_i hn
          split at h
          · rename_i l hl
            cases h
            obtain ⟨hn1, hn2⟩ := hn
            obtain ⟨x1, x2, rfl, ex1, ex2⟩ := List.map_eq_append_iff.1 hx
            have lx : x1.length = n := by rw [hn1, ← ex1]; simp
            have p1 := run_part_key (w := w) hk p x1 x2 (by rw [hp, ← hoff]) lx hn2
            have hc := ih fd.type sh1 hf w e x1 ag n hk hn1 hn2 ex1
            have ihr := run_checkFields ih r (off + sh1.length) l hl w e (p ++ x1) x2 (by simp [hp, lx, hn1]) ex2
            rw [List.append_assoc] at p1 ihr
            rw [List.forIn_cons]
            simp only [hnm, ne_eq, not_false_eq_true, if_true, Sem.run_bind, p1, hc, Result.andThen_ok, Sem.run_pure]
            exact ihr
          · cases h
        · cases h
      · cases h
theorem run_check_shape {b : Bool} : ∀ (d : Nat) (t : TypeId) (sh : List K1), shapeD P d t = some sh →
    ∀ (w : World) (e : Nat) (x : List Key1) (ag : Bool) (n : Nat), tkind P t = some (ag, n) → n = sh.length → (ag = false → n = 1) → x.map Key1.kind = sh → (Instr.checkKey b (e + d) t (keyV ag x).val).run P w = .ok () w
  | 0, t, sh, h => by cases h
  | d + 1, t, sh, h => by
    intro w e x ag n hk hn h1 hx
    have hk0 := hk
    obtain ⟨dsc, i, hu, hi, hsz, hag⟩ := tkind_parts hk
    show (Instr.checkKey b (e + d + 1) t (keyV ag x).val).run P w = _
    unfold Instr.checkKey
    simp only [Sem.run_bind, run_underlying hu, Result.andThen_ok]
    unfold shapeD at h
    rw [hu] at h
    cases dsc <;> simp only at h hag <;> try (cases h; done)
    · subst hag; rfl
    · subst hag; rfl
    · subst hag; rfl
    · rename_i fs
      subst hag
      split at h
      · cases h
      · simp only [keyV, Key.val]
        rw [← Array.forIn_toList]
        have := run_checkFields (b := b) (run_check_shape (b := b) d) fs.toList 0 sh h w e [] x rfl hx
        simp only [List.nil_append] at this
        simp only [Sem.run_bind, this, Result.andThen_ok, Sem.run_pure]
theorem run_checkKey {b : Bool} {κ : Key} (h : keyD P t κ = true) : (Instr.checkKey b 10000 t κ.val).run P w = .ok () w := by
  unfold keyD at h
  split at h
  · rename_i sh ag n hs hk
    simp only [Bool.and_eq_true, decide_eq_true_eq, Bool.or_eq_true, beq_iff_eq] at h
    obtain ⟨⟨⟨h1, h2⟩, h3⟩, h4⟩ := h
    have := run_check_shape (b := b) 8 t sh hs w 9992 κ.cells ag n hk h1 (fun hb => by rcases h2 with h2 | h2; · rw [h2] at hb; cases hb
                                                                                       · exact h2) h4
    have key : keyV ag κ.cells = κ := by cases κ <;> subst h3 <;> rfl
    rw [key] at this
    exact this
  · cases h
theorem sameBits_key1 (c : Key1) : ∀ n, Instr.sameBits n c.val c.val = true := by
  intro n; cases c <;> cases n <;> simp [Key1.val, Instr.sameBits] <;> (rw [beq_toListBytes, toList_inj]; simp)
theorem sameBits_key (κ : Key) : Instr.sameBits 10000 κ.val κ.val = true := by
  cases κ with
  | one c => exact sameBits_key1 c _
  | agg cs =>
    have : ∀ (n : Nat) (l : List Key1), ((l.map Key1.val).zip (l.map Key1.val)).all (fun (x, y) => Instr.sameBits n x y) = true := by
      intro n l
      induction l with
      | nil => rfl
      | cons c l ih => simp only [List.map_cons, List.zip_cons_cons, List.all_cons, sameBits_key1, Bool.true_and]; exact ih
    show Instr.sameBits (9999 + 1) (.agg (cs.map Key1.val).toArray) (.agg (cs.map Key1.val).toArray) = true
    simp only [Instr.sameBits, beq_self_eq_true, Bool.true_and]
    exact this 9999 cs

variable {b0 : Nat} {w0 : World} {S : AS}
/-- What is known of a map. -/
theorem Sim.mapAt (hs : Sim b0 w0 π S w) {M : Nat} {ents : List Ent} {clock : Nat} (hM : S M = some (.map ents clock)) :
    ∃ es : Array MapEntry, w.heap[M]? = some (.map es clock) ∧ ERel' π es.toList ents ∧ (ents.map (·.2.2)).Pairwise (· < ·) ∧ (∀ p ∈ ents, p.2.2 < clock) ∧ ∀ o, π M o = none := by
  obtain ⟨_, ⟨es, h1, h2, h3, h4, h5⟩, h6⟩ := hs.obj M _ hM
  exact ⟨es, h1, ⟨by simpa using h2, fun i e p he hp => h3 i e p (by simpa using he) hp⟩, h4, h5, h6⟩
theorem Sim.mapTurn (hs : Sim b0 w0 π S w) {M : Nat} {o : AObj} (hM : S M = some o) (hn : ∀ j, π M j = none) (hlt : M < w.heap.size) {es : Array MapEntry} {ents : List Ent} {clock : Nat} (hr : ERel' π es.toList ents)
    (hp : (ents.map (·.2.2)).Pairwise (· < ·)) (hc : ∀ p ∈ ents, p.2.2 < clock) : Sim b0 w0 π (S.set M (.map ents clock)) { w with heap := w.heap.setIfInBounds M (.map es clock) } :=
  hs.turn hM hn _ ⟨⟨es, by simp [hlt], by have := hr.1; simpa using this, fun i e p he hp' => hr.2 i e p (by simpa using he) hp', hp, hc⟩, hn⟩

def lookR (ok : Bool) (r : Option AV) (z : AV) : AV := if ok then .tup [r.getD z, .v (.bool r.isSome)] else r.getD z
def fitsE (P : Program) (t : TypeId) (l : List Ent) : Bool := l.all fun p => keyD P t p.1
def lookupA (P : Program) (t : TypeId) (x i : AV) (ok : Bool) (S : AS) : Option AV :=
  match mapD P t with
  | some (kt, et) => match zeroD P et, keyA i with
    | some z, some κ => if keyD P kt κ then (match x with
        | .v (.map none) => some (lookR ok none z)
        | .mp M => (match S M with | some (.map ents _) => if fitsE P kt ents then some (lookR ok (findE κ ents) z) else none | _ => none)
        | _ => none) else none
    | _, _ => none
  | none => none
theorem run_lookR {ok : Bool} {v : Value} {r : Option AV} {z : AV} (h : VR π v (r.getD z)) : VR π (if ok then Value.tuple #[v, .bool r.isSome] else v) (lookR ok r z) := by
  cases ok with
  | false => exact h
  | true =>
    refine .tup _ _ rfl ?_
    intro i x a hx ha
    match i with
    | 0 => simp at hx ha; subst hx; subst ha; exact h
    | 1 => simp at hx ha; subst hx; subst ha; exact .v _
    | i + 2 => simp at ha
theorem run_lookupA (hs : Sim b0 w0 π S w) {v i : Value} {x ix y : AV} {ok : Bool} (hv : VR π v x) (hi : VR π i ix) (h : lookupA P t x ix ok S = some y) : ∃ u, (Instr.lookup t v i ok).run P w = .ok u w ∧ VR π u y := by
  unfold lookupA at h
  split at h
  · rename_i kt et hd
    have hu := mapD_parts hd
    split at h
    · rename_i z κ hz hκ
      have hie := hi.key hκ
      subst hie
      obtain ⟨inf, zv, hi1, hi2, rfl⟩ := zero_parts hz
      have hzero : (zeroValue et).run P w = .ok zv w := by simp [zeroValue, typeInfo, hi1, hi2]
      split at h
      · rename_i hkd
        cases hv with
        | v _ =>
          cases v <;> try (cases h; done)
          rename_i m
          cases m with
          | some m => cases h
          | none =>
            cases h
            refine ⟨_, ?_, run_lookR (v := zv) (r := none) (ofValue_rel π zv)⟩
            have hf := run_findKey (w := w) (π := π) (es := []) hkd ERel'.nil (by simp)
            simp only [Instr.lookup, Sem.run_bind, run_underlying hu, Result.andThen_ok, Sem.run_pure, run_checkKey hkd, hf, findI, hzero]
            cases ok <;> simp
        | mp M =>
          simp only at h
          split at h
          · rename_i ents clock hM
            split at h
            · rename_i hfit
              cases h
              obtain ⟨es, hh, hr, _⟩ := hs.mapAt hM
              have hall : ∀ p ∈ ents, keyD P kt p.1 = true := fun p hp => List.all_eq_true.1 hfit p hp
              have hf := run_findKey (w := w) hkd hr hall
              have hg : (getObj M).run P w = .ok (.map es clock) w := by simp [getObj, Sem.run, hh]
              rcases findI_look (κ := κ) 0 hr with ⟨e1, e2, _⟩ | ⟨j, v, av, e1, e2, e3, _⟩
              · rw [e1] at hf
                refine ⟨_, ?_, run_lookR (v := zv) (r := findE κ ents) (by rw [e2]; exact ofValue_rel π zv)⟩
                simp only [Instr.lookup, Sem.run_bind, run_underlying hu, Result.andThen_ok, hg, Sem.run_pure, run_checkKey hkd, hf, hzero, e2]
                cases ok <;> simp
              · rw [e1] at hf
                refine ⟨_, ?_, run_lookR (v := v) (r := findE κ ents) (by rw [e2]; exact e3)⟩
                simp only [Instr.lookup, Sem.run_bind, run_underlying hu, Result.andThen_ok, hg, Sem.run_pure, run_checkKey hkd, hf, e2]
                cases ok <;> simp
            · cases h
          · cases h
        | _ => cases h
      · cases h
    · cases h
  · cases h

def updateA (P : Program) (t : TypeId) (x i v : AV) (S : AS) : Option (AV × AS) :=
  match mapD P t with
  | some (kt, _) => match keyA i, x with
    | some κ, .mp M => (match S M with
      | some (.map ents clock) => if keyD P kt κ && fitsE P kt ents then some (undefA, S.set M (.map (putE κ v clock ents) (if (findE κ ents).isSome then clock else clock + 1))) else none
      | _ => none)
    | _, _ => none
  | none => none
theorem run_updateA (hs : Sim b0 w0 π S w) {v i u : Value} {x ix y r : AV} {S' : AS} (hv : VR π v x) (hi : VR π i ix) (hu' : VR π u y) (h : updateA P t x ix y S = some (r, S')) : ∃ w', (Instr.mapUpdate t v i u).run P w = .ok () w' ∧ Sim b0 w0 π S' w' ∧ r = undefA := by
  unfold updateA at h
  split at h
  · rename_i kt et hd
    have hu := mapD_parts hd
    split at h
    · rename_i κ M hκ
      have hie := hi.key hκ
      subst hie
      cases hv
      split at h
      · rename_i ents clock hM
        split at h
        · rename_i hc
          cases h
          simp only [Bool.and_eq_true] at hc
          obtain ⟨hkd, hfit⟩ := hc
          obtain ⟨es, hh, hr, hpw, hlt, hn⟩ := hs.mapAt hM
          have hall : ∀ p ∈ ents, keyD P kt p.1 = true := fun p hp => List.all_eq_true.1 hfit p hp
          have hf := run_findKey (w := w) hkd hr hall
          have hg : (getObj M).run P w = .ok (.map es clock) w := by simp [getObj, Sem.run, hh]
          have hset : ∀ ob, (setObj M ob).run P w = .ok () { w with heap := w.heap.setIfInBounds M ob } := by intro ob; simp [setObj, Sem.run, hh]
          have hMlt := hs.lt hM
          rcases findI_look (κ := κ) 0 hr with ⟨e1, e2, e3⟩ | ⟨j, v', av, e1, e2, e3, ⟨e, he1, he2⟩, e4⟩
          · rw [e1] at hf
            refine ⟨_, ?_, hs.mapTurn hM hn hMlt (es := es.push { key := κ.val, val := u, born := clock }) (ents := putE κ y clock ents) (clock := if (findE κ ents).isSome then clock else clock + 1) ?_ ?_ ?_, rfl⟩
            · simp only [Instr.mapUpdate, Sem.run_bind, run_underlying hu, Result.andThen_ok, hg, run_checkKey hkd, hf, hset, e2]; simp
            · rw [e3, Array.toList_push]
              refine ⟨by simp [hr.1], fun i e p he hp => ?_⟩
              rw [List.getElem?_append] at he hp
              split at he
              · rename_i hlt'
                rw [if_pos (by rw [← hr.1]; exact hlt')] at hp
                exact hr.2 i e p he hp
              · rename_i hge
                rw [if_neg (by rw [← hr.1]; exact hge)] at hp
                have : i - es.toList.length = 0 := by
                  have := (List.getElem?_eq_some_iff.1 he).1
                  simp at this
                  simpa using this
                rw [← hr.1] at hp
                rw [this] at he hp
                simp at he hp
                subst he; subst hp
                exact ⟨rfl, hu', rfl⟩
            · rw [e3, List.map_append, List.pairwise_append]
              refine ⟨hpw, by simp, ?_⟩
              intro a ha b hb
              obtain ⟨p, hp, rfl⟩ := List.mem_map.1 ha
              simp at hb; subst hb
              exact hlt p hp
            · rw [e3, e2]
              intro p hp
              rcases List.mem_append.1 hp with hp | hp
              · have := hlt p hp; simp; omega
              · simp at hp; subst hp; simp
          · rw [e1] at hf
            obtain ⟨e5, e6⟩ := e4 u y clock hu'
            have hkey : ((es[0 + j]?).map (·.key)).getD κ.val = κ.val := by
              rw [Nat.zero_add, ← Array.getElem?_toList, he1]; exact he2
            refine ⟨_, ?_, hs.mapTurn hM hn hMlt (es := es.modify (0 + j) fun e => { e with key := κ.val, val := u }) (ents := putE κ y clock ents) (clock := if (findE κ ents).isSome then clock else clock + 1) ?_ ?_ ?_, rfl⟩
            · simp only [Instr.mapUpdate, Sem.run_bind, run_underlying hu, Result.andThen_ok, hg, run_checkKey hkd, hf, hkey, Instr.keyThatStays, sameBits_key, if_true, Sem.run_pure, hset, e2]; simp
            · rw [Nat.zero_add, Array.toList_modify]; exact e5
            · rw [e6]; exact hpw
            · rw [e2]
              intro p hp
              have : p.2.2 ∈ (putE κ y clock ents).map (·.2.2) := List.mem_map_of_mem hp
              rw [e6] at this
              obtain ⟨q, hq, e⟩ := List.mem_map.1 this
              have := hlt q hq
              simp only [Option.isSome_some, if_true]
              rw [← e]; exact this
        · cases h
      · cases h
    · cases h
  · cases h

/-! ### a range over a map -/
def leftE (ents : List Ent) (seen : List Nat) : List Ent := ents.filter fun p => !seen.contains p.2.2
theorem leftOf_rel {es : Array MapEntry} {ents : List Ent} (hr : ERel' π es.toList ents) (seen : List Nat) : ERel' π (leftOf es seen.toArray).toList (leftE ents seen) := by
  unfold leftOf leftE
  rw [Array.toList_filter]
  obtain ⟨l⟩ := es
  simp only at hr ⊢
  induction l generalizing ents with
  | nil =>
    have : ents = [] := List.eq_nil_of_length_eq_zero hr.1.symm
    subst this; exact ERel'.nil
  | cons e l ih =>
    cases ents with
    | nil => have := hr.1; simp at this
    | cons p ents =>
      obtain ⟨⟨h1, h2, h3⟩, h4⟩ := ERel'.cons.1 hr
      have := ih h4
      simp only [List.contains_toArray] at this
      simp only [List.filter_cons, h3, List.contains_toArray]
      split
      · exact ERel'.cons.2 ⟨⟨h1, h2, h3⟩, this⟩
      · exact this
def NextK (x : AV) (S : AS) (K : AV → AS → Prop) : Prop :=
  ∃ B M ents clock seen, x = .ptr B 0 ∧ S B = some (.miter M clock seen clock) ∧ S M = some (.map ents clock) ∧
    (leftE ents seen = [] → K (.tup [.v (.bool false)]) S) ∧ ∀ p ∈ leftE ents seen, K (.tup [.v (.bool true), p.1.av, p.2.1]) (S.set B (.miter M clock (seen ++ [p.2.2]) clock))
theorem run_nextM (hs : Sim b0 w0 π S w) {v : Value} {x : AV} {K : AV → AS → Prop} (ty : TypeId) (hv : VR π v x) (h : NextK x S K) : ∃ u w' y S', (Instr.next v false ty).run P w = .ok u w' ∧ Sim b0 w0 π S' w' ∧ VR π u y ∧ K y S' := by
  obtain ⟨B, M, ents, clock, seen, rfl, hB, hM, h1, h2⟩ := h
  cases hv
  obtain ⟨es, hh, hr, hpw, hlt, hn⟩ := hs.mapAt hM
  obtain ⟨_, hBh, hBn⟩ := hs.obj B _ hB
  have hold : ∀ x ∈ es.toList, x.born < clock := by
    intro x hx
    obtain ⟨i, hi, e⟩ := List.mem_iff_getElem.1 hx
    have hi' : i < ents.length := by rw [← hr.1]; exact hi
    obtain ⟨_, _, h3⟩ := hr.2 i x ents[i] (by rw [List.getElem?_eq_getElem hi, e]) (List.getElem?_eq_getElem hi')
    rw [h3]; exact hlt _ (List.getElem_mem hi')
  have hl := leftOf_rel hr seen
  rcases run_next_at (P := P) w ty B M clock clock seen.toArray es clock hBh hh hold (Nat.le_refl _) with ⟨e1, e2⟩ | ⟨e, he, w1, hw1, e2⟩
  · refine ⟨_, w, _, S, e2, hs, .tup _ _ rfl ?_, h1 ?_⟩
    · intro i x a hx ha
      cases i with
      | zero => simp at hx ha; subst hx; subst ha; exact .v _
      | succ i => simp at ha
    · have := hl.1
      rw [Array.length_toList, e1] at this
      exact List.eq_nil_of_length_eq_zero this.symm
  · obtain ⟨i, hi, ei⟩ := List.mem_iff_getElem.1 he
    have hi' : i < (leftE ents seen).length := by rw [← hl.1]; exact hi
    obtain ⟨h3, h4, h5⟩ := hl.2 i e (leftE ents seen)[i] (by rw [List.getElem?_eq_getElem hi, ei]) (List.getElem?_eq_getElem hi')
    have hs1 : Sim b0 w0 π S w1 := by rcases hw1 with rfl | rfl; · exact hs
                                      · exact hs.drew
    have hlt1 : B < w1.heap.size := hs1.lt hB
    refine ⟨_, _, _, _, e2, hs1.turn (o' := .miter M clock (seen ++ [(leftE ents seen)[i].2.2]) clock) hB hBn _ ⟨?_, hBn⟩, .tup _ _ rfl ?_, h2 _ (List.getElem_mem hi')⟩
    · simp only [Array.getElem?_setIfInBounds, if_true, hlt1]
      rw [h5]
      simp
    · intro k x a hx ha
      match k with
      | 0 => simp at hx ha; subst hx; subst ha; exact .v _
      | 1 => simp at hx ha; subst hx; subst ha; rw [h3]; exact Key.rel π _
      | 2 => simp at hx ha; subst hx; subst ha; exact h4
      | k + 3 => simp at ha

/-! ### rows that are made, and copied -/
def repA (n : Nat) (cs : List AV) : List AV := (List.replicate n cs).flatten
def makeSliceA (P : Program) (t : TypeId) (l c : AV) (S : AS) (B : Nat) : Option (AV × AS) :=
  match sliceD P t with
  | some e => match ((P.info? e).map (fun i => (i.zero, i.size, i.bytes)) : Option (Option Value × Nat × Nat)), l, c with
    | some (some z, s, bytes), .v (.int _ n), .v (.int _ m) => if 0 ≤ n ∧ n ≤ m ∧ bytes * m.toNat ≤ 140737488355328 ∧ m.toNat ≤ maxLen ∧ z.cells.size = s then some (.win B 0 n.toNat m.toNat, S.set B (.var (repA m.toNat (ofValue z).cells) e)) else none
    | _, _, _ => none
  | none => none
theorem PW.ofValue (π : Pi) (z : Value) : PW π z.cells (ofValue z).cells := (ofValue_rel π z).cells (ofValue_seen z)
theorem repA_rel {cs : Array Value} {as : List AV} (h : PW π cs as) (m : Nat) : PW π (madeCells cs (m * cs.size)) (repA m as) := by
  have hsz : cs.size = as.length := h.1
  refine ⟨by simp [size_madeCells, repA, hsz], ?_⟩
  intro i x a hx ha
  have hi : i < m * cs.size := by
    have := (Array.getElem?_eq_some_iff.1 hx).1
    rwa [size_madeCells] at this
  have hpos : 0 < cs.size := by
    rcases Nat.eq_zero_or_pos cs.size with h0 | h0
    · rw [h0, Nat.mul_zero] at hi; omega
    · exact h0
  have hx' : x = cs[i % cs.size]! := by
    have h1 := Array.getElem?_eq_getElem (xs := madeCells cs (m * cs.size)) (i := i) (by rw [size_madeCells]; exact hi)
    rw [h1] at hx
    simp [madeCells] at hx
    exact hx.symm
  have key : ∀ (m i : Nat), i < m * as.length → (repA m as)[i]? = as[i % as.length]? := by
    intro m
    induction m with
    | zero => intro i hi; simp at hi
    | succ m ih =>
      intro i hi
      simp only [repA, List.replicate_succ, List.flatten_cons]
      rw [List.getElem?_append]
      split
      · rename_i hlt; rw [Nat.mod_eq_of_lt hlt]
      · rename_i hge
        have hge' : as.length ≤ i := Nat.le_of_not_lt hge
        rw [Nat.succ_mul] at hi
        have := ih (i - as.length) (by omega)
        unfold repA at this
        rw [this, Nat.mod_eq_sub_mod hge']
  rw [key m i (by rw [← hsz]; exact hi)] at ha
  have hlt : i % cs.size < cs.size := Nat.mod_lt _ hpos
  refine h.2 (i % cs.size) x a ?_ (by rw [← hsz] at ha; exact ha)
  rw [hx']
  simp [hlt]
theorem run_makeSliceA (hs : Sim b0 w0 π S w) {l c : Value} {la ca y : AV} {S' : AS} (hl : VR π l la) (hc : VR π c ca) (h : makeSliceA P t la ca S w.heap.size = some (y, S')) :
    ∃ u w', (Instr.makeSlice t l c).run P w = .ok u w' ∧ Sim b0 w0 π S' w' ∧ VR π u y := by
  unfold makeSliceA at h
  split at h
  · rename_i e he
    split at h
    · rename_i z s bytes k1 n k2 m hinf
      cases hl; cases hc
      split at h
      · rename_i hb
        cases h
        obtain ⟨b1, b2, b3, b4, b5⟩ := hb
        obtain ⟨i, hi1, hi2, hi3, hi4⟩ := info_parts hinf
        have hm' : ((m.toNat : Nat) : Int) = m := by omega
        have hr := run_make (P := P) w t e i z (sliceD_parts he) hi1 hi2 k1 k2 n m b1 b2 (by rw [hi4, ← hm', ← Int.natCast_mul]; omega) (by simp only [maxLen] at b4; omega)
        refine ⟨_, _, hr, hs.alloc _ ⟨⟨_, heap_alloc_new w _, ?_⟩, fun o => hs.pi_fresh (Nat.le_refl _) o⟩, .win _ _ _ _ (by omega) (by omega)⟩
        rw [hi3, ← b5]
        exact repA_rel (PW.ofValue π z) m.toNat
      · cases h
    · cases h
  · cases h
end
end Go.Aw
