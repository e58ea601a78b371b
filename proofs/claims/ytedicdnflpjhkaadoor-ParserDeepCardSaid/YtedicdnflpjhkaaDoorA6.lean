/- A walk over code, told of abstract values: the table of the operations, lists of operations, calls, code. No condition: definitions and lemmas. -/
import Derived.Test.YtedicdnflpjhkaaDoorAM
namespace Go.Aw
open Go.RowKit
variable {D : List Deferred}

def concD (P : Program) (t : TypeId) : Bool := match P.underlying t with | some (.interface _) => false | some _ => true | none => false
def plainFn : Fn → Bool | .func _ => true | _ => false

/-- What an operation makes of abstract values and of the state; B: the number of the block that it makes, if it makes one. -/
def opA (P : Program) (op : Op) (a : AAct) (S : AS) (B : Nat) : Option (AV × AS) :=
  match op with
  | .move x | .assign x => some (a.get x, S)
  | .pick c x y => match a.get c with | .v (.bool b) => some (if b then a.get x else a.get y, S) | _ => none
  | .alloc e => match zeroD P e with | some z => some (.ptr B 0, S.set B (.var z.cells e)) | none => none
  | .box e x => if (a.get x).seen then some (.ptr B 0, S.set B (.var (a.get x).cells e)) else none
  | .build t parts => match buildA P t (parts.toList.map fun p => (p.1, a.get p.2)) with | some x => some (x, S) | none => none
  | .buildSlice t len parts => match buildSliceA P t len (parts.toList.map fun p => (p.1, a.get p.2)) with
    | some (es, e, s) => some (.sl es (some (B, len)), S.set B (.tip e s len len))
    | none => none
  | .load t x => match cellsAt S (a.get x) with
    | some cs => match loadC P t cs with | some y => some (y, S) | none => none
    | none => none
  | .store t x y => match a.get x with
    | .ptr B' off => match S B' with
      | some (.var cells ety) => match storeC P t cells off (a.get y) with | some c => some (undefA, S.set B' (.var c ety)) | none => none
      | _ => none
    | _ => none
  | .nilCheck x => match a.get x with
    | .ptr B' off => some (.ptr B' off, S)
    | .cptr cs => some (.cptr cs, S)
    | .fn f c => if plainFn f then some (.fn f c, S) else none
    | _ => none
  | .binOp op t x y _ => match binA P op t (a.get x) (a.get y) with | some z => some (z, S) | none => none
  | .unOp op _ x => match unA op (a.get x) with | some z => some (z, S) | none => none
  | .convert s d x => match convA P s d (a.get x) with
    | some z => some (z, S)
    | none => match convP P s d S (a.get x) with | some z => some (z, S) | none => none
  | .makeInterface t x => if concD P t then some (.ifc t (a.get x), S) else none
  | .makeFunc f first cap => if first.size = 0 then some (.fn f (cap.toList.map a.get), S) else none
  | .slice t x lo hi none => match sliceA P t (a.get x) (lo.map a.get) (hi.map a.get) with | some z => some (z, S) | none => none
  | .slice t x lo hi (some m) => match slice3A P t (a.get x) (lo.map a.get) (hi.map a.get) (some (a.get m)) with | some z => some (z, S) | none => none
  | .makeMap _ none => some (.mp B, S.set B (.map [] 0))
  | .makeMap t (some r) => match a.get r, mapD P t with | .v (.int _ _), some _ => some (.mp B, S.set B (.map [] 0)) | _, _ => none
  | .makeSlice t l c => makeSliceA P t (a.get l) (a.get c) S B
  | .lookup t x i ok => match lookupA P t (a.get x) (a.get i) ok S with | some z => some (z, S) | none => none
  | .mapUpdate t m k x => updateA P t (a.get m) (a.get k) (a.get x) S
  | .insert t m k x => updateA P t (a.get m) (a.get k) (a.get x) S
  | .fieldAddr t x f => match fieldA P t f (a.get x) with | some z => some (z, S) | none => none
  | .field t x f => match fieldVA P t f (a.get x) with | some z => some (z, S) | none => none
  | .indexAddr t x i => match indexA P t (a.get x) (a.get i) with | some z => some (z, S) | none => none
  | .index t x i => match indexVA P t (a.get x) (a.get i) with | some z => some (z, S) | none => none
  | .extract x i => match a.get x with | .tup vs => (match vs[i]? with | some z => some (z, S) | none => none) | _ => none
  | .range t x => match a.get x with
    | .str l => if strD P t then some (.ptr B 0, S.set B (.siter l 0)) else none
    | .mp M => if (mapD P t).isSome then (match S M with | some (.map _ clock) => some (.ptr B 0, S.set B (.miter M clock [] clock)) | _ => none) else none
    | _ => none
  | .next x true => match a.get x with
    | .ptr B' 0 => match S B' with
      | some (.siter l pos) => if pos < l.length then
          some (.tup [.v (.bool true), .v (.int .i64 pos), .v (.int .i32 (Utf8.decode ⟨l.toArray⟩ pos).1)], S.set B' (.siter l (pos + (Utf8.decode ⟨l.toArray⟩ pos).2)))
        else some (.tup [.v (.bool false)], S)
      | _ => none
    | _ => none
  | .typeAssert x _ t true => match a.get x with
    | .ifc t' y => if concD P t then (if t' = t then some (.tup [y, .v (.bool true)], S) else match zeroD P t with | some z => some (.tup [z, .v (.bool false)], S) | none => none) else none
    | _ => none
  | .call { callee := .builtin b, args, argTypes } => match lookA P S b argTypes.toList (args.toList.map a.get) with | some z => some (z, S) | none => none
  | _ => none

section
variable {P : Program} {π : Pi} {w : World} {b0 : Nat} {w0 : World} {S S' : AS} {act : Act} {a : AAct}
theorem VR.v_inv {u x : Value} (h : VR π u (.v x)) : u = x := by cases h; rfl
theorem VR.tup_inv {u : Value} {vs : List AV} (h : VR π u (.tup vs)) : ∃ cs, u = .tuple cs ∧ PW π cs vs := by cases h with | tup cs _ hl hh => exact ⟨cs, rfl, hl, hh⟩
theorem VR.str_inv {u : Value} {l : List UInt8} (h : VR π u (.str l)) : ∃ s, u = .string s ∧ s.data.toList = l := by cases h with | str s _ hs => exact ⟨s, rfl, hs⟩
theorem VR.ifc_inv {u : Value} {t : TypeId} {a : AV} (h : VR π u (.ifc t a)) : ∃ x, u = .iface t x ∧ VR π x a := by cases h with | ifc _ x _ hr => exact ⟨x, rfl, hr⟩
theorem VR.fn_inv {u : Value} {f : Fn} {as : List AV} (h : VR π u (.fn f as)) : ∃ cs, u = .func f #[] cs ∧ PW π cs as := by cases h with | fn _ cs _ hl hh => exact ⟨cs, rfl, hl, hh⟩
theorem VR.mp_inv {u : Value} {B : Nat} (h : VR π u (.mp B)) : u = .map (some B) := by cases h; rfl
theorem VR.ptr_inv {u : Value} {B off : Nat} (h : VR π u (.ptr B off)) : u = .pointer (some ⟨B, off, none⟩) := by cases h; rfl

theorem ARel.parts (ha : ARel D π act a) : ∀ (l : List (Nat × Operand)), PartsRel π (l.map fun p => (p.1, act.eval p.2)) (l.map fun p => (p.1, a.get p.2))
  | [] => trivial
  | (_, x) :: r => ⟨rfl, ha.eval x, ha.parts r⟩
theorem ARel.opt (ha : ARel D π act a) (x : Option Operand) : ORl π (x.map act.eval) (x.map a.get) := by cases x <;> simp [ORl]; exact ha.eval _
theorem ARel.args (ha : ARel D π act a) (xs : Array Operand) : PW π (xs.map act.eval) (xs.toList.map a.get) := by
  refine ⟨by simp, fun i v b hv hb => ?_⟩
  simp only [Array.getElem?_map, List.getElem?_map, Array.getElem?_toList] at hv hb
  cases hx : xs[i]? with
  | none => simp [hx] at hv
  | some x => simp only [hx, Option.map_some, Option.some.injEq] at hv hb; subst hv; subst hb; exact ha.eval x

/-- What a run of an operation comes to. -/
def Comes' (b0 : Nat) (w0 : World) (π : Pi) (r : Result Next) (x : AV) (S' : AS) : Prop :=
  ∃ nx w' π' v, r = .ok nx w' ∧ (nx = .value v ∨ (nx = .skip ∧ v = undef)) ∧ π.le π' ∧ Sim b0 w0 π' S' w' ∧ VR π' v x
theorem Comes'.val (hs : Sim b0 w0 π S w) {s : Sem Value} {x : AV} (h : ∃ u, s.run P w = .ok u w ∧ VR π u x) : Comes' b0 w0 π ((do pure (.value (← s)) : Sem Next).run P w) x S := by
  obtain ⟨u, h1, h2⟩ := h
  exact ⟨.value u, w, π, u, by simp [h1], .inl rfl, Pi.le_refl π, hs, h2⟩

set_option maxHeartbeats 1000000 in
theorem opA_sound (hs : Sim b0 w0 π S w) (ha : ARel D π act a) (o : Oper) {x : AV} (h : opA P o.op a S w.heap.size = some (x, S')) : Comes' b0 w0 π ((execOp act.eval o).run P w) x S' := by
  unfold execOp
  cases hop : o.op <;> rw [hop] at h <;> simp only [opA] at h
  case move y => cases h; exact ⟨_, w, π, _, rfl, .inl rfl, Pi.le_refl π, hs, ha.eval _⟩
  case assign y => cases h; exact ⟨_, w, π, _, rfl, .inl rfl, Pi.le_refl π, hs, ha.eval _⟩
  case pick c y z =>
    have hc := ha.eval c
    split at h
    · rename_i b he
      rw [he] at hc
      cases h
      have e : act.eval c = .bool b := hc.v_inv
      refine ⟨_, w, π, _, by simp [e, asBool]; rfl, .inl rfl, Pi.le_refl π, hs, ?_⟩
      cases b <;> exact ha.eval _
    · cases h
  case alloc e =>
    split at h
    · rename_i z hz
      cases h
      obtain ⟨i, v, hi, hiz, rfl⟩ := zero_parts hz
      obtain ⟨w', h1, h2⟩ := run_newVar (P := P) hs e (ofValue_rel π v) (ofValue_seen v)
      refine ⟨.value (.pointer (some ⟨w.heap.size, 0, none⟩)), w', π, _, ?_, .inl rfl, Pi.le_refl π, h2, .ptr _ _⟩
      simp [Instr.alloc, zeroValue, typeInfo, hi, hiz, h1]
    · cases h
  case box e y =>
    split at h
    · rename_i hse
      cases h
      obtain ⟨w', h1, h2⟩ := run_newVar (P := P) hs e (ha.eval y) hse
      refine ⟨.value (.pointer (some ⟨w.heap.size, 0, none⟩)), w', π, _, ?_, .inl rfl, Pi.le_refl π, h2, .ptr _ _⟩
      simp [Instr.box, h1]
    · cases h
  case build t parts =>
    split at h
    · rename_i y hy
      cases h
      refine Comes'.val hs (run_build (ps := parts.map fun p => (p.1, act.eval p.2)) ?_ hy)
      rw [Array.toList_map]; exact ha.parts _
    · cases h
  case buildSlice t len parts =>
    split at h
    · rename_i es e s hy
      cases h
      obtain ⟨w', π', h1, h2, h3, h4⟩ := run_buildSlice (P := P) hs (ps := parts.map fun p => (p.1, act.eval p.2)) (by rw [Array.toList_map]; exact ha.parts _) hy
      exact ⟨_, w', π', _, by simp only [Sem.run_bind, h1]; rfl, .inl rfl, h2, h3, h4⟩
    · cases h
  case load t y =>
    split at h
    · rename_i cs hc
      split at h
      · rename_i z hz; cases h; exact Comes'.val hs (run_loadAt hs (ha.eval y) hc hz)
      · cases h
    · cases h
  case store t y z =>
    split at h
    · rename_i B' off hp
      split at h
      · rename_i cells ety hB
        split at h
        · rename_i c hc
          cases h
          have hv := ha.eval y
          rw [hp] at hv
          have e : act.eval y = .pointer (some ⟨B', off, none⟩) := hv.ptr_inv
          obtain ⟨w', h1, h2⟩ := run_storeAt (P := P) hs hB (ha.eval z) hc
          exact ⟨.skip, w', π, undef, by simp [e, h1], .inr ⟨rfl, rfl⟩, Pi.le_refl π, h2, .v _⟩
        · cases h
      · cases h
    · cases h
  case nilCheck y =>
    have hv := ha.eval y
    split at h
    · rename_i B' off hp
      rw [hp] at hv
      cases h
      have e : act.eval y = .pointer (some ⟨B', off, none⟩) := hv.ptr_inv
      exact ⟨_, w, π, _, by simp only [e]; rfl, .inl rfl, Pi.le_refl π, hs, .ptr _ _⟩
    · rename_i cs hp
      rw [hp] at hv
      cases h
      refine ⟨.value (act.eval y), w, π, _, ?_, .inl rfl, Pi.le_refl π, hs, hv⟩
      show (Sem.run P (match act.eval y with | .pointer none | .nilIface | .nilFunc => _ | .func (.method name) first captured => _ | x => _) w) = _
      generalize act.eval y = v at hv ⊢
      cases hv; rfl
    · rename_i f c hp
      rw [hp] at hv
      split at h
      · rename_i hf
        cases h
        refine ⟨.value (act.eval y), w, π, _, ?_, .inl rfl, Pi.le_refl π, hs, hv⟩
        simp only
        generalize act.eval y = v at hv ⊢
        cases hv
        cases f <;> first | rfl | cases hf
      · cases h
    · cases h
  case binOp op t y z yt =>
    split at h
    · rename_i r hr; cases h; exact Comes'.val hs (run_binA (ha.eval y) (ha.eval z) hr)
    · cases h
  case unOp op t y =>
    split at h
    · rename_i r hr; cases h; exact Comes'.val hs (run_unA (ha.eval y) hr)
    · cases h
  case convert s d y =>
    split at h
    · rename_i r hr; cases h; exact Comes'.val hs (run_convA (ha.eval y) hr)
    · split at h
      · rename_i r hr; cases h; exact Comes'.val hs (run_convP hs (ha.eval y) hr)
      · cases h
  case makeInterface t y =>
    split at h
    · rename_i hc
      cases h
      refine Comes'.val hs ⟨.iface t (act.eval y), ?_, .ifc _ _ _ (ha.eval y)⟩
      unfold concD at hc
      cases hu : P.underlying t with
      | none => simp [hu] at hc
      | some d => simp only [Instr.makeInterface, Sem.run_bind, run_underlying hu, Result.andThen_ok]; cases d <;> simp_all
    · cases h
  case makeFunc f first cap =>
    split at h
    · rename_i hf
      cases h
      refine Comes'.val hs ⟨.func f #[] (cap.map act.eval), ?_, ?_⟩
      · have : first = #[] := Array.eq_empty_of_size_eq_zero hf
        subst this
        simp [Instr.makeFunc]
      · have := ha.args cap; exact .fn _ _ _ this.1 this.2
    · cases h
  case slice t y lo hi mx =>
    cases mx with
    | some m =>
      simp only at h
      split at h
      · rename_i r hr; cases h; exact Comes'.val hs (run_slice3 (mx := some (act.eval m)) (ma := some (a.get m)) (ha.eval y) (ha.opt lo) (ha.opt hi) (ha.eval m) hr)
      · cases h
    | none =>
      simp only at h
      split at h
      · rename_i r hr; cases h; exact Comes'.val hs (run_sliceAt (ha.eval y) (ha.opt lo) (ha.opt hi) hr)
      · cases h
  case makeMap t r =>
    have main : ∀ w' : World, w' = w.alloc (.map #[] 0) → Sim b0 w0 π (S.set w.heap.size (.map [] 0)) w' := by
      rintro _ rfl
      exact hs.alloc _ ⟨⟨#[], heap_alloc_new w _, rfl, by simp, by simp, by simp⟩, fun o => hs.pi_fresh (Nat.le_refl _) o⟩
    cases r with
    | none =>
      simp only [Option.some.injEq, Prod.mk.injEq] at h
      obtain ⟨rfl, rfl⟩ := h
      exact ⟨.value (.map (some w.heap.size)), _, π, _, by simp only [Option.map_none, Sem.run_bind]; rfl, .inl rfl, Pi.le_refl π, main _ rfl, .mp _⟩
    | some r =>
      simp only at h
      split at h
      · rename_i k n q hr hd
        cases h
        have hv := ha.eval r
        rw [hr] at hv
        have e : act.eval r = .int k n := hv.v_inv
        have hu := mapD_parts (k := q.1) (e := q.2) hd
        exact ⟨.value (.map (some w.heap.size)), _, π, _, by simp only [Option.map_some, Instr.makeMap, Sem.run_bind, run_underlying hu, e, asInt, asIntOf, Result.andThen_ok, Sem.run_pure]; rfl, .inl rfl, Pi.le_refl π, main _ rfl, .mp _⟩
      · cases h
  case makeSlice t l c =>
    obtain ⟨u, w', h1, h2, h3⟩ := run_makeSliceA hs (ha.eval l) (ha.eval c) h
    exact ⟨.value u, w', π, u, by simp [h1], .inl rfl, Pi.le_refl π, h2, h3⟩
  case lookup t y i ok =>
    split at h
    · rename_i r hr; cases h; exact Comes'.val hs (run_lookupA hs (ha.eval y) (ha.eval i) hr)
    · cases h
  case mapUpdate t m k y =>
    obtain ⟨w', h1, h2, rfl⟩ := run_updateA hs (ha.eval m) (ha.eval k) (ha.eval y) h
    exact ⟨.skip, w', π, undef, by simp [h1], .inr ⟨rfl, rfl⟩, Pi.le_refl π, h2, .v _⟩
  case insert t m k y =>
    obtain ⟨w', h1, h2, rfl⟩ := run_updateA hs (ha.eval m) (ha.eval k) (ha.eval y) h
    exact ⟨.skip, w', π, undef, by simp [h1], .inr ⟨rfl, rfl⟩, Pi.le_refl π, h2, .v _⟩
  case fieldAddr t y f =>
    split at h
    · rename_i r hr; cases h; exact Comes'.val hs (run_fieldAt (ha.eval y) hr)
    · cases h
  case field t y f =>
    split at h
    · rename_i r hr; cases h; exact Comes'.val hs (run_fieldVA (ha.eval y) hr)
    · cases h
  case indexAddr t y i =>
    split at h
    · rename_i r hr; cases h; exact Comes'.val hs (run_indexAt (ha.eval y) (ha.eval i) hr)
    · cases h
  case index t y i =>
    split at h
    · rename_i r hr; cases h; exact Comes'.val hs (run_indexVA (ha.eval y) (ha.eval i) hr)
    · cases h
  case extract y i =>
    split at h
    · rename_i vs hp
      split at h
      · rename_i z hz
        cases h
        have hv := ha.eval y
        rw [hp] at hv
        obtain ⟨cs, e, hp'⟩ := hv.tup_inv
        obtain ⟨u, h1, h2⟩ := hp'.get hz
        exact Comes'.val hs ⟨u, by simp [Instr.extract, e, h1], h2⟩
      · cases h
    · cases h
  case range t y =>
    split at h
    · rename_i l hp
      split at h
      · rename_i hst
        cases h
        have hv := ha.eval y
        rw [hp] at hv
        obtain ⟨s, e, hs'⟩ := hv.str_inv
        refine ⟨.value (.pointer (some ⟨w.heap.size, 0, none⟩)), w.alloc (.stringIter s 0), π, _, ?_, .inl rfl, Pi.le_refl π, hs.alloc _ ⟨⟨s, heap_alloc_new w _, hs'⟩, fun o => hs.pi_fresh (Nat.le_refl _) o⟩, .ptr _ _⟩
        simp [Instr.range, run_underlying (strD_parts hst), e]
      · cases h
    · rename_i M hp
      split at h
      · rename_i hmp
        obtain ⟨⟨kt, et⟩, he⟩ := Option.isSome_iff_exists.1 hmp
        have hu := mapD_parts he
        split at h
        · rename_i ents clock hM
          cases h
          have hv := ha.eval y
          rw [hp] at hv
          have e : act.eval y = .map (some M) := hv.mp_inv
          obtain ⟨es, hh, _⟩ := hs.mapAt hM
          have hg : (getObj M).run P w = .ok (.map es clock) w := by simp [getObj, Sem.run, hh]
          refine ⟨.value (.pointer (some ⟨w.heap.size, 0, none⟩)), w.alloc (.mapIter (some M) clock #[] clock), π, _, ?_, .inl rfl, Pi.le_refl π, hs.alloc _ ⟨heap_alloc_new w _, fun o => hs.pi_fresh (Nat.le_refl _) o⟩, .ptr _ _⟩
          simp [Instr.range, run_underlying hu, e, hg]
        · cases h
      · cases h
    · cases h
  case next y isStr =>
    cases isStr with
    | false => cases h
    | true =>
      simp only at h
      split at h
      · rename_i B' hp
        split at h
        · rename_i l pos hB
          have hv := ha.eval y
          rw [hp] at hv
          have e : act.eval y = .pointer (some ⟨B', 0, none⟩) := hv.ptr_inv
          obtain ⟨hb, ⟨s, hh, hl⟩, hn⟩ := hs.obj B' _ hB
          have hse : s = ⟨l.toArray⟩ := by cases s; subst hl; simp
          subst hse
          have hg : (getObj B').run P w = .ok (.stringIter ⟨l.toArray⟩ pos) w := by simp [getObj, Sem.run, hh]
          have hsz : (⟨l.toArray⟩ : ByteArray).size = l.length := by simp [ByteArray.size]
          split at h
          · rename_i hlt
            cases h
            have hset : ∀ ob, (setObj B' ob).run P w = .ok () { w with heap := w.heap.setIfInBounds B' ob } := by intro ob; simp [setObj, Sem.run, hh]
            let d := Utf8.decode ⟨l.toArray⟩ pos
            let w' : World := { w with heap := w.heap.setIfInBounds B' (.stringIter ⟨l.toArray⟩ (pos + d.2)) }
            have hBlt : B' < w.heap.size := hs.lt hB
            refine ⟨.value (.tuple #[.bool true, goInt pos, .int .i32 d.1]), w', π, _, ?_, .inl rfl, Pi.le_refl π, ?_, .tup _ _ rfl ?_⟩
            · simp [Instr.next, e, hg, hsz, hlt, hset, w', d]
            · have hgr : w.grownBy w' (some B') := ⟨rfl, rfl, rfl, by simp [w'], fun k hk hne => by
                have : B' ≠ k := fun e => hne (by rw [e])
                simp [w', this]⟩
              have h1 : Sim b0 w0 π (S.del B') w' := hs.grown hgr (fun k e => by cases e; exact hb) (fun k o x e hx => by cases e; rw [hn o] at hx; cases hx)
                (fun k e => by cases e; simp [AS.del]) (fun b o hb => by unfold AS.del at hb; split at hb; · cases hb
                                                                         · exact hb)
              refine ⟨h1.below, h1.base, h1.pi, fun b o hbo => ?_⟩
              unfold AS.set at hbo
              split at hbo
              · rename_i e'; subst e'; cases hbo
                exact ⟨hb, ⟨⟨l.toArray⟩, by simp [w', hBlt, d], by simp⟩, hn⟩
              · rename_i e'; exact h1.obj b o (by simp [AS.del, e', hbo])
            · intro i v b hv hb
              match i with
              | 0 => simp at hv hb; subst hv; subst hb; exact .v _
              | 1 => simp [goInt] at hv hb; subst hv; subst hb; exact .v _
              | 2 => simp at hv hb; subst hv; subst hb; exact .v _
              | i + 3 => simp at hb
          · rename_i hlt
            cases h
            refine ⟨.value (.tuple #[.bool false]), w, π, _, ?_, .inl rfl, Pi.le_refl π, hs, .tup _ _ rfl ?_⟩
            · simp [Instr.next, e, hg, hsz, hlt]
            · intro i v b hv hb
              cases i with
              | zero => simp at hv hb; subst hv; subst hb; exact .v _
              | succ i => simp at hb
        · cases h
      · cases h
  case typeAssert y xt t ok =>
    cases ok with
    | false => cases h
    | true =>
      simp only at h
      split at h
      · rename_i t' z hp
        split at h
        · rename_i hc
          have hv := ha.eval y
          rw [hp] at hv
          obtain ⟨u, e, hr⟩ := hv.ifc_inv
          · unfold concD at hc
            cases hu : P.underlying t with
            | none => simp [hu] at hc
            | some d =>
              have hni : ∀ ms, d ≠ .interface ms := by rw [hu] at hc; intro ms e; subst e; cases hc
              split at h
              · rename_i et
                cases h
                subst et
                refine Comes'.val hs ⟨.tuple #[u, .bool true], ?_, .tup _ _ rfl ?_⟩
                · simp only [Instr.typeAssert, Sem.run_bind, run_underlying hu, Result.andThen_ok, e]
                  cases d <;> first | (exfalso; exact hni _ rfl) | simp
                · intro i v b hv hb
                  match i with
                  | 0 => simp at hv hb; subst hv; subst hb; exact hr
                  | 1 => simp at hv hb; subst hv; subst hb; exact .v _
                  | i + 2 => simp at hb
              · rename_i hne
                split at h
                · rename_i zz hz
                  cases h
                  obtain ⟨i, v, hi, hiz, rfl⟩ := zero_parts hz
                  refine Comes'.val hs ⟨.tuple #[v, .bool false], ?_, .tup _ _ rfl ?_⟩
                  · simp only [Instr.typeAssert, Sem.run_bind, run_underlying hu, Result.andThen_ok, e]
                    cases d <;> first | (exfalso; exact hni _ rfl) | simp [hne, zeroValue, typeInfo, hi, hiz]
                  · intro i x b hv hb
                    match i with
                    | 0 => simp at hv hb; subst hv; subst hb; exact ofValue_rel π v
                    | 1 => simp at hv hb; subst hv; subst hb; exact .v _
                    | i + 2 => simp at hb
                · cases h
        · cases h
      · cases h
  case call c =>
    obtain ⟨callee, args, argTypes⟩ := c
    cases callee with
    | builtin b =>
      simp only at h
      split at h
      · rename_i z hz
        cases h
        have hargs := ha.args args
        have hres : (resolve act.eval { callee := .builtin b, args := args, argTypes := argTypes } o.type).run P w = .ok { target := .builtin b argTypes o.type (args.map fun | .const _ => true | _ => false), args := args.map act.eval } w := rfl
        simp only [Sem.run_bind, hres, Result.andThen_ok, invoke]
        unfold lookA at hz
        split at hz
        · rename_i t y hts hxs
          cases hl : lenA P S t y with
          | none => simp [hl] at hz
          | some n =>
            simp only [hl, Option.some.injEq] at hz
            subst hz
            have hat : argTypes = #[t] := by cases argTypes; simp at hts; subst hts; rfl
            rw [hxs] at hargs
            have hsz : (args.map act.eval).size = 1 := hargs.1
            obtain ⟨v, hv1, hv2⟩ := hargs.get (i := 0) rfl
            have hav : args.map act.eval = #[v] := by
              apply Array.ext_getElem?
              intro i
              cases i with
              | zero => simpa using hv1
              | succ i => rw [Array.getElem?_eq_none (by omega)]; simp
            rw [hav, hat]
            have := run_lenA (P := P) hs o.type hv2 hl
            exact Comes'.val hs ⟨_, this, .v _⟩
        · rename_i t y hts hxs
          cases hl : capA P t y with
          | none => simp [hl] at hz
          | some n =>
            simp only [hl, Option.some.injEq] at hz
            subst hz
            have hat : argTypes = #[t] := by cases argTypes; simp at hts; subst hts; rfl
            rw [hxs] at hargs
            have hsz : (args.map act.eval).size = 1 := hargs.1
            obtain ⟨v, hv1, hv2⟩ := hargs.get (i := 0) rfl
            have hav : args.map act.eval = #[v] := by
              apply Array.ext_getElem?
              intro i
              cases i with
              | zero => simpa using hv1
              | succ i => rw [Array.getElem?_eq_none (by omega)]; simp
            rw [hav, hat]
            have := run_capA (P := P) (w := w) o.type hv2 hl
            exact Comes'.val hs ⟨_, this, .v _⟩
        · rename_i k x' k' y' hxs
          cases hz
          rw [hxs] at hargs
          have hav : args.map act.eval = #[.int k x', .int k' y'] := by
            apply Array.ext_getElem?
            intro i
            match i with
            | 0 => obtain ⟨v, hv1, hv2⟩ := hargs.get (i := 0) rfl; cases hv2; simpa using hv1
            | 1 => obtain ⟨v, hv1, hv2⟩ := hargs.get (i := 1) rfl; cases hv2; simpa using hv1
            | i + 2 => rw [Array.getElem?_eq_none (by rw [hargs.1]; simp)]; simp
          rw [hav]
          exact Comes'.val hs ⟨_, run_max_int2 w _ _ k k' x' y', .v _⟩
        · rename_i k x' k' y' hxs
          cases hz
          rw [hxs] at hargs
          have hav : args.map act.eval = #[.int k x', .int k' y'] := by
            apply Array.ext_getElem?
            intro i
            match i with
            | 0 => obtain ⟨v, hv1, hv2⟩ := hargs.get (i := 0) rfl; cases hv2; simpa using hv1
            | 1 => obtain ⟨v, hv1, hv2⟩ := hargs.get (i := 1) rfl; cases hv2; simpa using hv1
            | i + 2 => rw [Array.getElem?_eq_none (by rw [hargs.1]; simp)]; simp
          rw [hav]
          exact Comes'.val hs ⟨_, run_min_int2 w _ _ k k' x' y', .v _⟩
        · cases hz
      · cases h
    | value f => cases h
    | invoke r m => cases h
  all_goals cases h
end
end Go.Aw
