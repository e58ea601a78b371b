/- What each operation does to abstract values, and that the machine's operation does just that. No condition: definitions and lemmas. -/
import Derived.Test.YtedicdnflpjhkaaDoorA0
namespace Go.Aw
open Go.RowKit
variable {D : List Deferred}

def undefA : AV := .v undef
structure AAct where
  tmps : List AV

def ofCell : Value → AV
  | .string s => .str s.data.toList
  | x => .v x
theorem ofCell_rel (π : Pi) (x : Value) : VR π x (ofCell x) := by cases x <;> first | exact .v _ | exact .str _ _ rfl
def ofValue : Value → AV
  | .agg cs => .agg (cs.toList.map ofCell)
  | .string s => .str s.data.toList
  | x => .v x
theorem ofValue_rel (π : Pi) (x : Value) : VR π x (ofValue x) := by
  cases x <;> try first | exact .v _ | exact .str _ _ rfl
  rename_i cs
  refine .agg _ _ (by simp) ?_
  intro i x a hx ha
  simp only [List.getElem?_map, Array.getElem?_toList, hx, Option.map_some, Option.some.injEq] at ha
  subst ha
  exact ofCell_rel π x

def AAct.get (a : AAct) : Operand → AV
  | .tmp t => a.tmps.getD t undefA
  | .const c => ofValue c
  | .func f => .fn (.func f) []
  | .global g => .v (.pointer (some ⟨g, 0, none⟩))
def AAct.put (a : AAct) (dst : Option Tmp) (x : AV) : AAct :=
  match dst with
  | some d => ⟨a.tmps.set d x⟩
  | none => a

structure ARel (D : List Deferred) (π : Pi) (act : Act) (a : AAct) : Prop where
  tmps : PW π act.tmps a.tmps
  defers : act.defers = D

theorem ARel.mono {π π' : Pi} (h : π.le π') {act : Act} {a : AAct} (r : ARel D π act a) : ARel D π' act a := ⟨r.tmps.mono h, r.defers⟩
theorem ARel.eval {π : Pi} {act : Act} {a : AAct} (r : ARel D π act a) (x : Operand) : VR π (act.eval x) (a.get x) := by
  cases x with
  | tmp t =>
    simp only [Act.eval, AAct.get]
    by_cases ht : t < a.tmps.length
    · obtain ⟨x, hx, hr⟩ := r.tmps.get (List.getElem?_eq_getElem ht)
      have hlt : t < act.tmps.size := by rw [r.tmps.1]; exact ht
      have e : act.tmps[t] = x := by rw [Array.getElem?_eq_getElem hlt] at hx; exact Option.some.inj hx
      simp only [List.getD, List.getElem?_eq_getElem ht, Option.getD_some, Array.getD, hlt, dite_true]
      show VR π act.tmps[t] _
      rw [e]; exact hr
    · have h2 : ¬ t < act.tmps.size := by rw [r.tmps.1]; exact ht
      simp only [List.getD, List.getElem?_eq_none (Nat.le_of_not_lt ht), Option.getD_none]
      simp only [Array.getD, h2, dite_false]
      exact .v _
  | const c => exact ofValue_rel π c
  | func f => exact .fn _ _ _ rfl (by simp)
  | global g => exact .v _
theorem ARel.put {π : Pi} {act : Act} {a : AAct} (r : ARel D π act a) (dst : Option Tmp) {x : Value} {y : AV} (h : VR π x y) : ARel D π (act.put dst x) (a.put dst y) := by
  cases dst with
  | none => exact r
  | some d =>
    refine ⟨⟨by simp [Act.put, AAct.put, r.tmps.1], ?_⟩, r.defers⟩
    intro i v b hv hb
    simp only [Act.put, AAct.put, Array.getElem?_setIfInBounds, List.getElem?_set] at hv hb
    by_cases e : d = i
    · subst e
      simp only [if_true] at hv hb
      split at hv
      · split at hb
        · cases hv; cases hb; exact h
        · cases hb
      · cases hv
    · simp only [e, if_false] at hv hb
      exact r.tmps.2 i v b hv hb

/-! ### cells -/
def AV.cells : AV → List AV
  | .agg cs => cs
  | x => [x]
/-- A value whose cells are seen: not an aggregate of the machine's own. -/
def AV.seen : AV → Bool
  | .v (.agg _) => false
  | _ => true
def AV.one : AV → Bool
  | .v x => x.oneCell'
  | .agg _ | .tup _ => false
  | _ => true
theorem VR.cells {π : Pi} {x : Value} {a : AV} (h : VR π x a) (hs : a.seen = true) : PW π x.cells a.cells := by
  cases h with
  | agg cs as hl hh => exact ⟨hl, hh⟩
  | v x => 
    cases x <;> first
      | (simp [AV.seen] at hs; done)
      | (refine ⟨rfl, fun i y b hy hb => ?_⟩
         cases i with
         | zero => simp [Value.cells, AV.cells] at hy hb; subst hy; subst hb; exact .v _
         | succ n => simp [AV.cells] at hb)
  | _ =>
    refine ⟨rfl, fun i y b hy hb => ?_⟩
    cases i with
    | zero => simp [Value.cells, AV.cells] at hy hb; subst hy; subst hb; constructor <;> assumption
    | succ n => simp [AV.cells] at hb
theorem VR.one {π : Pi} {x : Value} {a : AV} (h : VR π x a) (h1 : a.one = true) : x.oneCell' = true := by
  cases h <;> first | rfl | exact h1 | cases h1
theorem PW.ones {π : Pi} {cs : Array Value} {as : List AV} (h : PW π cs as) (h1 : as.all AV.one = true) : ∀ x ∈ cs.toList, x.oneCell' = true := by
  intro x hx
  obtain ⟨i, hi, e⟩ := List.mem_iff_getElem.1 hx
  have hi' : i < as.length := by rw [← h.1]; simpa using hi
  have hx' : cs[i]? = some x := by rw [← Array.getElem?_toList, List.getElem?_eq_getElem hi, e]
  exact (h.2 i x as[i] hx' (List.getElem?_eq_getElem hi')).one (List.all_eq_true.1 h1 _ (List.getElem_mem hi'))

theorem PW.of_list {π : Pi} {l : List Value} {as : List AV} (hl : l.length = as.length) (h : ∀ (i : Nat) (x : Value) (a : AV), l[i]? = some x → as[i]? = some a → VR π x a) : PW π l.toArray as :=
  ⟨by simpa using hl, fun i x a hx ha => h i x a (by simpa using hx) ha⟩
theorem PW.take {π : Pi} {cs : Array Value} {as : List AV} (h : PW π cs as) (n : Nat) : PW π (cs.toList.take n).toArray (as.take n) :=
  .of_list (by simp [h.1]) (fun i x a hx ha => by
    rw [List.getElem?_take] at hx ha
    split at hx
    · rename_i hi
      simp only [hi, if_true] at ha
      exact h.2 i x a (by simpa using hx) ha
    · cases hx)
theorem PW.drop {π : Pi} {cs : Array Value} {as : List AV} (h : PW π cs as) (n : Nat) : PW π (cs.toList.drop n).toArray (as.drop n) :=
  .of_list (by simp [h.1]) (fun i x a hx ha => by
    rw [List.getElem?_drop] at hx ha
    exact h.2 _ x a (by simpa using hx) ha)
theorem PW.append {π : Pi} {cs ds : Array Value} {as bs : List AV} (h : PW π cs as) (k : PW π ds bs) : PW π (cs.toList ++ ds.toList).toArray (as ++ bs) :=
  .of_list (by simp [h.1, k.1]) (fun i x a hx ha => by
    have e : cs.toList.length = as.length := by simpa using h.1
    rw [List.getElem?_append] at hx ha
    rw [e] at hx
    split at hx
    · rename_i hi; simp only [hi, if_true] at ha; exact h.2 i x a (by simpa using hx) ha
    · rename_i hi; simp only [hi, if_false] at ha; exact k.2 _ x a (by simpa using hx) ha)
theorem PW.extract {π : Pi} {cs : Array Value} {as : List AV} (h : PW π cs as) (i n : Nat) : PW π (cs.extract i (i + n)) ((as.drop i).take n) := by
  refine ⟨by simp [h.1]; omega, fun j x a hx ha => ?_⟩
  rw [Array.getElem?_extract] at hx
  rw [List.getElem?_take, List.getElem?_drop] at ha
  split at hx
  · split at ha
    · exact h.2 _ x a hx ha
    · cases ha
  · cases hx

/-! ### types -/
/-- Is a type's value an aggregate, and of how many cells? -/
def tkind (P : Program) (t : TypeId) : Option (Bool × Nat) :=
  match P.underlying t, P.info? t with
  | some d, some i => some ((match d with | .struct _ | .array _ _ => true | _ => false), i.size)
  | _, _ => none
def fieldD (P : Program) (t : TypeId) (f : Nat) : Option (Nat × TypeId) := match P.underlying t with | some (.struct fs) => (fs[f]?).map fun x => (x.offset, x.type) | _ => none
def sliceD (P : Program) (t : TypeId) : Option TypeId := match P.underlying t with | some (.slice e) => some e | _ => none
def arrD (P : Program) (t : TypeId) : Option (Nat × TypeId) := match P.underlying t with | some (.array n e) => some (n, e) | _ => none
def intD (P : Program) (t : TypeId) : Option IntKind := match P.underlying t with | some (.int k) => some k | _ => none
def strD (P : Program) (t : TypeId) : Bool := match P.underlying t with | some .string => true | _ => false
def zeroD (P : Program) (t : TypeId) : Option AV := ((P.info? t).bind (·.zero)).map ofValue
def structD (P : Program) (t : TypeId) : Option (List (Nat × TypeId)) := match P.underlying t with | some (.struct fs) => some (fs.toList.map fun f => (f.offset, f.type)) | _ => none

section
variable {P : Program} {π : Pi} {w : World} {t : TypeId}
theorem tkind_parts {b : Bool} {n : Nat} (h : tkind P t = some (b, n)) : ∃ d i, P.underlying t = some d ∧ P.info? t = some i ∧ i.size = n ∧ (match d with | .struct _ | .array _ _ => true | _ => false) = b := by
  unfold tkind at h
  cases hu : P.underlying t with
  | none => simp [hu] at h
  | some d =>
    cases hi : P.info? t with
    | none => simp [hu, hi] at h
    | some i => simp only [hu, hi, Option.some.injEq, Prod.mk.injEq] at h; exact ⟨d, i, rfl, rfl, h.2, h.1⟩
theorem run_isAgg {b : Bool} {n : Nat} (h : tkind P t = some (b, n)) : (isAgg t).run P w = .ok b w := by
  obtain ⟨d, i, hu, _, _, hd⟩ := tkind_parts h
  unfold isAgg
  simp only [Sem.run_bind, run_underlying hu, Result.andThen_ok]
  cases d <;> simp_all
theorem run_size {b : Bool} {n : Nat} (h : tkind P t = some (b, n)) : (sizeOf t).run P w = .ok n w := by
  obtain ⟨d, i, _, hi, hn, _⟩ := tkind_parts h
  simp [sizeOf, typeInfo, hi, hn]
theorem add_off (B off j : Nat) : (⟨B, off, none⟩ : Addr).add j = ⟨B, off + j, none⟩ := by unfold Addr.add; split <;> simp_all

/-- What is read at a place from which cells stand so. -/
def loadC (P : Program) (t : TypeId) (cells : List AV) : Option AV :=
  match tkind P t with
  | some (true, n) => if n ≤ cells.length then some (.agg (cells.take n)) else none
  | some (false, _) => cells.head?
  | none => none

theorem run_loadC {B off : Nat} {cells : List AV} {x : AV} (hc : ∀ (j : Nat) (a : AV), cells[j]? = some a → ∃ u, w.cell? ⟨B, off + j, none⟩ = some u ∧ VR π u a) (h : loadC P t cells = some x) :
    ∃ u, (loadVar t ⟨B, off, none⟩).run P w = .ok u w ∧ VR π u x := by
  unfold loadC at h
  split at h
  · rename_i n hk
    split at h
    · rename_i hn
      cases h
      have hf : ∀ j, j < n → ∃ u, w.cell? ⟨B, off + j, none⟩ = some u ∧ ∀ a, cells[j]? = some a → VR π u a := by
        intro j hj
        obtain ⟨u, h1, h2⟩ := hc j cells[j] (List.getElem?_eq_getElem (by omega))
        exact ⟨u, h1, fun a ha => by rw [List.getElem?_eq_getElem (by omega)] at ha; cases ha; exact h2⟩
      let f : Nat → Value := fun j => (w.cell? ⟨B, off + j, none⟩).getD undef
      have hl := run_loadCells (P := P) w ⟨B, off, none⟩ n f (fun j hj => by
        obtain ⟨u, h1, _⟩ := hf j hj
        rw [add_off, h1]; simp [f, h1])
      refine ⟨.agg ((List.range n).map f).toArray, ?_, ?_⟩
      · simp only [loadVar, Sem.run_bind, run_isAgg hk, Result.andThen_ok, if_true, run_size hk, hl, Sem.run_pure]
      · refine .agg _ _ (by simp; omega) ?_
        intro i y a hy ha
        rw [List.getElem?_take] at ha
        split at ha
        · rename_i hi
          obtain ⟨u, h1, h2⟩ := hf i hi
          have : y = u := by simp [hi, f, h1] at hy; exact hy.symm
          subst this
          exact h2 a ha
        · cases ha
    · cases h
  · rename_i n hk
    cases cells with
    | nil => cases h
    | cons a rest =>
      cases h
      obtain ⟨u, h1, h2⟩ := hc 0 x rfl
      refine ⟨u, ?_, h2⟩
      simp only [loadVar, Sem.run_bind, run_isAgg hk, Result.andThen_ok, Bool.false_eq_true, if_false, run_load]
      rw [Nat.add_zero] at h1
      rw [h1]
  · cases h

variable {b0 : Nat} {w0 : World} {S : AS}
theorem Sim.cells_at (hs : Sim b0 w0 π S w) {B : Nat} {cells : List AV} {ety : TypeId} (hB : S B = some (.var cells ety)) (off : Nat) :
    ∀ (j : Nat) (a : AV), (cells.drop off)[j]? = some a → ∃ u, w.cell? ⟨B, off + j, none⟩ = some u ∧ VR π u a := by
  intro j a ha
  obtain ⟨_, ⟨cs, hh, hp⟩, _⟩ := hs.obj B _ hB
  rw [List.getElem?_drop] at ha
  obtain ⟨u, hu, hr⟩ := hp.get ha
  exact ⟨u, by rw [cell_of_row w B (off + j) cs ety (0, 0) hh]; exact hu, hr⟩

/-- An address, and what may be read from there. -/
def cellsAt (S : AS) : AV → Option (List AV)
  | .ptr B off => match S B with | some (.var cells _) => some (cells.drop off) | _ => none
  | .cptr cells => some cells
  | _ => none

theorem run_loadAt (hs : Sim b0 w0 π S w) {v : Value} {p : AV} (hv : VR π v p) {cells : List AV} (hc : cellsAt S p = some cells) {x : AV} (h : loadC P t cells = some x) :
    ∃ u, (Instr.loadAt t v).run P w = .ok u w ∧ VR π u x := by
  cases hv with
  | ptr B off =>
    simp only [cellsAt] at hc
    cases hB : S B with
    | none => simp [hB] at hc
    | some o =>
      cases o with
      | var cs ety =>
        simp only [hB, Option.some.injEq] at hc
        subst hc
        obtain ⟨u, h1, h2⟩ := run_loadC (hs.cells_at hB off) h
        exact ⟨u, by simpa [Instr.loadAt, Instr.sureAddr] using h1, h2⟩
      | _ => simp [hB] at hc
  | cptr B off cs val hp hvv =>
    simp only [cellsAt, Option.some.injEq] at hc
    subst hc
    obtain ⟨u, h1, h2⟩ := run_loadC (B := B) (off := off) (w := w) (fun j a ha => ⟨val j, hs.pi _ _ _ (hp j (List.getElem?_eq_some_iff.1 ha).1), hvv j a ha⟩) h
    exact ⟨u, by simpa [Instr.loadAt, Instr.sureAddr] using h1, h2⟩
  | _ => simp [cellsAt] at hc

/-- What becomes of the cells of a variable that is written. -/
def storeC (P : Program) (t : TypeId) (cells : List AV) (off : Nat) (y : AV) : Option (List AV) :=
  match tkind P t with
  | some (_, n) => if y.seen && y.cells.length == n && y.cells.all AV.one && decide (off + n ≤ cells.length) then some (cells.take off ++ y.cells ++ cells.drop (off + n)) else none
  | none => none

theorem run_storeAt (hs : Sim b0 w0 π S w) {B off : Nat} {cells cells' : List AV} {ety : TypeId} (hB : S B = some (.var cells ety)) {u : Value} {y : AV} (hu : VR π u y)
    (h : storeC P t cells off y = some cells') : ∃ w', (Instr.storeAt t (.pointer (some ⟨B, off, none⟩)) u).run P w = .ok () w' ∧ Sim b0 w0 π (S.set B (.var cells' ety)) w' := by
  unfold storeC at h
  split at h
  · rename_i b n hk
    split at h
    · rename_i hcond
      cases h
      simp only [Bool.and_eq_true, beq_iff_eq, decide_eq_true_eq] at hcond
      obtain ⟨⟨⟨hseen, hlen⟩, hone⟩, hfit⟩ := hcond
      obtain ⟨_, ⟨cs, hh, hp⟩, _⟩ := hs.obj B _ hB
      have hcs := hu.cells hseen
      have hsz : cs.size = cells.length := hp.1
      have hul : u.cells.toList.length = n := by simp [hcs.1, hlen]
      have hst := run_storeCells_at P B off ety u.cells.toList 0 cs w hh (by rw [hul]; omega) (hcs.ones hone)
      refine ⟨_, ?_, hs.setRow hB (cs := (cs.toList.take off ++ u.cells.toList ++ cs.toList.drop (off + u.cells.toList.length)).toArray) ?_⟩
      · simp only [Instr.storeAt, Instr.sureAddr, storeVar, Sem.run_bind, Sem.run_pure, Result.andThen_ok, run_size hk]
        rw [if_neg (by simp [hcs.1, hlen])]
        simpa using hst
      · have h1 := ((hp.take off).append hcs).append (hp.drop (off + n))
        rw [hul]
        simpa using h1
    · cases h
  · cases h

theorem run_newVar (hs : Sim b0 w0 π S w) (e : TypeId) {u : Value} {y : AV} (hu : VR π u y) (hseen : y.seen = true) :
    ∃ w', (newVar e u).run P w = .ok ⟨w.heap.size, 0, none⟩ w' ∧ Sim b0 w0 π (S.set w.heap.size (.var y.cells e)) w' := by
  refine ⟨w.alloc (.cells u.cells e), by simp [newVar, newRow], ?_⟩
  exact hs.alloc _ ⟨⟨u.cells, heap_alloc_new w _, hu.cells hseen⟩, fun o => hs.pi_fresh (Nat.le_refl _) o⟩

theorem zero_parts {z : AV} (h : zeroD P t = some z) : ∃ i v, P.info? t = some i ∧ i.zero = some v ∧ z = ofValue v := by
  unfold zeroD at h
  cases hi : P.info? t with
  | none => simp [hi] at h
  | some i =>
    cases hz : i.zero with
    | none => simp [hi, hz] at h
    | some v => simp [hi, hz] at h; exact ⟨i, v, rfl, hz, h.symm⟩
theorem ofValue_seen (v : Value) : (ofValue v).seen = true := by cases v <;> rfl
end
end Go.Aw
