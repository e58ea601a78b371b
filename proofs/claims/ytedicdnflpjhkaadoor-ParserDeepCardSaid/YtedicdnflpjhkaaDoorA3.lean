/- What each operation does to abstract values, third part: values that are built, arithmetic, comparisons, conversions. No condition: definitions and lemmas. -/
import Derived.Test.YtedicdnflpjhkaaDoorA2
import Derived.Great.BuildSlice
namespace Go.Aw
open Go.RowKit

section
variable {P : Program} {π : Pi} {w : World} {t : TypeId} {b0 : Nat} {w0 : World} {S : AS}

/-! ### literals -/
def fillA (place : Nat → Option (Nat × Nat)) (cells : List AV) : List (Nat × AV) → Option (List AV)
  | [] => some cells
  | (i, x) :: rest =>
    match place i with
    | none => none
    | some (off, size) => if x.seen && x.cells.length == size && decide (off + size ≤ cells.length) then fillA place (cells.take off ++ x.cells ++ cells.drop (off + size)) rest else none
/-- Parts, place by place. -/
def PartsRel (π : Pi) : List (Nat × Value) → List (Nat × AV) → Prop
  | [], [] => True
  | (i, v) :: r, (j, a) :: s => i = j ∧ VR π v a ∧ PartsRel π r s
  | _, _ => False
theorem foldl_store (off : Nat) (vs cells : Array Value) (h : off + vs.size ≤ cells.size) :
    (vs.zipIdx.foldl (fun cs (x : Value × Nat) => cs.setIfInBounds (off + x.2) x.1) cells).toList = cells.toList.take off ++ vs.toList ++ cells.toList.drop (off + vs.size) := by
  obtain ⟨g1, g2⟩ := Great.foldl_set off vs.toList 0 cells
  have e : vs.zipIdx.foldl (fun cs (x : Value × Nat) => cs.setIfInBounds (off + x.2) x.1) cells = (vs.toList.zipIdx 0).foldl (fun cs (x : Value × Nat) => cs.setIfInBounds (off + x.2) x.1) cells := by
    rw [← Array.foldl_toList]; simp
  rw [e]
  apply List.ext_getElem?
  intro k
  rw [Array.getElem?_toList, g2 k]
  simp only [Nat.add_zero, Array.length_toList]
  rw [List.append_assoc, List.getElem?_append, List.getElem?_append]
  simp only [List.length_take, Array.length_toList, List.getElem?_take, List.getElem?_drop, Array.getElem?_toList]
  by_cases h1 : k < off
  · rw [if_neg (by omega), if_pos (by omega), if_pos h1]
  · rw [if_neg (show ¬ k < min off cells.size by omega)]
    by_cases h2 : k < off + vs.size
    · rw [if_pos (by omega), if_pos (by omega)]
      congr 1
      omega
    · rw [if_neg (by omega), if_neg (by omega)]
      congr 1
      omega
theorem fill_size {place : Nat → Option (Nat × Nat)} : ∀ (ps : List (Nat × Value)) (cells r : Array Value), Instr.fill place cells ps = some r → r.size = cells.size
  | [], cells, r, h => by cases h; rfl
  | (i, v) :: ps, cells, r, h => by
    unfold Instr.fill at h
    cases hp : place i with
    | none => simp [hp] at h
    | some q =>
      obtain ⟨off, size⟩ := q
      simp only [hp] at h
      split at h
      · cases h
      · rw [fill_size ps _ r h]
        have e : v.cells.zipIdx.foldl (fun cs (x : Value × Nat) => cs.setIfInBounds (off + x.2) x.1) cells = (v.cells.toList.zipIdx 0).foldl (fun cs (x : Value × Nat) => cs.setIfInBounds (off + x.2) x.1) cells := by
          rw [← Array.foldl_toList]; simp
        have := (Great.foldl_set off v.cells.toList 0 cells).1
        rw [← e] at this
        exact this
theorem fill_rel {place : Nat → Option (Nat × Nat)} : ∀ (ps : List (Nat × Value)) (qs : List (Nat × AV)) (cells : Array Value) (as as' : List AV), PartsRel π ps qs → PW π cells as → fillA place as qs = some as' →
    ∃ cells', Instr.fill place cells ps = some cells' ∧ PW π cells' as'
  | [], [], cells, as, as', _, hp, h => by cases h; exact ⟨cells, rfl, hp⟩
  | [], _ :: _, _, _, _, h, _, _ => h.elim
  | _ :: _, [], _, _, _, h, _, _ => h.elim
  | (i, v) :: ps, (j, a) :: qs, cells, as, as', hr, hp, h => by
    obtain ⟨rfl, hv, hrest⟩ := hr
    unfold fillA at h
    cases hpl : place i with
    | none => simp [hpl] at h
    | some q =>
      obtain ⟨off, size⟩ := q
      simp only [hpl] at h
      split at h
      · rename_i hc
        simp only [Bool.and_eq_true, beq_iff_eq, decide_eq_true_eq] at hc
        obtain ⟨⟨hs, hl⟩, hf⟩ := hc
        have hcs := hv.cells hs
        have hsz : v.cells.size = size := by rw [hcs.1, hl]
        have hfo := foldl_store off v.cells cells (by rw [hsz, hp.1]; exact hf)
        have hp' : PW π (v.cells.zipIdx.foldl (fun cs (x : Value × Nat) => cs.setIfInBounds (off + x.2) x.1) cells) (as.take off ++ a.cells ++ as.drop (off + size)) := by
          have h1 := ((hp.take off).append hcs).append (hp.drop (off + size))
          have e : v.cells.zipIdx.foldl (fun cs (x : Value × Nat) => cs.setIfInBounds (off + x.2) x.1) cells = (cells.toList.take off ++ v.cells.toList ++ cells.toList.drop (off + v.cells.size)).toArray := by
            rw [← hfo]
          rw [e, hsz]
          simpa using h1
        obtain ⟨cells', h1, h2⟩ := fill_rel ps qs _ _ as' hrest hp' h
        refine ⟨cells', ?_, h2⟩
        unfold Instr.fill
        simp only [hpl]
        rw [if_neg (by simp; constructor; · exact hsz
                       · rw [hsz, hp.1]; omega)]
        exact h1
      · cases h

/-- A struct's fields: where each begins and how many cells it has. -/
def placesD (P : Program) : List (Nat × TypeId) → Option (List (Nat × Nat))
  | [] => some []
  | (o, ft) :: r => match tkind P ft, placesD P r with | some (_, n), some l => some ((o, n) :: l) | _, _ => none
theorem structD_parts {fs : List (Nat × TypeId)} (h : structD P t = some fs) : ∃ xs : Array Field, P.underlying t = some (.struct xs) ∧ fs = xs.toList.map fun f => (f.offset, f.type) := by
  unfold structD at h
  cases hu : P.underlying t with
  | none => simp [hu] at h
  | some d => cases d <;> simp [hu] at h; rename_i xs; exact ⟨xs, rfl, h.symm⟩
theorem run_places : ∀ (xs : List Field) (l : List (Nat × Nat)), placesD P (xs.map fun f => (f.offset, f.type)) = some l →
    (xs.mapM fun f => (do pure (f.offset, ← sizeOf f.type) : Sem (Nat × Nat))).run P w = .ok l w
  | [], l, h => by cases h; simp
  | f :: xs, l, h => by
    simp only [List.map_cons, placesD] at h
    split at h
    · rename_i b n r hk hr
      cases h
      have ih := run_places xs r hr
      simp only [List.mapM_cons, Sem.run_bind, run_size hk, Result.andThen_ok, Sem.run_pure, ih]
    · cases h
/-- A literal of a struct or an array. -/
def buildA (P : Program) (t : TypeId) (parts : List (Nat × AV)) : Option AV :=
  match zeroD P t with
  | some z =>
    match structD P t with
    | some fs => match placesD P fs with
      | some l => (fillA (l[·]?) z.cells parts).map .agg
      | none => none
    | none => match arrD P t with
      | some (_, e) => match tkind P e with
        | some (_, s) => (fillA (fun i => some (i * s, s)) z.cells parts).map .agg
        | none => none
      | none => none
  | none => none
theorem run_build {ps : Array (Nat × Value)} {qs : List (Nat × AV)} {x : AV} (hr : PartsRel π ps.toList qs) (h : buildA P t qs = some x) : ∃ u, (Instr.build t ps).run P w = .ok u w ∧ VR π u x := by
  unfold buildA at h
  split at h
  · rename_i z hz
    obtain ⟨i, v, hi, hiz, rfl⟩ := zero_parts hz
    have hzc := (ofValue_rel π v).cells (ofValue_seen v)
    have hzr : (zeroValue t).run P w = .ok v w := by simp [zeroValue, typeInfo, hi, hiz]
    split at h
    · rename_i fs hfs
      obtain ⟨xs, hu, rfl⟩ := structD_parts hfs
      split at h
      · rename_i l hl
        cases hf : fillA (fun x => l[x]?) (ofValue v).cells qs with
        | none => simp [hf] at h
        | some as' =>
          simp only [hf, Option.map_some, Option.some.injEq] at h
          subst h
          obtain ⟨cells', h1, h2⟩ := fill_rel (π := π) ps.toList qs v.cells _ as' hr hzc hf
          have hpl := run_places (P := P) (w := w) xs.toList l hl
          refine ⟨.agg cells', ?_, .agg _ _ h2.1 h2.2⟩
          have hm : (xs.mapM fun f => (do pure (f.offset, ← sizeOf f.type) : Sem (Nat × Nat))).run P w = .ok l.toArray w := by
            rw [Array.mapM_eq_mapM_toList]
            simp only [Sem.run_map, hpl, Result.andThen_ok]
          have h1' : Instr.fill (fun x => l.toArray[x]?) v.cells ps.toList = some cells' := by simpa using h1
          simp only [Instr.build, Sem.run_bind, hzr, Result.andThen_ok, run_underlying hu, hm, h1', Sem.run_pure]
      · cases h
    · split at h
      · rename_i n e hd
        have hu := arrD_parts hd
        split at h
        · rename_i b s hk
          cases hf : fillA (fun i => some (i * s, s)) (ofValue v).cells qs with
          | none => simp [hf] at h
          | some as' =>
            simp only [hf, Option.map_some, Option.some.injEq] at h
            subst h
            obtain ⟨cells', h1, h2⟩ := fill_rel (π := π) ps.toList qs v.cells _ as' hr hzc hf
            refine ⟨.agg cells', ?_, .agg _ _ h2.1 h2.2⟩
            simp only [Instr.build, Sem.run_bind, hzr, Result.andThen_ok, run_underlying hu, run_size hk, h1, Sem.run_pure]
        · cases h
      · cases h
  · cases h

def chunk {α : Type} (k : Nat) : Nat → List α → List (List α)
  | 0, _ => []
  | n + 1, l => l.take k :: chunk k n (l.drop k)
theorem chunk_length {α : Type} (k : Nat) : ∀ (n : Nat) (l : List α), (chunk k n l).length = n
  | 0, _ => rfl
  | n + 1, l => by simp [chunk, chunk_length k n]
theorem chunk_get {α : Type} (k : Nat) : ∀ (n : Nat) (l : List α) (i j : Nat) (e : List α) (a : α), (chunk k n l)[i]? = some e → e[j]? = some a → l[i * k + j]? = some a
  | 0, _, _, _, _, _, h, _ => by simp [chunk] at h
  | n + 1, l, 0, j, e, a, h, h2 => by
    simp [chunk] at h
    subst h
    rw [List.getElem?_take] at h2
    split at h2
    · simpa using h2
    · cases h2
  | n + 1, l, i + 1, j, e, a, h, h2 => by
    simp only [chunk, List.getElem?_cons_succ] at h
    have := chunk_get k n (l.drop k) i j e a h h2
    rw [List.getElem?_drop] at this
    rw [show (i + 1) * k + j = k + (i * k + j) by rw [Nat.add_mul]; omega]
    exact this
theorem chunk_mem {α : Type} (k : Nat) : ∀ (n : Nat) (l : List α) (e : List α), n * k ≤ l.length → e ∈ chunk k n l → e.length = k
  | 0, _, _, _, h => by simp [chunk] at h
  | n + 1, l, e, hl, h => by
    rw [Nat.add_mul] at hl
    simp only [chunk, List.mem_cons] at h
    rcases h with rfl | h
    · simp; omega
    · exact chunk_mem k n (l.drop k) e (by simp; omega) h

/-- A literal of a slice: its elements. -/
def buildSliceA (P : Program) (t : TypeId) (len : Nat) (parts : List (Nat × AV)) : Option (List (List AV) × TypeId × Nat) :=
  match sliceD P t with
  | some e => match tkind P e, zeroD P e with
    | some (_, s), some z =>
      if s = 0 ∨ len * s > 16777216 ∨ len > 16777216 ∨ z.cells.length ≠ s then none else
      match fillA (fun i => some (i * s, s)) ((List.range (len * s)).map fun i => z.cells.getD (i % s) undefA) parts with
      | some cells => some (chunk s len cells, e, s)
      | none => none
    | _, _ => none
  | none => none

/-- A row that is made here, whole: its cells stay from now on. -/
theorem Sim.newRow (hs : Sim b0 w0 π S w) (e : TypeId) (s n : Nat) {cells : Array Value} {as : List AV} (hp : PW π cells as) (hl : cells.size = n * s) (hn : n ≤ maxLen) :
    ∃ π', π.le π' ∧ Sim b0 w0 π' (S.set w.heap.size (.tip e s n n)) (w.alloc (.cells cells e)) ∧ VR π' (.slice (some ⟨w.heap.size, 0, none⟩) n n) (.sl (chunk s n as) (some (w.heap.size, n))) := by
  let π' : Pi := fun B o => if B = w.heap.size then cells[o]? else π B o
  have hle : π.le π' := by
    intro B o x hx
    have : B ≠ w.heap.size := Nat.ne_of_lt (hs.pi_lt hx)
    simp [π', this, hx]
  have hnew : (w.alloc (.cells cells e)).heap[w.heap.size]? = some (.cells cells e (0, 0)) := heap_alloc_new w _
  refine ⟨π', hle, ?_, ?_⟩
  · have h1 : Sim b0 w0 π S (w.alloc (.cells cells e)) := hs.grown (World.grownBy_alloc w _ none) (fun _ e => by cases e) (fun _ _ _ e => by cases e) (fun _ e => by cases e) (AS.le_refl S)
    refine ⟨h1.below, h1.base, ?_, ?_⟩
    · intro B o x hx
      by_cases hB : B = w.heap.size
      · subst hB
        simp only [π', if_true] at hx
        rw [cell_of_row _ _ o cells e (0, 0) hnew]; exact hx
      · simp only [π', hB, if_false] at hx
        exact h1.pi B o x hx
    · intro B o hB
      unfold AS.set at hB
      split at hB
      · rename_i hBe
        cases hB
        subst hBe
        refine ⟨hs.base, ⟨cells, hnew, hl, Nat.le_refl _, hn⟩, fun o ho => ?_⟩
        simp only [π', if_true]
        exact Array.getElem?_eq_none (by omega)
      · rename_i hBe
        refine ⟨(h1.obj B o hB).1, (h1.obj B o hB).2.pi hle (fun j => by simp [π', hBe])⟩
  · refine .sl ⟨w.heap.size, 0, none⟩ n n s _ _ (fun i j => cells.getD (i * s + j) undef) (chunk_length s n as) (fun el hel => chunk_mem s n as el (by rw [← hp.1, hl]; omega) hel) (fun _ => rfl) (Nat.le_refl _) hn ?_ ?_ (fun q hq => by cases hq; exact ⟨rfl, rfl⟩)
    · intro i j hi hj
      have hlt : i * s + j < cells.size := by
        rw [hl]
        have : (i + 1) * s ≤ n * s := Nat.mul_le_mul_right s hi
        rw [Nat.add_mul] at this
        omega
      simp only [π', if_true, Nat.zero_add]
      simp [Array.getD, hlt]
    · intro i j el a he ha
      have hg := chunk_get s n as i j el a he ha
      obtain ⟨x, hx, hr⟩ := hp.get hg
      have : cells.getD (i * s + j) undef = x := by
        have hlt : i * s + j < cells.size := by rw [hp.1]; exact (List.getElem?_eq_some_iff.1 hg).1
        rw [Array.getElem?_eq_getElem hlt] at hx
        simp only [Array.getD, hlt, dite_true]
        exact Option.some.inj hx
      rw [this]
      exact hr.mono hle

theorem run_buildSlice (hs : Sim b0 w0 π S w) {len : Nat} {ps : Array (Nat × Value)} {qs : List (Nat × AV)} {es : List (List AV)} {e : TypeId} {s : Nat} (hr : PartsRel π ps.toList qs) (h : buildSliceA P t len qs = some (es, e, s)) :
    ∃ w' π', (Instr.buildSlice t len ps).run P w = .ok (.slice (some ⟨w.heap.size, 0, none⟩) len len) w' ∧ π.le π' ∧ Sim b0 w0 π' (S.set w.heap.size (.tip e s len len)) w' ∧
      VR π' (.slice (some ⟨w.heap.size, 0, none⟩) len len) (.sl es (some (w.heap.size, len))) := by
  unfold buildSliceA at h
  split at h
  · rename_i e' hd
    have hu := sliceD_parts hd
    split at h
    · rename_i b s' z hk hz
      split at h
      · cases h
      · rename_i hc
        simp only [not_or, Nat.not_lt, Decidable.not_not] at hc
        obtain ⟨hs0, hb1, hb2, hzl⟩ := hc
        split at h
        · rename_i cells hf
          simp only [Option.some.injEq, Prod.mk.injEq] at h
          obtain ⟨rfl, rfl, rfl⟩ := h
          obtain ⟨i, v, hi, hiz, rfl⟩ := zero_parts hz
          have hzc := (ofValue_rel π v).cells (ofValue_seen v)
          obtain ⟨d, i', hu', hi', hsz, _⟩ := tkind_parts hk
          rw [hi] at hi'
          cases hi'
          have hvs : v.cells.size = s' := by rw [hzc.1, hzl]
          have hzero : PW π ((Array.range (len * s')).map (v.cells[· % v.cells.size]!)) ((List.range (len * s')).map fun i => (ofValue v).cells.getD (i % s') undefA) := by
            refine ⟨by simp, fun k x a hx ha => ?_⟩
            simp only [Array.getElem?_map, Array.getElem?_range, List.getElem?_map] at hx ha
            by_cases hk' : k < len * s'
            · rw [List.getElem?_range hk'] at ha
              simp only [hk', if_true, Option.map_some, Option.some.injEq] at hx ha
              have hlt : k % s' < v.cells.size := by rw [hvs]; exact Nat.mod_lt _ (by omega)
              have hlt2 : k % s' < (ofValue v).cells.length := by rw [hzl]; exact Nat.mod_lt _ (by omega)
              subst hx
              subst ha
              rw [hvs]
              refine hzc.2 (k % s') _ _ ?_ ?_
              · simp [hlt]
              · simp [List.getD, hlt2]
            · simp [hk'] at hx
          obtain ⟨cells', h1, h2⟩ := fill_rel (π := π) ps.toList qs _ _ cells hr hzero hf
          have hsize : cells'.size = len * s' := by rw [fill_size _ _ _ h1]; simp
          have hmax : len ≤ maxLen := by unfold maxLen; omega
          obtain ⟨π', g1, g2, g3⟩ := hs.newRow e' s' len h2 hsize hmax
          refine ⟨_, π', ?_, g1, g2, g3⟩
          by_cases hl0 : len = 0
          · subst hl0
            simp only [Nat.zero_mul] at h1
            have e0 : Array.range 0 = #[] := rfl
            have h1' : Instr.fill (fun i => some (i * s', s')) #[] ps.toList = some cells' := by simpa [e0] using h1
            simp [Instr.buildSlice, run_underlying hu, run_size hk, e0, h1', Go.newRow]
          · exact Go.run_buildSlice w t e' len ps cells' i v hu hi hiz (by rw [hsz]; omega) (by rw [hsz]; exact Nat.mul_ne_zero hl0 hs0) (by rw [hsz]; exact h1)
        · cases h
    · cases h
  · cases h
end
end Go.Aw
