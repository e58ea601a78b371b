/- What each operation does to abstract values, second part: addresses, slices, values that are built, arithmetic. No condition: definitions and lemmas. -/
import Derived.Test.YtedicdnflpjhkaaDoorA1
import Derived.Great.FillDense
import Derived.Laws.Build
import Derived.Laws.Small
set_option linter.unusedVariables false
namespace Go.Aw
open Go.RowKit

section
variable {P : Program} {π : Pi} {w : World} {t : TypeId} {b0 : Nat} {w0 : World} {S : AS}

/-! ### addresses -/
def fieldA (P : Program) (t : TypeId) (f : Nat) (p : AV) : Option AV :=
  match fieldD P t f with
  | some (o, ft) =>
    match tkind P ft with
    | some (_, n) => if n = 0 then none else match p with
      | .ptr B off => some (.ptr B (off + o))
      | .cptr cells => some (.cptr (cells.drop o))
      | _ => none
    | none => none
  | none => none
theorem fieldD_parts {f o : Nat} {ft : TypeId} (h : fieldD P t f = some (o, ft)) : ∃ fs x, P.underlying t = some (.struct fs) ∧ fs[f]? = some x ∧ x.offset = o ∧ x.type = ft := by
  unfold fieldD at h
  cases hu : P.underlying t with
  | none => simp [hu] at h
  | some d =>
    cases d with
    | struct fs =>
      cases hf : fs[f]? with
      | none => simp [hu, hf] at h
      | some x => simp [hu, hf] at h; exact ⟨fs, x, rfl, hf, h.1, h.2⟩
    | _ => simp [hu] at h
theorem run_fieldAt {f : Nat} {v : Value} {p x : AV} (hv : VR π v p) (h : fieldA P t f p = some x) : ∃ u, (Instr.fieldAt t v f).run P w = .ok u w ∧ VR π u x := by
  unfold fieldA at h
  split at h
  · rename_i o ft hf
    obtain ⟨fs, fd, hu, hfs, ho, ht⟩ := fieldD_parts hf
    split at h
    · rename_i bb n hk
      split at h
      · cases h
      · rename_i hn
        have run : ∀ B off, (Instr.fieldAt t (.pointer (some ⟨B, off, none⟩)) f).run P w = .ok (.pointer (some ⟨B, off + o, none⟩)) w := by
          intro B off
          have hk' : tkind P fd.type = some (bb, n) := by rw [ht]; exact hk
          simp only [Instr.fieldAt, Sem.run_bind, run_underlying hu, Result.andThen_ok, hfs, Instr.sureAddr, Sem.run_pure, fieldPlace, run_size hk']
          rw [if_neg hn]
          simp only [Sem.run_pure, Result.andThen_ok, add_off, ho]
        cases hv with
        | ptr B off => simp only [Option.some.injEq] at h; subst h; exact ⟨_, run B off, .ptr _ _⟩
        | cptr B off cells val hp hvv =>
          simp only [Option.some.injEq] at h
          subst h
          refine ⟨_, run B off, .cptr B (off + o) _ (fun j => val (o + j)) ?_ ?_⟩
          · intro j hj
            rw [List.length_drop] at hj
            have := hp (o + j) (by omega)
            rw [Nat.add_assoc]; exact this
          · intro j a ha
            rw [List.getElem?_drop] at ha
            exact hvv _ a ha
        | _ => cases h
    · cases h
  · cases h

/-- What a slice holds, whether it is nil or not. -/
def elems : AV → Option (List (List AV))
  | .sl es _ => some es
  | .v (.slice none 0 0) => some []
  | _ => none

def indexA0 (P : Program) (t : TypeId) (x i : AV) : Option AV :=
  match i with
  | .v (.int _ n) =>
    match arrD P t with
    | some (len, e) =>
      match tkind P e with
      | some (_, s) => if 0 ≤ n ∧ n < len then match x with
        | .ptr B off => some (.ptr B (off + n.toNat * s))
        | .cptr cells => some (.cptr ((cells.drop (n.toNat * s)).take s))
        | _ => none else none
      | none => none
    | none =>
      match sliceD P t with
      | some e =>
        match tkind P e, x with
        | some (_, s), .sl es _ => if 0 ≤ n then match es[n.toNat]? with
          | some cs => if cs.length = s then some (.cptr cs) else none
          | none => none else none
        | _, _ => none
      | none => none
  | _ => none
theorem sliceD_parts {e : TypeId} (h : sliceD P t = some e) : P.underlying t = some (.slice e) := by
  unfold sliceD at h
  cases hu : P.underlying t with
  | none => simp [hu] at h
  | some d => cases d <;> simp [hu] at h; rw [h]
theorem arrD_parts {n : Nat} {e : TypeId} (h : arrD P t = some (n, e)) : P.underlying t = some (.array n e) := by
  unfold arrD at h
  cases hu : P.underlying t with
  | none => simp [hu] at h
  | some d => cases d <;> simp [hu] at h; rw [h.1, h.2]
theorem ad_add (ad : Addr) (k : Nat) (h : ad.spot = none) : ad.add k = ⟨ad.block, ad.off + k, none⟩ := by
  obtain ⟨b, o, s⟩ := ad
  simp only at h
  subst h
  exact add_off b o k
theorem run_indexAt0 {v i : Value} {x ix y : AV} (hv : VR π v x) (hi : VR π i ix) (h : indexA0 P t x ix = some y) : ∃ u, (Instr.indexAt t v i).run P w = .ok u w ∧ VR π u y := by
  unfold indexA0 at h
  split at h
  · rename_i k n
    cases hi
    split at h
    · rename_i len e hd
      have hu := arrD_parts hd
      split at h
      · rename_i bb s hk
        split at h
        · rename_i hb
          have hb1 : ¬ (len ≤ 1 ∧ False) := by simp
          cases hv with
          | ptr B off =>
            simp only [Option.some.injEq] at h
            subst h
            refine ⟨_, ?_, .ptr _ _⟩
            simp only [Instr.indexAt, asIntOf, Sem.run_bind, Sem.run_pure, Result.andThen_ok, run_underlying hu, Instr.sureAddr, hb, and_self, if_true, run_size hk, add_off]
          | cptr B off cells val hp hvv =>
            simp only [Option.some.injEq] at h
            subst h
            refine ⟨.pointer (some ⟨B, off + n.toNat * s, none⟩), ?_, .cptr _ _ _ (fun j => val (n.toNat * s + j)) ?_ ?_⟩
            · simp only [Instr.indexAt, asIntOf, Sem.run_bind, Sem.run_pure, Result.andThen_ok, run_underlying hu, Instr.sureAddr, hb, and_self, if_true, run_size hk, add_off]
            · intro j hj
              rw [List.length_take, List.length_drop] at hj
              have := hp (n.toNat * s + j) (by omega)
              rw [Nat.add_assoc]; exact this
            · intro j a ha
              rw [List.getElem?_take] at ha
              split at ha
              · rw [List.getElem?_drop] at ha; exact hvv _ a ha
              · cases ha
          | _ => cases h
        · cases h
      · cases h
    · split at h
      · rename_i e hd
        have hu := sliceD_parts hd
        split at h
        · rename_i bb s es own hk
          split at h
          · rename_i h0
            split at h
            · rename_i cs hcs
              split at h
              · rename_i hlen
                cases h
                have hlt : n.toNat < es.length := (List.getElem?_eq_some_iff.1 hcs).1
                cases hv with
                | nilsl => cases hlt
                | sl ad m cap esz es own val hn hes hsp hc hm hp hvv ho =>
                  have hez : esz = s := by rw [← hlen]; exact (hes cs (List.mem_of_getElem? hcs)).symm
                  subst hez
                  have hspot := hsp (by omega)
                  refine ⟨.pointer (some ⟨ad.block, ad.off + n.toNat * esz, none⟩), ?_, .cptr _ _ _ (fun j => val n.toNat j) ?_ ?_⟩
                  · have hb : 0 ≤ n ∧ n < (m : Int) := ⟨h0, by omega⟩
                    simp only [Instr.indexAt, asIntOf, Sem.run_bind, Sem.run_pure, Result.andThen_ok, run_underlying hu, hb, and_self, if_true, run_size hk, ad_add ad _ hspot]
                  · intro j hj
                    have := hp n.toNat j (by omega) (by omega)
                    rw [Nat.add_assoc]; exact this
                  · intro j a ha
                    exact hvv n.toNat j cs a hcs ha
              · cases h
            · cases h
          · cases h
        · cases h
      · cases h
  · cases h

/-- A place of a row of the call's own. -/
def indexW (P : Program) (t : TypeId) (B off n : Nat) (i : AV) : Option AV :=
  match i with
  | .v (.int _ k) => match arrD P t, sliceD P t with
    | none, some e => match tkind P e with
      | some (_, s) => if 0 ≤ k ∧ k < (n : Int) then some (.ptr B (off + k.toNat * s)) else none
      | none => none
    | _, _ => none
  | _ => none
def indexA (P : Program) (t : TypeId) (x i : AV) : Option AV :=
  match x with
  | .win B off n _ => indexW P t B off n i
  | .fsl es => indexA0 P t (.sl es none) i
  | x => indexA0 P t x i
theorem run_indexAt {v i : Value} {x ix y : AV} (hv : VR π v x) (hi : VR π i ix) (h : indexA P t x ix = some y) : ∃ u, (Instr.indexAt t v i).run P w = .ok u w ∧ VR π u y := by
  cases hv with
  | win B off n cap hn hm =>
    simp only [indexA, indexW] at h
    split at h
    · rename_i kk k
      cases hi
      split at h
      · rename_i e h1 h2
        have hu := sliceD_parts h2
        split at h
        · rename_i bb s hk
          split at h
          · rename_i hb
            cases h
            refine ⟨.pointer (some ⟨B, off + k.toNat * s, none⟩), ?_, .ptr _ _⟩
            simp only [Instr.indexAt, asIntOf, Sem.run_bind, Sem.run_pure, Result.andThen_ok, run_underlying hu, hb, and_self, if_true, run_size hk, add_off]
          · cases h
        · cases h
      · cases h
    · cases h
  | fsl ad n es hh hl => exact run_indexAt0 hh hi h
  | v z => exact run_indexAt0 (.v _) hi h
  | str s l hh => exact run_indexAt0 (.str s l hh) hi h
  | ptr B off => exact run_indexAt0 (.ptr B off) hi h
  | cptr B off cells val hp hvv => exact run_indexAt0 (.cptr B off cells val hp hvv) hi h
  | nilsl => exact run_indexAt0 .nilsl hi h
  | sl ad m cap esz es own val hn hes hsp hc hm hp hvv ho => exact run_indexAt0 (.sl ad m cap esz es own val hn hes hsp hc hm hp hvv ho) hi h
  | mp B => exact run_indexAt0 (.mp B) hi h
  | fn f cs as hl hh => exact run_indexAt0 (.fn f cs as hl hh) hi h
  | ifc t x a hh => exact run_indexAt0 (.ifc t x a hh) hi h
  | agg cs as hl hh => exact run_indexAt0 (.agg cs as hl hh) hi h
  | tup cs as hl hh => exact run_indexAt0 (.tup cs as hl hh) hi h

/-! ### slices of slices and strings -/
def boundA (x : Option AV) (d : Nat) : Option Nat :=
  match x with
  | none => some d
  | some (.v (.int _ n)) => if 0 ≤ n then some n.toNat else none
  | _ => none
def sliceA0 (P : Program) (t : TypeId) (x : AV) (lo hi : Option AV) : Option AV :=
  match x with
  | .str s =>
    if strD P t then
      match boundA lo 0, boundA hi s.length with
      | some l, some h => if l ≤ h ∧ h ≤ s.length then some (.str ((s.drop l).take (h - l))) else none
      | _, _ => none
    else none
  | .sl es own =>
    match sliceD P t, boundA lo 0, boundA hi es.length with
    | some e, some l, some h =>
      match tkind P e with
      | some (_, s) => if l ≤ h ∧ h ≤ es.length ∧ es.all (·.length == s) then (if l = 0 ∧ h = es.length then some (.sl es own) else some (.sl ((es.drop l).take (h - l)) none)) else none
      | none => none
    | _, _, _ => none
  | .v (.slice none 0 0) =>
    match sliceD P t, boundA lo 0, boundA hi 0 with
    | some e, some 0, some 0 => if (tkind P e).isSome then some (.v (.slice none 0 0)) else none
    | _, _, _ => none
  | _ => none
/-- An operand that may be absent. -/
def ORl (π : Pi) (x : Option Value) (y : Option AV) : Prop := match x, y with | none, none => True | some v, some a => VR π v a | _, _ => False
theorem run_bound {v : Value} {a : AV} {n m : Nat} (code : BoundsCode) (ha : VR π v a) {d : Nat} (h : boundA (some a) d = some n) (hm : n ≤ m) : (Instr.sliceBound v m code).run P w = .ok n w := by
  cases ha with
  | v x =>
    cases v <;> simp only [boundA] at h <;> try cases h
    rename_i k z
    split at h
    · rename_i h0
      cases h
      have hb : 0 ≤ z ∧ z ≤ (m : Int) := ⟨h0, by omega⟩
      simp [Instr.sliceBound, asIntOf, hb]
    · cases h
  | _ => cases h
theorem run_bounds {lo hi : Option Value} {la ha : Option AV} {len cap l h : Nat} (b : Bool) (hl : ORl π lo la) (hh : ORl π hi ha) (el : boundA la 0 = some l) (eh : boundA ha len = some h) (h1 : l ≤ h) (h2 : h ≤ cap) :
    (Instr.sliceBounds b len cap lo hi none).run P w = .ok (l, h, cap) w := by
  unfold Instr.sliceBounds
  cases hi with
  | none =>
    cases ha with
    | some a => exact hh.elim
    | none =>
      have eh' : len = h := by simpa [boundA] using eh
      subst eh'
      cases lo with
      | none =>
        cases la with
        | some a => exact hl.elim
        | none => have : 0 = l := by simpa [boundA] using el
                  subst this; simp
      | some v =>
        cases la with
        | none => exact hl.elim
        | some a => simp [run_bound (P := P) (w := w) .sliceB hl el h1]
  | some u =>
    cases ha with
    | none => exact hh.elim
    | some c =>
      have e1 := run_bound (P := P) (w := w) (m := cap) (if b then BoundsCode.sliceAcap else .sliceAlen) hh eh h2
      cases lo with
      | none =>
        cases la with
        | some a => exact hl.elim
        | none => have : 0 = l := by simpa [boundA] using el
                  subst this; simp [e1]
      | some v =>
        cases la with
        | none => exact hl.elim
        | some a => simp [e1, run_bound (P := P) (w := w) .sliceB hl el h1]
theorem strD_parts (h : strD P t = true) : P.underlying t = some .string := by
  unfold strD at h
  cases hu : P.underlying t with
  | none => simp [hu] at h
  | some d => cases d <;> simp [hu] at h; rfl
theorem run_sliceAt0 {v : Value} {lo hi : Option Value} {x y : AV} {la ha : Option AV} (hv : VR π v x) (hl : ORl π lo la) (hh : ORl π hi ha) (h : sliceA0 P t x la ha = some y) :
    ∃ u, (Instr.sliceAt t v lo hi none).run P w = .ok u w ∧ VR π u y := by
  unfold sliceA0 at h
  split at h
  · rename_i s
    cases hv with
    | str s _ hs =>
      subst hs
      split at h
      · rename_i hst
        have hu := strD_parts hst
        split at h
        · rename_i l hh' el eh
          split at h
          · rename_i hb
            cases h
            have hsz : s.data.toList.length = s.size := by simp
            rw [hsz] at eh hb
            refine ⟨.string (s.extract l hh'), ?_, .str _ _ ?_⟩
            · simp [Instr.sliceAt, Instr.slice, run_underlying hu, run_bounds (P := P) (w := w) (len := s.size) (cap := s.size) false hl hh el eh hb.1 hb.2]
            · rw [ByteArray.data_extract, Array.toList_extract]
          · cases h
        · cases h
      · cases h
  · rename_i es own
    split at h
    · rename_i e l h' hd el eh
      have hu := sliceD_parts hd
      split at h
      · rename_i bb s hk
        split at h
        · rename_i hb
          obtain ⟨h1, h2, h3⟩ := hb
          cases hv with
          | nilsl =>
            simp only [List.length_nil, Nat.le_zero] at h2
            subst h2
            have : l = 0 := by omega
            subst this
            simp only [List.length_nil, and_self, if_true, Option.some.injEq] at h
            subst h
            refine ⟨.slice none 0 0, ?_, .nilsl⟩
            simp [Instr.sliceAt, Instr.slice, run_underlying hu, run_bounds (P := P) (w := w) (len := 0) (cap := 0) true hl hh el eh (Nat.le_refl _) (Nat.le_refl _), run_size hk]
          | sl ad n cap esz es own val hn hes hsp hc hm hp hvv ho =>
            have hr : (Instr.sliceAt t (.slice (some ad) n cap) lo hi none).run P w = .ok (.slice (if cap = l then some ad else some (ad.add (l * s))) (h' - l) (cap - l)) w := by
              simp [Instr.sliceAt, Instr.slice, run_underlying hu, run_bounds (P := P) (w := w) (len := n) (cap := cap) true hl hh el (by rw [← hn]; exact eh) h1 (by omega), run_size hk]
            split at h
            · rename_i h00
              cases h
              obtain ⟨e1, e2⟩ := h00
              subst e1
              subst e2
              refine ⟨_, hr, ?_⟩
              have : (if cap = 0 then some ad else some (ad.add (0 * s))) = some ad := by split <;> simp [Addr.add]
              rw [this, Nat.sub_zero, Nat.sub_zero, hn]
              exact .sl ad n cap esz es own val hn hes hsp hc hm hp hvv ho
            · cases h
              refine ⟨_, hr, ?_⟩
              by_cases hcl : cap = l
              · have hz : h' - l = 0 := by omega
                have hz2 : cap - l = 0 := by omega
                rw [if_pos hcl, hz, hz2]
                simp only [List.take_zero]
                exact .sl ad 0 0 esz [] none val rfl (by simp) (by omega) (Nat.le_refl _) (by omega) (by omega) (by simp) (by simp)
              · rw [if_neg hcl]
                have hemp : 0 < n → ad.spot = none := hsp
                refine .sl _ (h' - l) (cap - l) esz _ none (fun i j => val (l + i) j) (by simp [hn]; omega) (fun e he => hes e (List.mem_of_mem_drop (List.mem_of_mem_take he))) ?_ (by omega) (by omega) ?_ ?_ (by simp)
                · intro h0
                  have := hemp (by omega)
                  rw [ad_add ad _ this]
                · intro i j hi hj
                  have hs := hemp (by omega)
                  have hez : esz = s := by
                    have hmem : es[l + i] ∈ es := List.getElem_mem (by omega)
                    rw [← hes _ hmem]
                    simpa using List.all_eq_true.1 h3 _ hmem
                  subst hez
                  rw [ad_add ad _ hs]
                  have := hp (l + i) j (by omega) hj
                  rw [show ad.off + l * esz + (i * esz + j) = ad.off + ((l + i) * esz + j) by rw [Nat.add_mul]; omega]
                  exact this
                · intro i j e a he ha
                  rw [List.getElem?_take] at he
                  split at he
                  · rw [List.getElem?_drop] at he; exact hvv (l + i) j e a he ha
                  · cases he
        · cases h
      · cases h
    · cases h
  · split at h
    · rename_i e hd el eh
      have hu := sliceD_parts hd
      split at h
      · rename_i hks
        cases h
        cases hv
        obtain ⟨⟨bb, s⟩, hk⟩ := Option.isSome_iff_exists.1 hks
        refine ⟨.slice none 0 0, ?_, .v _⟩
        simp [Instr.sliceAt, Instr.slice, run_underlying hu, run_bounds (P := P) (w := w) (len := 0) (cap := 0) true hl hh el eh (Nat.le_refl _) (Nat.le_refl _), run_size hk]
      · cases h
    · cases h
  · cases h
/-- Of a row of the call's own. -/
def sliceW (P : Program) (t : TypeId) (B off n cap : Nat) (lo hi : Option AV) : Option AV :=
  match sliceD P t, boundA lo 0, boundA hi n with
  | some e, some l, some h => match tkind P e with
    | some (_, s) => if l ≤ h ∧ h ≤ cap then some (.win B (if cap = l then off else off + l * s) (h - l) (cap - l)) else none
    | none => none
  | _, _, _ => none
def sliceA (P : Program) (t : TypeId) (x : AV) (lo hi : Option AV) : Option AV :=
  match x with
  | .win B off n cap => sliceW P t B off n cap lo hi
  | .fsl es => sliceA0 P t (.sl es none) lo hi
  | x => sliceA0 P t x lo hi
theorem run_sliceAt {v : Value} {lo hi : Option Value} {x y : AV} {la ha : Option AV} (hv : VR π v x) (hl : ORl π lo la) (hh : ORl π hi ha) (h : sliceA P t x la ha = some y) :
    ∃ u, (Instr.sliceAt t v lo hi none).run P w = .ok u w ∧ VR π u y := by
  cases hv with
  | win B off n cap hn hm =>
    simp only [sliceA, sliceW] at h
    split at h
    · rename_i e l h' hd el eh
      have hu := sliceD_parts hd
      split at h
      · rename_i bb s hk
        split at h
        · rename_i hb
          cases h
          refine ⟨.slice (some ⟨B, if cap = l then off else off + l * s, none⟩) (h' - l) (cap - l), ?_, .win _ _ _ _ (by omega) (by omega)⟩
          simp only [Instr.sliceAt, Instr.slice, Sem.run_bind, Sem.run_pure, Result.andThen_ok, run_underlying hu, run_bounds (P := P) (w := w) (len := n) (cap := cap) true hl hh el eh hb.1 hb.2, run_size hk, Option.map_some, add_off]
          by_cases hc : cap = l <;> simp [hc]
        · cases h
      · cases h
    · cases h
  | fsl ad n es h0 h1 => exact run_sliceAt0 h0 hl hh h
  | v z => exact run_sliceAt0 (.v _) hl hh h
  | str s l h0 => exact run_sliceAt0 (.str s l h0) hl hh h
  | ptr B off => exact run_sliceAt0 (.ptr B off) hl hh h
  | cptr B off cells val hp hvv => exact run_sliceAt0 (.cptr B off cells val hp hvv) hl hh h
  | nilsl => exact run_sliceAt0 .nilsl hl hh h
  | sl ad m cap esz es own val hn hes hsp hc hm hp hvv ho => exact run_sliceAt0 (.sl ad m cap esz es own val hn hes hsp hc hm hp hvv ho) hl hh h
  | mp B => exact run_sliceAt0 (.mp B) hl hh h
  | fn f cs as h0 h1 => exact run_sliceAt0 (.fn f cs as h0 h1) hl hh h
  | ifc t x a h0 => exact run_sliceAt0 (.ifc t x a h0) hl hh h
  | agg cs as h0 h1 => exact run_sliceAt0 (.agg cs as h0 h1) hl hh h
  | tup cs as h0 h1 => exact run_sliceAt0 (.tup cs as h0 h1) hl hh h
/-! ### slices with a third bound -/
theorem run_bounds3 {lo hi mx : Option Value} {la ha ma : Option AV} {len cap l h m : Nat} (hl : ORl π lo la) (hh : ORl π hi ha) (hm : ORl π mx ma) (hms : ma.isSome = true) (hhs : ha.isSome = true) (el : boundA la 0 = some l) (eh : boundA ha 0 = some h) (em : boundA ma 0 = some m) (h1 : l ≤ h) (h2 : h ≤ m) (h3 : m ≤ cap) :
    (Instr.sliceBounds true len cap lo hi mx).run P w = .ok (l, h, m) w := by
  cases mx with
  | none => cases ma with
    | none => cases hms
    | some x => exact hm.elim
  | some vm => cases ma with
    | none => exact hm.elim
    | some am =>
      cases hi with
      | none => cases ha with
        | none => cases hhs
        | some x => exact hh.elim
      | some vh => cases ha with
        | none => exact hh.elim
        | some ah =>
          have e1 := run_bound (P := P) (w := w) (m := cap) BoundsCode.slice3Acap hm em h3
          have e2 := run_bound (P := P) (w := w) (m := m) BoundsCode.slice3B hh eh h2
          cases lo with
          | none => cases la with
            | some x => exact hl.elim
            | none =>
              have : 0 = l := by simpa [boundA] using el
              subst this
              simp [Instr.sliceBounds, e1, e2]
          | some vl => cases la with
            | none => exact hl.elim
            | some al =>
              have e3 := run_bound (P := P) (w := w) (m := h) BoundsCode.slice3C hl el h1
              simp [Instr.sliceBounds, e1, e2, e3]
def slice3A (P : Program) (t : TypeId) (x : AV) (lo hi mx : Option AV) : Option AV :=
  if hi.isSome ∧ mx.isSome then
    match sliceD P t, boundA lo 0, boundA hi 0, boundA mx 0 with
    | some e, some l, some h, some m => match tkind P e with
      | some (_, s) => (match x with
        | .win B off n cap => if l ≤ h ∧ h ≤ m ∧ m ≤ cap then some (.win B (if m = l then off else off + l * s) (h - l) (m - l)) else none
        | .sl es _ => if l ≤ h ∧ h = m ∧ m ≤ es.length ∧ es.all (·.length == s) then some (.fsl ((es.drop l).take (h - l))) else none
        | .v (.slice none 0 0) => if l = 0 ∧ h = 0 ∧ m = 0 then some (.fsl []) else none
        | _ => none)
      | none => none
    | _, _, _, _ => none
  else none
theorem run_slice3 {v : Value} {lo hi mx : Option Value} {x y : AV} {la ha ma : Option AV} (hv : VR π v x) (hl : ORl π lo la) (hh : ORl π hi ha) (hm : ORl π mx ma) (h : slice3A P t x la ha ma = some y) :
    ∃ u, (Instr.sliceAt t v lo hi mx).run P w = .ok u w ∧ VR π u y := by
  unfold slice3A at h
  split at h
  · rename_i hsome
    split at h
    · rename_i e l h' m hd el eh em
      have hu := sliceD_parts hd
      split at h
      · rename_i bb s hk
        cases hv with
        | win B off n cap hn hmc =>
          simp only at h
          split at h
          · rename_i hb
            cases h
            refine ⟨.slice (some ⟨B, if m = l then off else off + l * s, none⟩) (h' - l) (m - l), ?_, .win _ _ _ _ (by omega) (by omega)⟩
            simp only [Instr.sliceAt, Instr.slice, Sem.run_bind, Sem.run_pure, Result.andThen_ok, run_underlying hu, run_bounds3 (P := P) (w := w) (len := n) (cap := cap) hl hh hm hsome.2 hsome.1 el eh em hb.1 hb.2.1 hb.2.2, run_size hk, Option.map_some, add_off]
            by_cases hc : m = l <;> simp [hc]
          · cases h
        | nilsl =>
          simp only at h
          split at h
          · rename_i hb
            cases h
            obtain ⟨b1, b2, b3, _⟩ := hb
            simp only [List.length_nil, Nat.le_zero] at b3
            subst b3
            subst b2
            have : l = 0 := by omega
            subst this
            refine ⟨.slice none 0 0, ?_, .fsl none 0 [] .nilsl rfl⟩
            simp [Instr.sliceAt, Instr.slice, run_underlying hu, run_bounds3 (P := P) (w := w) (len := 0) (cap := 0) hl hh hm hsome.2 hsome.1 el eh em (Nat.le_refl _) (Nat.le_refl _) (Nat.le_refl _), run_size hk]
          · cases h
        | v z =>
          cases v <;> try (cases h; done)
          rename_i ad n cap
          cases ad with
          | some _ => cases h
          | none => cases n with
            | succ _ => cases h
            | zero => cases cap with
              | succ _ => cases h
              | zero =>
                simp only at h
                split at h
                · rename_i hb
                  cases h
                  obtain ⟨rfl, rfl, rfl⟩ := hb
                  refine ⟨.slice none 0 0, ?_, .fsl none 0 [] .nilsl rfl⟩
                  simp [Instr.sliceAt, Instr.slice, run_underlying hu, run_bounds3 (P := P) (w := w) (len := 0) (cap := 0) hl hh hm hsome.2 hsome.1 el eh em (Nat.le_refl _) (Nat.le_refl _) (Nat.le_refl _), run_size hk]
                · cases h
        | sl ad n cap esz es own val hn hes hsp hc hmc hp hvv ho =>
          simp only at h
          split at h
          · rename_i hb
            cases h
            obtain ⟨b1, rfl, b3, b4⟩ := hb
            have hr : (Instr.sliceAt t (.slice (some ad) n cap) lo hi mx).run P w = .ok (.slice (if h' = l then some ad else some (ad.add (l * s))) (h' - l) (h' - l)) w := by
              simp only [Instr.sliceAt, Instr.slice, Sem.run_bind, Sem.run_pure, Result.andThen_ok, run_underlying hu, run_bounds3 (P := P) (w := w) (len := n) (cap := cap) hl hh hm hsome.2 hsome.1 el eh em b1 (Nat.le_refl _) (by omega), run_size hk, Option.map_some]
            refine ⟨_, hr, ?_⟩
            by_cases hcl : h' = l
            · have hz : h' - l = 0 := by omega
              rw [if_pos hcl, hz]
              simp only [List.take_zero]
              exact .fsl _ 0 [] (.sl ad 0 0 esz [] none val rfl (by simp) (by omega) (Nat.le_refl _) (by omega) (by omega) (by simp) (by simp)) rfl
            · rw [if_neg hcl]
              refine .fsl _ _ _ (.sl _ (h' - l) (h' - l) esz _ none (fun i j => val (l + i) j) (by simp [hn]; omega) (fun e he => hes e (List.mem_of_mem_drop (List.mem_of_mem_take he))) ?_ (by omega) (by omega) ?_ ?_ (by simp)) (by simp; omega)
              · intro h0
                have := hsp (by omega)
                rw [ad_add ad _ this]
              · intro i j hi' hj
                have hs := hsp (by omega)
                have hez : esz = s := by
                  have hmem : es[l + i] ∈ es := List.getElem_mem (by omega)
                  rw [← hes _ hmem]
                  simpa using List.all_eq_true.1 b4 _ hmem
                subst hez
                rw [ad_add ad _ hs]
                have := hp (l + i) j (by omega) hj
                rw [show ad.off + l * esz + (i * esz + j) = ad.off + ((l + i) * esz + j) by rw [Nat.add_mul]; omega]
                exact this
              · intro i j e a he ha
                rw [List.getElem?_take] at he
                split at he
                · rw [List.getElem?_drop] at he; exact hvv (l + i) j e a he ha
                · cases he
          · cases h
        | _ => cases h
      · cases h
    · cases h
  · cases h
end
end Go.Aw
