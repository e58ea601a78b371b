/- One table of what the operations do to abstract values and states, and that the machine's operations do just that. No condition: definitions and lemmas. -/
import Derived.Test.YtedicdnflpjhkaaDoorA4
namespace Go.Aw
open Go.RowKit

section
variable {P : Program} {π : Pi} {w : World} {t : TypeId} {b0 : Nat} {w0 : World} {S S' : AS}

def unA (op : UnOp) (x : AV) : Option AV :=
  match op, x with
  | .not, .v (.bool b) => some (.v (.bool !b))
  | .neg, .v (.int k n) => some (.v (.int k (k.wrap (0 - n))))
  | _, _ => none
theorem run_unA {op : UnOp} {v : Value} {a x : AV} (hv : VR π v a) (h : unA op a = some x) : ∃ u, (Op.unary op v).run P w = .ok u w ∧ VR π u x := by
  unfold unA at h
  split at h
  · cases hv; cases h; exact ⟨_, rfl, .v _⟩
  · cases hv; cases h; exact ⟨_, by simp [Op.unary, Op.intArith], .v _⟩
  · cases h
def convA (P : Program) (s d : TypeId) (x : AV) : Option AV :=
  match x with
  | .v (.int _ n) => if (P.underlying s).isSome then (match intD P d with | some k => some (.v (.int k (k.wrap n))) | none => none) else none
  | .str l => if strD P s && strD P d then some (.str l) else none
  | _ => none
theorem intD_parts {k : IntKind} (h : intD P t = some k) : P.underlying t = some (.int k) := by
  unfold intD at h
  cases hu : P.underlying t with
  | none => simp [hu] at h
  | some d => cases d <;> simp [hu] at h; rw [h]
theorem run_convA {s d : TypeId} {v : Value} {a x : AV} (hv : VR π v a) (h : convA P s d a = some x) : ∃ u, (convert s d v).run P w = .ok u w ∧ VR π u x := by
  unfold convA at h
  split at h
  · rename_i k n
    cases hv
    split at h
    · rename_i hs
      split at h
      · rename_i k' hk
        cases h
        obtain ⟨e, he⟩ := Option.isSome_iff_exists.1 hs
        refine ⟨_, ?_, .v _⟩
        simp [convert, run_underlying he, run_underlying (intD_parts hk), Conv.intToInt]
      · cases h
    · cases h
  · cases hv with
    | str s' _ hs' =>
      split at h
      · rename_i hc
        simp only [Bool.and_eq_true] at hc
        cases h
        refine ⟨_, ?_, .str _ _ hs'⟩
        simp [convert, run_underlying (strD_parts hc.1), run_underlying (strD_parts hc.2)]
      · cases h
  · cases h

/-- A part of a struct's value. -/
def partA (P : Program) (t : TypeId) (cs : List AV) (off : Nat) : Option AV :=
  match tkind P t with
  | some (true, n) => some (.agg ((cs.drop off).take n))
  | some (false, _) => cs[off]?
  | none => none
theorem run_partA {cs : Array Value} {as : List AV} {off : Nat} {x : AV} (hp : PW π cs as) (h : partA P t as off = some x) : ∃ u, (part t cs off).run P w = .ok u w ∧ VR π u x := by
  unfold partA at h
  split at h
  · rename_i n hk
    cases h
    refine ⟨.agg (cs.extract off (off + n)), ?_, ?_⟩
    · simp only [part, Sem.run_bind, run_isAgg hk, Result.andThen_ok, if_true, run_size hk, Sem.run_pure]
    · exact .agg _ _ (hp.extract off n).1 (hp.extract off n).2
  · rename_i n hk
    obtain ⟨u, hu, hr⟩ := hp.get h
    refine ⟨u, ?_, hr⟩
    simp only [part, Sem.run_bind, run_isAgg hk, Result.andThen_ok, Bool.false_eq_true, if_false, hu, Sem.run_pure]
  · cases h
def fieldVA (P : Program) (t : TypeId) (f : Nat) (x : AV) : Option AV :=
  match x, fieldD P t f with
  | .agg cs, some (o, ft) => partA P ft cs o
  | _, _ => none
theorem run_fieldVA {f : Nat} {v : Value} {a x : AV} (hv : VR π v a) (h : fieldVA P t f a = some x) : ∃ u, (Instr.field t v f).run P w = .ok u w ∧ VR π u x := by
  unfold fieldVA at h
  split at h
  · rename_i cs o ft hf
    obtain ⟨fs, fd, hu, hfs, ho, ht⟩ := fieldD_parts hf
    cases hv with
    | agg cs' _ hl hh =>
      obtain ⟨u, h1, h2⟩ := run_partA (w := w) (π := π) (cs := cs') ⟨hl, hh⟩ h
      refine ⟨u, ?_, h2⟩
      simp only [Instr.field, Sem.run_bind, run_underlying hu, Result.andThen_ok, hfs, asAgg, Sem.run_pure, ht, ho, h1]
  · cases h
def indexVA (P : Program) (t : TypeId) (x i : AV) : Option AV :=
  match x, i with
  | .str l, .v (.int _ n) => if strD P t && decide (0 ≤ n) then (l[n.toNat]?).map fun b => .v (.int .u8 b.toNat) else none
  | .agg cs, .v (.int _ n) => match arrD P t with
    | some (len, e) => if 0 ≤ n ∧ n < len then (match tkind P e with | some (_, s) => partA P e cs (n.toNat * s) | none => none) else none
    | none => none
  | _, _ => none
theorem run_indexVA {v i : Value} {a b x : AV} (hv : VR π v a) (hi : VR π i b) (h : indexVA P t a b = some x) : ∃ u, (Instr.index t v i).run P w = .ok u w ∧ VR π u x := by
  unfold indexVA at h
  split at h
  · rename_i l k n
    cases hi
    cases hv with
    | str s _ hs =>
      split at h
      · rename_i hc
        simp only [Bool.and_eq_true, decide_eq_true_eq] at hc
        have hu := strD_parts hc.1
        cases hb : l[n.toNat]? with
        | none => simp [hb] at h
        | some c =>
          simp only [hb, Option.map_some, Option.some.injEq] at h
          subst h
          refine ⟨_, ?_, .v _⟩
          have hlt : n.toNat < s.size := by
            have := (List.getElem?_eq_some_iff.1 hb).1
            rw [← hs] at this; simpa using this
          have hget : s[n.toNat]? = some c := by
            rw [← hs] at hb
            rw [getElem?_pos s n.toNat hlt]
            have e : s.data.toList[n.toNat]? = some (s[n.toNat]) := by
              rw [Array.getElem?_toList, Array.getElem?_eq_getElem (by simpa using hlt)]; rfl
            rw [e] at hb; exact hb
          simp only [Instr.index, asIntOf, Sem.run_bind, Sem.run_pure, Result.andThen_ok, run_underlying hu, hc.2, if_true, hget]
      · cases h
  · rename_i cs k n
    cases hi
    split at h
    · rename_i len e hd
      have hu := arrD_parts hd
      split at h
      · rename_i hb
        split at h
        · rename_i bb s hk
          cases hv with
          | agg cs' _ hl hh =>
            obtain ⟨u, h1, h2⟩ := run_partA (w := w) (π := π) (cs := cs') ⟨hl, hh⟩ h
            refine ⟨u, ?_, h2⟩
            simp only [Instr.index, asIntOf, Sem.run_bind, Sem.run_pure, Result.andThen_ok, run_underlying hu, hb, and_self, if_true, run_size hk, h1]
        · cases h
      · cases h
    · cases h
  · cases h

/-! ### the builtins that only look -/
def lenA (P : Program) (S : AS) (t : TypeId) (x : AV) : Option Nat :=
  match x with
  | .str l => if strD P t then some l.length else none
  | .sl es _ => if (sliceD P t).isSome then some es.length else none
  | .v (.slice none 0 0) => if (sliceD P t).isSome then some 0 else none
  | .mp B => if (mapD P t).isSome then (match S B with | some (.map es _) => some es.length | _ => none) else none
  | .win _ _ n _ => if (sliceD P t).isSome then some n else none
  | .fsl es => if (sliceD P t).isSome then some es.length else none
  | _ => none
theorem run_lenA (hs : Sim b0 w0 π S w) {v : Value} {a : AV} {n : Nat} (ty : TypeId) (hv : VR π v a) (h : lenA P S t a = some n) : (Builtin.len_ #[t] ty #[v]).run P w = .ok (.int .i64 n) w := by
  unfold lenA at h
  split at h
  · split at h
    · rename_i hst
      cases h
      cases hv with
      | str s _ hs' => subst hs'; simp [Builtin.len_, run_underlying (strD_parts hst), goInt]
    · cases h
  · split at h
    · rename_i hsl
      cases h
      obtain ⟨e, he⟩ := Option.isSome_iff_exists.1 hsl
      cases hv with
      | nilsl => simp [Builtin.len_, run_underlying (sliceD_parts he), goInt]
      | sl ad n cap esz es own val hn => simp [Builtin.len_, run_underlying (sliceD_parts he), goInt, hn]
    · cases h
  · split at h
    · rename_i hsl
      cases h
      obtain ⟨e, he⟩ := Option.isSome_iff_exists.1 hsl
      cases hv
      simp [Builtin.len_, run_underlying (sliceD_parts he), goInt]
    · cases h
  · split at h
    · rename_i B hmp
      obtain ⟨⟨k, e⟩, he⟩ := Option.isSome_iff_exists.1 hmp
      cases hv
      split at h
      · rename_i es clk hS
        cases h
        obtain ⟨_, ⟨es', hh, hsz, _⟩, _⟩ := hs.obj B _ hS
        have hg : (getObj B).run P w = .ok (.map es' clk) w := by simp [getObj, Sem.run, hh]
        simp [Builtin.len_, run_underlying (mapD_parts he), goInt, hg, hsz]
      · cases h
    · cases h
  · split at h
    · rename_i hsl
      cases h
      obtain ⟨e, he⟩ := Option.isSome_iff_exists.1 hsl
      cases hv
      simp [Builtin.len_, run_underlying (sliceD_parts he), goInt]
    · cases h
  · split at h
    · rename_i hsl
      cases h
      obtain ⟨e, he⟩ := Option.isSome_iff_exists.1 hsl
      cases hv with
      | fsl ad n es' hh hl => simp [Builtin.len_, run_underlying (sliceD_parts he), goInt, hl]
    · cases h
  · cases h
/-- What a slice's room is, where that is known. -/
def capA (P : Program) (t : TypeId) (x : AV) : Option Nat :=
  match x with
  | .win _ _ _ c => if (sliceD P t).isSome then some c else none
  | .sl _ (some (_, c)) => if (sliceD P t).isSome then some c else none
  | .fsl es => if (sliceD P t).isSome then some es.length else none
  | .v (.slice none 0 0) => if (sliceD P t).isSome then some 0 else none
  | _ => none
theorem run_capA {v : Value} {a : AV} {n : Nat} (ty : TypeId) (hv : VR π v a) (h : capA P t a = some n) : (Builtin.cap_ #[t] ty #[v]).run P w = .ok (.int .i64 n) w := by
  unfold capA at h
  split at h
  · split at h
    · rename_i hsl
      cases h
      obtain ⟨e, he⟩ := Option.isSome_iff_exists.1 hsl
      cases hv
      simp [Builtin.cap_, run_underlying (sliceD_parts he), goInt]
    · cases h
  · split at h
    · rename_i hsl
      cases h
      obtain ⟨e, he⟩ := Option.isSome_iff_exists.1 hsl
      cases hv with
      | sl ad n cap esz es own val hn hes hs hc hm hp hvv ho =>
        obtain ⟨_, e2⟩ := ho _ rfl
        simp only at e2
        subst e2
        simp [Builtin.cap_, run_underlying (sliceD_parts he), goInt]
    · cases h
  · split at h
    · rename_i hsl
      cases h
      obtain ⟨e, he⟩ := Option.isSome_iff_exists.1 hsl
      cases hv with
      | fsl ad n es' hh hl => simp [Builtin.cap_, run_underlying (sliceD_parts he), goInt, hl]
    · cases h
  · split at h
    · rename_i hsl
      cases h
      obtain ⟨e, he⟩ := Option.isSome_iff_exists.1 hsl
      cases hv
      simp [Builtin.cap_, run_underlying (sliceD_parts he), goInt]
    · cases h
  · cases h
def lookA (P : Program) (S : AS) (b : Builtin) (ts : List TypeId) (xs : List AV) : Option AV :=
  match b, ts, xs with
  | .len, [t], [x] => match lenA P S t x with | some n => some (.v (.int .i64 (n : Int))) | none => none
  | .cap, [t], [x] => match capA P t x with | some n => some (.v (.int .i64 (n : Int))) | none => none
  | .max, _, [.v (.int k x), .v (.int _ y)] => some (.v (.int k (if y > x then y else x)))
  | .min, _, [.v (.int k x), .v (.int _ y)] => some (.v (.int k (if y < x then y else x)))
  | _, _, _ => none
end
/-! ### raw pointers, at blocks of the call's own -/
def upTo (P : Program) (s d : TypeId) : Bool := match P.underlying s, P.underlying d with
  | some (.pointer t), some .unsafePointer => (match P.info? t with | some j => j.size != 0 | none => false)
  | _, _ => false
def upFrom (P : Program) (s d ety n off : Nat) : Bool := match P.underlying s, P.underlying d with
  | some .unsafePointer, some (.pointer u) => (P.info? u).isSome && liesAt P P.depth ety (n / P.cellsOf ety) off u 1
  | _, _ => false
def convP (P : Program) (s d : TypeId) (S : AS) : AV → Option AV
  | .ptr B off => match S B with
    | some (.var cells ety) => if upTo P s d = true ∧ off < cells.length then some (.ptr B off) else if upFrom P s d ety cells.length off = true then some (.ptr B off) else none
    | _ => none
  | _ => none
theorem run_convP {P : Program} {b0 : Nat} {w0 : World} {π : Pi} {S : AS} {w : World} (hs : Sim b0 w0 π S w) {s d : TypeId} {v : Value} {a x : AV} (hv : VR π v a) (h : convP P s d S a = some x) : ∃ u, (convert s d v).run P w = .ok u w ∧ VR π u x := by
  cases hv with
  | ptr B off =>
    simp only [convP] at h
    cases hB : S B with
    | none => simp [hB] at h
    | some ob =>
      cases ob with
      | var cells ety =>
        simp only [hB] at h
        obtain ⟨_, ⟨cs, hcs, hpw⟩, _⟩ := hs.obj B _ hB
        have hsh : w.shape? B = some (ety, cells.length) := by rw [← hpw.1]; simp [World.shape?, hcs]
        split at h
        · rename_i hc
          cases h
          obtain ⟨h1, h2⟩ := hc
          unfold upTo at h1
          split at h1
          · rename_i t hs' hd'
            split at h1
            · rename_i j hj
              exact ⟨_, Lib.run_to_unsafe w ⟨B, off, none⟩ hs' hd' hj (by simpa using h1) hsh h2, .ptr B off⟩
            · cases h1
          · cases h1
        · split at h
          · rename_i hc
            cases h
            unfold upFrom at hc
            split at hc
            · rename_i u hs' hd'
              simp only [Bool.and_eq_true] at hc
              obtain ⟨j, hj⟩ := Option.isSome_iff_exists.1 hc.1
              exact ⟨_, Lib.run_from_unsafe w ⟨B, off, none⟩ hs' hd' hj hsh hc.2, .ptr B off⟩
            · cases hc
          · cases h
      | _ => simp [hB] at h
  | _ => simp [convP] at h
end Go.Aw
