/- Keys: values that are compared cell by cell. No condition: definitions and lemmas. -/
import Derived.Test.YtedicdnflpjhkaaDoorA3
import Derived.Laws.StructEq
set_option linter.unusedSimpArgs false
set_option linter.unusedVariables false
namespace Go.Aw
open Go.RowKit

inductive K1 where
  | int (k : IntKind)
  | str
  | bool
  deriving DecidableEq
def Key1.kind : Key1 → K1
  | .int k _ => .int k
  | .str _ => .str
  | .bool _ => .bool
def Key.cells : Key → List Key1
  | .one c => [c]
  | .agg cs => cs
def Key.isAgg : Key → Bool
  | .one _ => false
  | .agg _ => true
def keyV : Bool → List Key1 → Key
  | true, cs => .agg cs
  | false, [c] => .one c
  | false, _ => .agg []
def key1A : AV → Option Key1
  | .v (.int k n) => some (.int k n)
  | .v (.bool b) => some (.bool b)
  | .str l => some (.str l)
  | _ => none
def keys1A : List AV → Option (List Key1)
  | [] => some []
  | x :: r => match key1A x, keys1A r with | some c, some l => some (c :: l) | _, _ => none
def keyA : AV → Option Key
  | .agg cs => (keys1A cs).map .agg
  | x => (key1A x).map .one

theorem VR.key1 {π : Pi} {v : Value} {a : AV} {c : Key1} (h : VR π v a) (hk : key1A a = some c) : v = c.val := by
  cases h <;> simp only [key1A] at hk <;> try (cases hk; done)
  · cases v <;> simp only [key1A] at hk <;> cases hk <;> rfl
  · cases hk
    rename_i s l hh
    subst hh
    cases s
    simp [Key1.val]
theorem keys1A_get : ∀ {as : List AV} {cs : List Key1}, keys1A as = some cs → as.length = cs.length ∧ ∀ (i : Nat) (a : AV) (c : Key1), as[i]? = some a → cs[i]? = some c → key1A a = some c
  | [], cs, h => by cases h; exact ⟨rfl, by simp⟩
  | x :: r, cs, h => by
    unfold keys1A at h
    split at h
    · rename_i c l h1 h2
      cases h
      obtain ⟨e1, e2⟩ := keys1A_get h2
      refine ⟨by simp [e1], fun i a c' ha hc => ?_⟩
      cases i with
      | zero => simp at ha hc; subst ha; subst hc; exact h1
      | succ i => exact e2 i a c' (by simpa using ha) (by simpa using hc)
    · cases h
theorem PW.keys {π : Pi} {vs : Array Value} {as : List AV} {cs : List Key1} (h : PW π vs as) (hk : keys1A as = some cs) : vs = (cs.map Key1.val).toArray := by
  obtain ⟨e1, e2⟩ := keys1A_get hk
  apply Array.ext_getElem?
  intro i
  rw [List.getElem?_toArray (xs := cs.map Key1.val), List.getElem?_map]
  by_cases hi : i < vs.size
  · have ha : i < as.length := by rw [← h.1]; exact hi
    have hc : i < cs.length := by omega
    rw [Array.getElem?_eq_getElem hi, List.getElem?_eq_getElem hc, Option.map_some]
    rw [(h.2 i vs[i] as[i] (Array.getElem?_eq_getElem hi) (List.getElem?_eq_getElem ha)).key1 (e2 i as[i] cs[i] (List.getElem?_eq_getElem ha) (List.getElem?_eq_getElem hc))]
  · rw [Array.getElem?_eq_none (Nat.le_of_not_lt hi), List.getElem?_eq_none (by rw [← e1, ← h.1]; omega)]; rfl
theorem VR.key {π : Pi} {v : Value} {a : AV} {κ : Key} (h : VR π v a) (hk : keyA a = some κ) : v = κ.val := by
  cases h with
  | agg vs as hl hh =>
    simp only [keyA, Option.map_eq_some_iff] at hk
    obtain ⟨cs, hc, rfl⟩ := hk
    rw [PW.keys ⟨hl, hh⟩ hc]; rfl
  | v x =>
    simp only [keyA, Option.map_eq_some_iff] at hk
    obtain ⟨c, hc, rfl⟩ := hk
    exact (VR.v v : VR π v (.v v)).key1 hc
  | str s l h0 =>
    simp only [keyA, Option.map_eq_some_iff] at hk
    obtain ⟨c, hc, rfl⟩ := hk
    exact (VR.str (π := π) s l h0).key1 hc
  | _ => simp [keyA, key1A] at hk
theorem Key1.rel (π : Pi) (c : Key1) : VR π c.val c.av := by
  cases c with
  | int k n => exact .v _
  | str l => exact .str _ _ (by simp)
  | bool b => exact .v _
theorem Key.rel (π : Pi) (κ : Key) : VR π κ.val κ.av := by
  cases κ with
  | one c => exact c.rel π
  | agg cs =>
    refine .agg _ _ (by simp) ?_
    intro i x a hx ha
    rw [List.getElem?_toArray, List.getElem?_map] at hx
    rw [List.getElem?_map] at ha
    cases hc : cs[i]? with
    | none => simp [hc] at hx
    | some c => simp only [hc, Option.map_some, Option.some.injEq] at hx ha; subst hx; subst ha; exact c.rel π

/-! ### types of keys -/
def shapeFs (P : Program) (f : TypeId → Option (List K1)) : List Field → Nat → Option (List K1)
  | [], _ => some []
  | fd :: r, off => if fd.name = "_" ∨ fd.offset ≠ off then none else
    match f fd.type, tkind P fd.type with
    | some sh, some (b, n) => if n = sh.length ∧ (b = false → n = 1) then (match shapeFs P f r (off + sh.length) with | some l => some (sh ++ l) | none => none) else none
    | _, _ => none
def shapeD (P : Program) : Nat → TypeId → Option (List K1)
  | 0, _ => none
  | d + 1, t => match P.underlying t with
    | some (.int k) => some [.int k]
    | some .string => some [.str]
    | some .bool => some [.bool]
    | some (.struct fs) => if P.stoodInHeld t then none else shapeFs P (shapeD P d) fs.toList 0
    | _ => none
def isStruct (P : Program) (t : TypeId) : Bool := match P.underlying t with | some (.struct _) => true | _ => false

section
variable {P : Program} {w : World} {t : TypeId}
theorem toList_inj {l r : List UInt8} : ((⟨l.toArray⟩ : ByteArray).toList == (⟨r.toArray⟩ : ByteArray).toList) = decide (l = r) := by
  rw [ByteArray.toList_eq, ByteArray.toList_eq]
  by_cases h : l = r <;> simp [h]
theorem run_eq_one (d : Nat) {a b : Key1} {k : K1} (hs : shapeD P (d + 1) t = some [k]) (hns : isStruct P t = false) (ha : a.kind = k) (hb : b.kind = k) : ∀ e : Nat, (Op.equalIn (e + 1) t a.val b.val).run P w = .ok (decide (a = b)) w := by
  intro e
  unfold shapeD at hs
  unfold isStruct at hns
  subst ha
  cases hu : P.underlying t with
  | none => simp [hu] at hs
  | some dsc =>
    cases dsc <;> simp [hu] at hs hns
    · cases a <;> simp [Key1.kind] at hs
      cases b <;> simp [Key1.kind] at hb
      simp only [Key1.val, run_equalIn_bool' _ _ _ _ _ hu]
      congr 1
      rename_i p q; cases p <;> cases q <;> rfl
    · cases a <;> simp [Key1.kind] at hs
      cases b <;> simp [Key1.kind] at hb
      subst hb
      simp only [Key1.val, run_equalIn_int _ _ _ _ _ _ _ hu]
      congr 1
      rename_i p k q
      by_cases h : p = q <;> simp [h]
    · cases a <;> simp [Key1.kind] at hs
      cases b <;> simp [Key1.kind] at hb
      simp only [Key1.val, run_equalIn_string _ _ _ _ _ hu, toList_inj]
      congr 1
      rename_i p q
      by_cases h : p = q <;> simp [h]
/-- What is compared of a type: whatever stands in its cells. -/
def EqS (P : Program) (d : Nat) (t : TypeId) (sh : List K1) : Prop :=
  ∀ (w : World) (e : Nat) (x y : List Key1) (b : Bool) (n : Nat), tkind P t = some (b, n) → n = sh.length → (b = false → n = 1) → x.map Key1.kind = sh → y.map Key1.kind = sh →
    (Op.equalIn (e + d) t (keyV b x).val (keyV b y).val).run P w = .ok (decide (x = y)) w
theorem run_part_key {b : Bool} {n off : Nat} (hk : tkind P t = some (b, n)) (p x r : List Key1) (hp : p.length = off) (hx : x.length = n) (h1 : b = false → n = 1) :
    (part t ((p ++ x ++ r).map Key1.val).toArray off).run P w = .ok (keyV b x).val w := by
  unfold part
  simp only [Sem.run_bind, run_isAgg hk, Result.andThen_ok]
  cases b with
  | true =>
    simp only [if_true, run_size hk, Sem.run_pure, Result.andThen_ok, Sem.run_bind, keyV, Key.val]
    congr 2
    apply Array.ext'
    simp only [Array.toList_extract, List.extract_eq_take_drop, List.map_append]
    subst hp; subst hx
    rw [Nat.add_sub_cancel_left, List.append_assoc, List.drop_append_of_le_length (by simp), List.drop_of_length_le (by simp), List.nil_append, List.take_append_of_le_length (by simp), List.take_of_length_le (by simp)]
  | false =>
    have hn := h1 rfl
    subst hn
    match x, hx with
    | [c], _ =>
      subst hp
      simp [keyV, Key.val]
theorem run_eqFields_shape {d : Nat} {f : TypeId → Option (List K1)} (ih : ∀ t sh, f t = some sh → EqS P d t sh) : ∀ (fs : List Field) (off : Nat) (sh : List K1), shapeFs P f fs off = some sh →
    ∀ (w : World) (e : Nat) (p q x y : List Key1), p.length = off → q.length = off → x.map Key1.kind = sh → y.map Key1.kind = sh →
      (Op.eqFields (e + d) ((p ++ x).map Key1.val).toArray ((q ++ y).map Key1.val).toArray fs).run P w = .ok (decide (x = y)) w
  | [], off, sh, h, w, e, p, q, x, y, hp, hq, hx, hy => by
    cases h
    have hx' : x = [] := by simpa using hx
    have hy' : y = [] := by simpa using hy
    subst hx'; subst hy'
    simp [Op.eqFields]
  | fd :: r, off, sh, h, w, e, p, q, x, y, hp, hq, hx, hy => by
    unfold shapeFs at h
    split at h
    · cases h
    · rename_i hne
      simp only [not_or, ne_eq, Decidable.not_not] at hne
      obtain ⟨hnm, hoff⟩ := hne
      split at h
      · rename_i sh1 b n hf hk
        split at h
        · rename_i hn
          split at h
          · rename_i l hl
            cases h
            obtain ⟨hn1, hn2⟩ := hn
            have split : ∀ z : List Key1, z.map Key1.kind = sh1 ++ l → ∃ z1 z2, z = z1 ++ z2 ∧ z1.map Key1.kind = sh1 ∧ z2.map Key1.kind = l := by
              intro z hz
              obtain ⟨z1, z2, rfl, e1, e2⟩ := List.map_eq_append_iff.1 hz
              exact ⟨z1, z2, rfl, e1, e2⟩
            obtain ⟨x1, x2, rfl, ex1, ex2⟩ := split x hx
            obtain ⟨y1, y2, rfl, ey1, ey2⟩ := split y hy
            have lx : x1.length = n := by rw [hn1, ← ex1]; simp
            have ly : y1.length = n := by rw [hn1, ← ey1]; simp
            have p1 := run_part_key (w := w) hk p x1 x2 (by rw [hp, ← hoff]) lx hn2
            have p2 := run_part_key (w := w) hk q y1 y2 (by rw [hq, ← hoff]) ly hn2
            have heq := ih fd.type sh1 hf w e x1 y1 b n hk hn1 hn2 ex1 ey1
            have ihr := run_eqFields_shape ih r (off + sh1.length) l hl w e (p ++ x1) (q ++ y1) x2 y2 (by simp [hp, lx, hn1]) (by simp [hq, ly, hn1]) ex2 ey2
            rw [List.append_assoc] at p1 p2 ihr
            simp only [Op.eqFields, hnm, ne_eq, not_false_eq_true, if_true, Sem.run_bind, p1, p2, heq, Result.andThen_ok]
            by_cases hxy : x1 = y1
            · subst hxy
              rw [List.append_assoc] at ihr
              have hd : decide (x1 ++ x2 = x1 ++ y2) = decide (x2 = y2) := by simp
              rw [hd, ← ihr]
              simp only [decide_true, Bool.not_true, Bool.false_eq_true, if_false]
            · have : ¬ (x1 ++ x2 = y1 ++ y2) := fun h => hxy (List.append_inj_left h (by rw [lx, ly]))
              simp [hxy, this]
          · cases h
        · cases h
      · cases h
theorem run_eq_shape : ∀ (d : Nat) (t : TypeId) (sh : List K1), shapeD P d t = some sh → EqS P d t sh
  | 0, t, sh, h => by cases h
  | d + 1, t, sh, h => by
    intro w e x y b n hk hn h1 hx hy
    cases hst : isStruct P t with
    | false =>
      have hb : b = false ∧ ∃ k, sh = [k] := by
        unfold isStruct at hst
        unfold shapeD at h
        unfold tkind at hk
        cases hu : P.underlying t with
        | none => simp [hu] at h
        | some dsc =>
          cases hi : P.info? t with
          | none => simp [hu, hi] at hk
          | some i => cases dsc <;> simp [hu, hi] at h hk hst <;> exact ⟨hk.1.symm ▸ rfl, _, h.symm⟩
      obtain ⟨rfl, k, rfl⟩ := hb
      have hx1 : ∃ a, x = [a] := by
        have : x.length = 1 := by rw [← List.length_map (f := Key1.kind), hx]; rfl
        match x, this with
        | [a], _ => exact ⟨a, rfl⟩
      have hy1 : ∃ a, y = [a] := by
        have : y.length = 1 := by rw [← List.length_map (f := Key1.kind), hy]; rfl
        match y, this with
        | [a], _ => exact ⟨a, rfl⟩
      obtain ⟨a, rfl⟩ := hx1
      obtain ⟨c, rfl⟩ := hy1
      · have := run_eq_one (w := w) d h hst (a := a) (b := c) (by simpa using hx) (by simpa using hy) (e + d)
        show (Op.equalIn (e + d + 1) t a.val c.val).run P w = _
        rw [this]
        by_cases hac : a = c <;> simp [hac]
    | true =>
      unfold isStruct at hst
      unfold shapeD at h
      cases hu : P.underlying t with
      | none => simp [hu] at h
      | some dsc =>
        cases dsc <;> simp [hu] at hst
        rename_i fs
        simp only [hu] at h
        split at h
        · cases h
        · rename_i hsi
          have hb : b = true := by
            unfold tkind at hk
            cases hi : P.info? t with
            | none => simp [hu, hi] at hk
            | some i => simp [hu, hi] at hk; first | exact hk.1.symm | exact hk.1
          subst hb
          have hfs : P.fieldsOf t = fs := by simp [Program.fieldsOf, hu]
          have ht : P.underlying t = some (.struct (P.fieldsOf t)) := by rw [hfs]; exact hu
          show (Op.equalIn (e + d + 1) t (.agg (x.map Key1.val).toArray) (.agg (y.map Key1.val).toArray)).run P w = _
          rw [run_equalIn_struct w (e + d) t _ _ ht (by simpa using hsi), hfs]
          have := run_eqFields_shape (run_eq_shape d) fs.toList 0 sh h w e [] [] x y rfl rfl hx hy
          simpa using this
/-- Does a key fit its type? -/
def keyD (P : Program) (t : TypeId) (κ : Key) : Bool :=
  match shapeD P 8 t, tkind P t with
  | some sh, some (b, n) => decide (n = sh.length) && (b || decide (n = 1)) && (b == κ.isAgg) && decide (κ.cells.map Key1.kind = sh)
  | _, _ => false
theorem run_equal_key {κ κ' : Key} (h : keyD P t κ = true) (h' : keyD P t κ' = true) : (Op.equal t κ.val κ'.val).run P w = .ok (decide (κ = κ')) w := by
  unfold keyD at h h'
  split at h
  · rename_i sh b n hs hk
    simp only [hs, hk, Bool.and_eq_true, decide_eq_true_eq, Bool.or_eq_true, beq_iff_eq] at h h'
    obtain ⟨⟨⟨h1, h2⟩, h3⟩, h4⟩ := h
    obtain ⟨⟨⟨_, _⟩, h3'⟩, h4'⟩ := h'
    have key : ∀ k : Key, b = k.isAgg → keyV b k.cells = k := by
      intro k hb
      cases k <;> subst hb <;> rfl
    have := run_eq_shape 8 t sh hs w 9992 κ.cells κ'.cells b n hk h1 (fun hb => by rcases h2 with h2 | h2; · rw [h2] at hb; cases hb
                                                                                   · exact h2) h4 h4'
    rw [key κ h3, key κ' h3'] at this
    show (Op.equalIn 10000 t κ.val κ'.val).run P w = _
    rw [this]
    congr 1
    have : (κ.cells = κ'.cells) ↔ κ = κ' := by
      constructor
      · intro e
        rw [← key κ h3, ← key κ' h3', e]
      · intro e; rw [e]
    simp [this]
  · cases h
end
end Go.Aw
