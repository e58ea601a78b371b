/- What each operation does to abstract values, fourth part: arithmetic, comparisons, conversions, interfaces, lengths, appending, text gone over. No condition: definitions and lemmas. -/
import Derived.Test.YtedicdnflpjhkaaDoorAK
import Derived.Lib.Builder
import Derived.Laws.Strings
namespace Go.Aw
open Go.RowKit

section
variable {P : Program} {π : Pi} {w : World} {t : TypeId} {b0 : Nat} {w0 : World} {S : AS}

def intBin (op : BinOp) (k : IntKind) (x y : Int) : Option AV :=
  match op with
  | .add => some (.v (.int k (k.wrap (x + y))))
  | .sub => some (.v (.int k (k.wrap (x - y))))
  | .mul => some (.v (.int k (k.wrap (x * y))))
  | .quo => if y = 0 then none else some (.v (.int k (k.wrap (x.tdiv y))))
  | .rem => if y = 0 then none else some (.v (.int k (x.tmod y)))
  | .eql => some (.v (.bool (decide (x = y))))
  | .neq => some (.v (.bool (!decide (x = y))))
  | .lss => some (.v (.bool (decide (x < y))))
  | .leq => some (.v (.bool (decide (x ≤ y))))
  | .gtr => some (.v (.bool (decide (x > y))))
  | .geq => some (.v (.bool (decide (x ≥ y))))
  | _ => none
def strBin (op : BinOp) (a b : List UInt8) : Option AV :=
  match op with
  | .add => if a.length + b.length ≤ 9223372036854775807 then some (.str (a ++ b)) else none
  | .eql => some (.v (.bool (decide (a = b))))
  | .neq => some (.v (.bool (!decide (a = b))))
  | .lss => some (.v (.bool (Op.bytesLess a b)))
  | .leq => some (.v (.bool (Op.bytesLess a b || decide (a = b))))
  | .gtr => some (.v (.bool (!(Op.bytesLess a b || decide (a = b)))))
  | .geq => some (.v (.bool (!Op.bytesLess a b)))
  | _ => none
def boolD (P : Program) (t : TypeId) : Bool := match P.underlying t with | some .bool => true | _ => false
def ptrD (P : Program) (t : TypeId) : Bool := match P.underlying t with | some (.pointer _) => true | _ => false
def mapD (P : Program) (t : TypeId) : Option (TypeId × TypeId) := match P.underlying t with | some (.map k e) => some (k, e) | _ => none
def isfD (P : Program) (t : TypeId) : Bool := match P.underlying t with | some (.interface _) => true | _ => false
def funcD (P : Program) (t : TypeId) : Bool := match P.underlying t with | some (.func _ _ _) => true | _ => false

/-- Is it nil? Where that is known. -/
def nilV (P : Program) (t : TypeId) : Value → Option Bool
  | .pointer none => if ptrD P t then some true else none
  | .slice none 0 0 => if (sliceD P t).isSome then some true else none
  | .map none => if (mapD P t).isSome then some true else none
  | .nilFunc => if funcD P t then some true else none
  | _ => none
def nilA (P : Program) (t : TypeId) : AV → Option Bool
  | .ptr _ _ | .cptr _ => if ptrD P t then some false else none
  | .sl es own => if (sliceD P t).isSome && (!es.isEmpty || own.isSome) then some false else none
  | .mp _ => if (mapD P t).isSome then some false else none
  | .ifc _ _ => if isfD P t then some false else none
  | .fn _ _ => if funcD P t then some false else none
  | .win _ _ _ _ => if (sliceD P t).isSome then some false else none
  | .fsl es => if (sliceD P t).isSome && !es.isEmpty then some false else none
  | .v x => nilV P t x
  | _ => none
/-- A kind of values and a nil literal that fit. -/
def nilFits (P : Program) (t : TypeId) (y : Value) : Bool :=
  match P.underlying t, y with
  | some (.pointer _), .pointer none | some (.slice _), .slice none 0 0 | some (.map _ _), .map none | some (.func _ _ _), .nilFunc | some (.interface _), .nilIface => true
  | _, _ => false
/-- A pointer type whose elements' size is known. -/
def ptrI (P : Program) (t : TypeId) : Bool := match P.underlying t with | some (.pointer e) => (P.info? e).isSome | _ => false
theorem ptrI_parts {P : Program} {t : TypeId} (h : ptrI P t = true) : ∃ e j, P.underlying t = some (.pointer e) ∧ P.info? e = some j := by
  unfold ptrI at h
  split at h
  · rename_i e he; obtain ⟨j, hj⟩ := Option.isSome_iff_exists.1 h; exact ⟨e, j, he, hj⟩
  · cases h
/-- An interface type without methods. -/
def eifD (P : Program) (t : TypeId) : Bool := match P.underlying t with | some (.interface ms) => ms.isEmpty | _ => false
theorem eifD_parts {P : Program} {t : TypeId} (h : eifD P t = true) : ∃ ms, P.underlying t = some (.interface ms) ∧ ms.isEmpty = true := by
  unfold eifD at h
  split at h
  · rename_i ms e; exact ⟨ms, e, h⟩
  · cases h
/-- May '==' look at values of a type without a second look? -/
def eqG (P : Program) (t : TypeId) : Bool := !(P.eqGuardType P.depth t)
def binA (P : Program) (op : BinOp) (t : TypeId) (x y : AV) : Option AV :=
  match x, y with
  | .v (.int k a), .v (.int k' b) => if k = k' then intBin op k a b else none
  | .str a, .str b => strBin op a b
  | .v (.bool a), .v (.bool b) => if boolD P t then (match op with | .eql => some (.v (.bool (a == b))) | .neq => some (.v (.bool (!(a == b)))) | _ => none) else none
  | .ptr B p, .ptr B' p' => if ptrI P t = true ∧ B = B' ∧ p = p' then (match op with | .eql => some (.v (.bool true)) | .neq => some (.v (.bool false)) | _ => none) else none
  | .v .nilIface, .v .nilIface => if eifD P t then (match op with | .eql => some (.v (.bool true)) | .neq => some (.v (.bool false)) | _ => none) else none
  | .agg as, .agg bs => (match keyA (.agg as), keyA (.agg bs) with
    | some κ, some κ' => if keyD P t κ && keyD P t κ' && eqG P t then (match op with | .eql => some (.v (.bool (decide (κ = κ')))) | .neq => some (.v (.bool (!decide (κ = κ')))) | _ => none) else none
    | _, _ => none)
  | x, .v y => if nilFits P t y then (match op, nilA P t x with | .eql, some b => some (.v (.bool b)) | .neq, some b => some (.v (.bool !b)) | _, _ => none) else none
  | _, _ => none

theorem run_intBin {op : BinOp} {k : IntKind} {a b : Int} {x : AV} (h : intBin op k a b = some x) : ∃ u, (binOp op t (.int k a) (.int k b)).run P w = .ok u w ∧ VR π u x := by
  cases op <;> simp only [intBin] at h <;> first
    | (cases h; refine ⟨_, ?_, .v _⟩; simp [binOp, Op.intArith, Op.intCmp]; try rfl)
    | (split at h
       · cases h
       · rename_i h0; cases h; refine ⟨_, ?_, .v _⟩; simp [binOp, Op.intDiv, h0])
    | cases h
theorem run_strBin {op : BinOp} {s r : ByteArray} {x : AV} (h : strBin op s.data.toList r.data.toList = some x) : ∃ u, (binOp op t (.string s) (.string r)).run P w = .ok u w ∧ VR π u x := by
  have e : ∀ a b : List UInt8, (a == b) = decide (a = b) := fun a b => by by_cases h : a = b <;> simp [h]
  cases op <;> simp only [strBin] at h <;> first
    | (cases h; refine ⟨_, ?_, .v _⟩; simp [binOp, Op.stringOp, ByteArray.toList_eq, e]; try rfl)
    | (split at h
       · rename_i h0
         cases h
         refine ⟨.string (s ++ r), ?_, .str _ _ (by simp)⟩
         have h1 : ¬ ((s.size + r.size : Nat) : Int) > IntKind.i64.max := by
           have : IntKind.i64.max = 9223372036854775807 := by decide
           rw [this]
           simp only [ByteArray.size, Array.length_toList] at h0 ⊢
           omega
         simp only [binOp, Op.stringOp]
         rw [if_neg h1]
         rfl
       · cases h)
    | cases h

theorem boolD_parts (h : boolD P t = true) : P.underlying t = some .bool := by
  unfold boolD at h
  cases hu : P.underlying t with
  | none => simp [hu] at h
  | some d => cases d <;> simp [hu] at h; rfl
theorem ptrD_parts (h : ptrD P t = true) : ∃ e, P.underlying t = some (.pointer e) := by
  unfold ptrD at h
  cases hu : P.underlying t with
  | none => simp [hu] at h
  | some d => cases d <;> simp [hu] at h; exact ⟨_, rfl⟩
theorem mapD_parts {k e : TypeId} (h : mapD P t = some (k, e)) : P.underlying t = some (.map k e) := by
  unfold mapD at h
  cases hu : P.underlying t with
  | none => simp [hu] at h
  | some d => cases d <;> simp [hu] at h; rw [h.1, h.2]
theorem isfD_parts (h : isfD P t = true) : ∃ e, P.underlying t = some (.interface e) := by
  unfold isfD at h
  cases hu : P.underlying t with
  | none => simp [hu] at h
  | some d => cases d <;> simp [hu] at h; exact ⟨_, rfl⟩
theorem funcD_parts (h : funcD P t = true) : ∃ a b c, P.underlying t = some (.func a b c) := by
  unfold funcD at h
  cases hu : P.underlying t with
  | none => simp [hu] at h
  | some d => cases d <;> simp [hu] at h; exact ⟨_, _, _, rfl⟩
theorem equalIn_nilV (d : Nat) {v y : Value} {b : Bool} (h : nilV P t v = some b) (hf : nilFits P t y = true) : (Op.equalIn (d + 1) t v y).run P w = .ok b w := by
  unfold nilFits at hf
  unfold nilV at h
  split at h
  · split at h <;> try cases h
    rename_i hp
    obtain ⟨e, hu⟩ := ptrD_parts hp
    rw [hu] at hf
    cases y <;> try (cases hf; done)
    rename_i q; cases q <;> first | (cases hf; done) | simp [Op.equalIn, run_underlying hu]
  · split at h <;> try cases h
    rename_i hp
    obtain ⟨e, he⟩ := Option.isSome_iff_exists.1 hp
    have hu := sliceD_parts he
    rw [hu] at hf
    cases y <;> try (cases hf; done)
    rename_i q n c; cases q <;> try (cases hf; done)
    simp [Op.equalIn, run_underlying hu]
  · split at h <;> try cases h
    rename_i hp
    obtain ⟨⟨k, e⟩, he⟩ := Option.isSome_iff_exists.1 hp
    have hu := mapD_parts he
    rw [hu] at hf
    cases y <;> try (cases hf; done)
    rename_i q; cases q <;> first | (cases hf; done) | simp [Op.equalIn, run_underlying hu]
  · split at h <;> try cases h
    rename_i hp
    obtain ⟨a, b, c, hu⟩ := funcD_parts hp
    rw [hu] at hf
    cases y <;> first | (cases hf; done) | simp [Op.equalIn, run_underlying hu]
  · cases h
theorem equal_nil {v y : Value} {x : AV} {b : Bool} (hv : VR π v x) (h : nilA P t x = some b) (hf : nilFits P t y = true) : (Op.equal t v y).run P w = .ok b w := by
  have main : ∀ d : Nat, (Op.equalIn (d + 1) t v y).run P w = .ok b w := by
    intro d
    have hf0 := hf
    unfold nilFits at hf
    cases hv <;> simp only [nilA] at h
    case v => exact equalIn_nilV d h hf0
    case ptr B off =>
      split at h <;> try cases h
      rename_i hp
      obtain ⟨e, hu⟩ := ptrD_parts hp
      rw [hu] at hf
      cases y <;> try (cases hf; done)
      rename_i q; cases q <;> first | (cases hf; done) | simp [Op.equalIn, run_underlying hu]
    case cptr B off cells val hp1 hp2 =>
      split at h <;> try cases h
      rename_i hp
      obtain ⟨e, hu⟩ := ptrD_parts hp
      rw [hu] at hf
      cases y <;> try (cases hf; done)
      rename_i q; cases q <;> first | (cases hf; done) | simp [Op.equalIn, run_underlying hu]
    case nilsl => simp at h
    case sl ad n cap esz es own val hn hes hsp hc hm hp hvv ho =>
      split at h <;> try cases h
      rename_i hp
      simp only [Bool.and_eq_true] at hp
      obtain ⟨e, he⟩ := Option.isSome_iff_exists.1 hp.1
      have hu := sliceD_parts he
      rw [hu] at hf
      cases y <;> try (cases hf; done)
      rename_i q n c; cases q <;> try (cases hf; done)
      simp [Op.equalIn, run_underlying hu]
    case mp B =>
      split at h <;> try cases h
      rename_i hp
      obtain ⟨⟨k, e⟩, he⟩ := Option.isSome_iff_exists.1 hp
      have hu := mapD_parts he
      rw [hu] at hf
      cases y <;> try (cases hf; done)
      rename_i q; cases q <;> first | (cases hf; done) | simp [Op.equalIn, run_underlying hu]
    case fn f cs as hl hh =>
      split at h <;> try cases h
      rename_i hp
      obtain ⟨a, b, c, hu⟩ := funcD_parts hp
      rw [hu] at hf
      cases y <;> first | (cases hf; done) | simp [Op.equalIn, run_underlying hu]
    case ifc t' x a hh =>
      split at h <;> try cases h
      rename_i hp
      obtain ⟨e, hu⟩ := isfD_parts hp
      rw [hu] at hf
      cases y <;> first | (cases hf; done) | simp [Op.equalIn, run_underlying hu]
    case win B off n cap hn hm =>
      split at h <;> try cases h
      rename_i hp
      obtain ⟨e, he⟩ := Option.isSome_iff_exists.1 hp
      have hu := sliceD_parts he
      rw [hu] at hf
      cases y <;> try (cases hf; done)
      rename_i q n c; cases q <;> try (cases hf; done)
      simp [Op.equalIn, run_underlying hu]
    case fsl ad n es hh hl =>
      split at h <;> try cases h
      rename_i hp
      simp only [Bool.and_eq_true] at hp
      obtain ⟨e, he⟩ := Option.isSome_iff_exists.1 hp.1
      have hu := sliceD_parts he
      rw [hu] at hf
      cases hh with
      | nilsl => simp at hp
      | sl ad' _ _ _ _ _ _ _ _ _ _ _ _ _ _ =>
        cases y <;> try (cases hf; done)
        rename_i q n c; cases q <;> try (cases hf; done)
        simp [Op.equalIn, run_underlying hu]
    all_goals cases h
  exact main 9999

theorem run_eql_ptr_same (w : World) {tp te : TypeId} {j : TypeInfo} (a : Addr) (hp : P.underlying tp = some (.pointer te)) (hte : P.info? te = some j) :
    (binOp .eql tp (.pointer (some a)) (.pointer (some a))).run P w = .ok (.bool true) w := by
  have h : ∀ d : Nat, (Op.equalIn (d + 1) tp (.pointer (some a)) (.pointer (some a))).run P w = .ok true w := fun d => by
    simp [Op.equalIn, run_underlying hp, sizeOf, typeInfo, hte, run_sameAddr_same]
  simp only [binOp]
  simp [Op.equal, Op.maxDepth, h 9999]
theorem run_binA {op : BinOp} {x y : Operand} {u v : Value} {a b r : AV} (hu : VR π u a) (hv : VR π v b) (h : binA P op t a b = some r) :
    ∃ z, (do eqGuard op t x y u v; binOp op t u v : Sem Value).run P w = .ok z w ∧ VR π z r := by
  have plain : (∀ cs, u ≠ .agg cs) → u ≠ .nilIface → (eqGuard op t x y u v).run P w = .ok () w := by
    intro h1 h2
    cases op <;> cases u <;> first | rfl | (exfalso; exact h2 rfl) | (exfalso; exact h1 _ rfl)
  have comb : (∀ cs, u ≠ .agg cs) → u ≠ .nilIface → (∃ z, (binOp op t u v).run P w = .ok z w ∧ VR π z r) → ∃ z, (do eqGuard op t x y u v; binOp op t u v : Sem Value).run P w = .ok z w ∧ VR π z r := by
    intro h1 h2 ⟨z, hz, hr⟩
    exact ⟨z, by simp only [Sem.run_bind, plain h1 h2, Result.andThen_ok]; exact hz, hr⟩
  unfold binA at h
  split at h
  · rename_i k n k' m
    cases hu; cases hv
    split at h
    · rename_i e; subst e
      exact comb (by intro cs e; cases e) (by intro e; cases e) (run_intBin h)
    · cases h
  · cases hu with
    | str s _ hs => cases hv with
      | str s' _ hs' => subst hs; subst hs'; exact comb (by intro cs e; cases e) (by intro e; cases e) (run_strBin h)
  · rename_i p q
    cases hu; cases hv
    split at h
    · rename_i hb
      have hty := boolD_parts hb
      refine comb (by intro cs e; cases e) (by intro e; cases e) ?_
      cases op <;> simp only at h <;> first
        | (cases h; done)
        | (cases h; refine ⟨_, ?_, .v _⟩; first | exact run_eql_bool w t p q hty | exact run_neq_bool w t p q hty)
    · cases h
  · cases hu; cases hv
    split at h
    · rename_i hb
      obtain ⟨hb, rfl, rfl⟩ := hb
      obtain ⟨e, j, hty, hj⟩ := ptrI_parts hb
      refine comb (by intro cs e; cases e) (by intro e; cases e) ?_
      cases op <;> simp only at h <;> first
        | (cases h; done)
        | (cases h; refine ⟨_, ?_, .v _⟩; first | exact Lib.run_neq_ptr_same w _ hty hj | exact run_eql_ptr_same w _ hty hj)
    · cases h
  · cases hu; cases hv
    split at h
    · rename_i hb
      obtain ⟨ms, hty, hms⟩ := eifD_parts hb
      have hgd : (eqGuard op t x y .nilIface .nilIface).run P w = .ok () w := by
        unfold eqGuard
        cases op <;> first
          | rfl
          | (simp only [Bool.not_true, Bool.false_eq_true, if_false]
             split
             · rfl
             · have : (Op.eqGuardIn Op.maxDepth t .nilIface .nilIface).run P w = .ok false w := by
                 have main : ∀ d : Nat, (Op.eqGuardIn (d + 1) t .nilIface .nilIface).run P w = .ok false w := by intro d; simp [Op.eqGuardIn, run_underlying hty, hms]
                 exact main 9999
               simp [this])
      have heq : (Op.equal t .nilIface .nilIface).run P w = .ok true w := by
        have main : ∀ d : Nat, (Op.equalIn (d + 1) t .nilIface .nilIface).run P w = .ok true w := by intro d; simp [Op.equalIn, run_underlying hty]
        exact main 9999
      cases op <;> simp only at h <;> first
        | (cases h; done)
        | (cases h
           refine ⟨_, ?_, .v _⟩
           simp only [Sem.run_bind, hgd, Result.andThen_ok]
           simp [binOp, heq])
    · cases h
  · rename_i as bs
    split at h
    · rename_i κ κ' h1 h2
      split at h
      · rename_i hc
        simp only [Bool.and_eq_true] at hc
        have e1 := hu.key h1
        have e2 := hv.key h2
        have heq := run_equal_key (w := w) hc.1.1 hc.1.2
        have ga : ∃ ca, κ = .agg ca := by
          simp only [keyA, Option.map_eq_some_iff] at h1
          obtain ⟨ca, _, e⟩ := h1; exact ⟨ca, e.symm⟩
        have gb : ∃ cb, κ' = .agg cb := by
          simp only [keyA, Option.map_eq_some_iff] at h2
          obtain ⟨cb, _, e⟩ := h2; exact ⟨cb, e.symm⟩
        obtain ⟨ca, rfl⟩ := ga
        obtain ⟨cb, rfl⟩ := gb
        have hgd : (eqGuard op t x y u v).run P w = .ok () w := by
          rw [e1, e2]
          exact run_eqGuard_agg w op t x y _ _ (by have := hc.2; simpa [eqG] using this)
        subst e1
        subst e2
        have heq' : (Op.equal t (.agg (ca.map Key1.val).toArray) (.agg (cb.map Key1.val).toArray)).run P w = .ok (decide (Key.agg ca = Key.agg cb)) w := heq
        have hgd' : (eqGuard op t x y (.agg (ca.map Key1.val).toArray) (.agg (cb.map Key1.val).toArray)).run P w = .ok () w := hgd
        cases op <;> simp only at h <;> first
          | (cases h; done)
          | (cases h
             refine ⟨_, ?_, .v _⟩
             simp only [Key.val, Sem.run_bind, hgd', Result.andThen_ok]
             simp [binOp, heq'])
      · cases h
    · cases h
  · rename_i x' y' hne1 hne2
    cases hv
    split at h
    · rename_i hf
      have hsome : ∃ c, nilA P t a = some c := by
        cases hn : nilA P t a with
        | none => rw [hn] at h; split at h <;> simp_all
        | some c => exact ⟨c, rfl⟩
      obtain ⟨c, hc⟩ := hsome
      have heq := equal_nil (w := w) hu hc hf
      have hva : (∀ cs, u ≠ .agg cs) ∧ u ≠ .nilIface ∧ (∀ k n, u ≠ .int k n) ∧ (∀ k n, u ≠ .float k n) ∧ (∀ k n m, u ≠ .complex k n m) ∧ (∀ s, u ≠ .string s) := by
        cases hu <;> simp [nilA] at hc ⊢
        cases u <;> simp [nilV] at hc ⊢
      have hcmp : ∃ b', (op = .eql ∧ b' = c) ∨ (op = .neq ∧ b' = !c) := by
        rw [hc] at h
        cases op <;> simp only at h <;> first | (cases h; done) | exact ⟨_, .inl ⟨rfl, rfl⟩⟩ | exact ⟨_, .inr ⟨rfl, rfl⟩⟩
      refine comb hva.1 hva.2.1 ?_
      obtain ⟨b', hb'⟩ := hcmp
      rcases hb' with ⟨rfl, rfl⟩ | ⟨rfl, rfl⟩
      · rw [hc] at h
        simp only [Option.some.injEq] at h
        subst h
        refine ⟨_, ?_, .v _⟩
        have e : binOp .eql t u v = (do pure (.bool (← Op.equal t u v))) := by
          cases u <;> first | (exfalso; exact hva.2.2.1 _ _ rfl) | (exfalso; exact hva.2.2.2.1 _ _ rfl) | (exfalso; exact hva.2.2.2.2.1 _ _ _ rfl) | (exfalso; exact hva.2.2.2.2.2 _ rfl) | rfl
        rw [e]
        simp [heq]
      · rw [hc] at h
        simp only [Option.some.injEq] at h
        subst h
        refine ⟨_, ?_, .v _⟩
        have e : binOp .neq t u v = (do pure (.bool (!(← Op.equal t u v)))) := by
          cases u <;> first | (exfalso; exact hva.2.2.1 _ _ rfl) | (exfalso; exact hva.2.2.2.1 _ _ rfl) | (exfalso; exact hva.2.2.2.2.1 _ _ _ rfl) | (exfalso; exact hva.2.2.2.2.2 _ rfl) | rfl
        rw [e]
        simp [heq]
    · cases h
  · cases h
end
end Go.Aw
