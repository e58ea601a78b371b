/- Which equations a walk is unfolded by. No condition: lemmas. -/
import Derived.Test.YtedicdnflpjhkaaDoorA9
namespace Go.Aw
open Go.RowKit

section
variable {P : Program} {ops : Array Oper} {S : AS} {a : AAct} {Q : APost}
def wlK (P : Program) (ops : Array Oper) (Q : APost) (rest : List Oper) (a : AAct) (dst : Option Tmp) : AV → AS → Prop := fun x S => WL P ops Q rest (a.put dst x) S
def wlZ (Q : APost) (a : AAct) : AV → AS → Prop := fun x S => Q (.panic x) a S
def wcK (P : Program) (c : Code) (Q : APost) : AAct → AS → Prop := fun a S => WC P c Q a S
@[go_sem] theorem wlK_app (rest : List Oper) (dst : Option Tmp) (x : AV) : wlK P ops Q rest a dst x S = WL P ops Q rest (a.put dst x) S := _root_.id rfl
@[go_sem] theorem wlZ_app (x : AV) : wlZ Q a x S = Q (.panic x) a S := _root_.id rfl
@[go_sem] theorem wcK_app (c : Code) : wcK P c Q a S = WC P c Q a S := _root_.id rfl
def guardK (w : Option Bool) (P : Program) (ops : Array Oper) (Q : APost) (op : Op) (dst : Option Tmp) (rest : List Oper) (a : AAct) (S : AS) : Prop := match w with
  | some true => WO P op a S (wlK P ops Q rest a dst) (wlZ Q a)
  | some false => WL P ops Q rest (a.put dst undefA) S
  | none => False
@[go_sem] theorem guardK_true (op : Op) (dst : Option Tmp) (rest : List Oper) : guardK (some true) P ops Q op dst rest a S = WO P op a S (wlK P ops Q rest a dst) (wlZ Q a) := _root_.id rfl
theorem guardK_split {b : Bool} {op : Op} {dst : Option Tmp} {rest : List Oper} (h1 : b = true → WO P op a S (wlK P ops Q rest a dst) (wlZ Q a)) (h2 : b = false → WL P ops Q rest (a.put dst undefA) S) : guardK (some b) P ops Q op dst rest a S := by
  cases b
  · exact h2 rfl
  · exact h1 rfl
@[go_sem] theorem guardK_false (op : Op) (dst : Option Tmp) (rest : List Oper) : guardK (some false) P ops Q op dst rest a S = WL P ops Q rest (a.put dst undefA) S := _root_.id rfl
@[go_sem] theorem WL_nil : WL P ops Q [] a S = Q .normal a S := _root_.id rfl
@[go_sem] theorem WL_plain {dst : Option Tmp} {op : Op} {ty : TypeId} {pos : String} {af : Array Edge} {rest : List Oper} :
    WL P ops Q ({ dst := dst, op := op, type := ty, pos := pos, after := af, guard := none } :: rest) a S = WO P op a S (wlK P ops Q rest a dst) (wlZ Q a) := _root_.id rfl
@[go_sem] theorem WL_guard {dst : Option Tmp} {op : Op} {ty : TypeId} {pos : String} {af : Array Edge} {rest : List Oper} {g : Nat × Bool} :
    WL P ops Q ({ dst := dst, op := op, type := ty, pos := pos, after := af, guard := some g } :: rest) a S = guardK (wantedA ops a (some g)) P ops Q op dst rest a S := _root_.id rfl
variable {K : AV → AS → Prop} {Z : AV → AS → Prop}
def K2 (r : Option (AV × AS)) (K : AV → AS → Prop) : Prop := match r with | some (x, S) => K x S | none => False
@[go_sem] theorem K2_some (x : AV) : K2 (some (x, S)) K = K x S := _root_.id rfl
@[go_sem] theorem WO_move (x : Operand) : WO P (.move x) a S K Z = K (a.get x) S := _root_.id rfl
@[go_sem] theorem WO_assign (x : Operand) : WO P (.assign x) a S K Z = K (a.get x) S := _root_.id rfl
@[go_sem] theorem WO_pick (c x y : Operand) : WO P (.pick c x y) a S K Z = K2 (opA P (.pick c x y) a S 0) K := _root_.id rfl
@[go_sem] theorem WO_alloc (e : TypeId) : WO P (.alloc e) a S K Z = ∀ B, S B = none → K2 (opA P (.alloc e) a S B) K := _root_.id rfl
@[go_sem] theorem WO_box (e : TypeId) (x : Operand) : WO P (.box e x) a S K Z = ∀ B, S B = none → K2 (opA P (.box e x) a S B) K := _root_.id rfl
@[go_sem] theorem WO_build (t : TypeId) (ps : Array (Nat × Operand)) : WO P (.build t ps) a S K Z = K2 (opA P (.build t ps) a S 0) K := _root_.id rfl
@[go_sem] theorem WO_buildSlice (t : TypeId) (n : Nat) (ps : Array (Nat × Operand)) : WO P (.buildSlice t n ps) a S K Z = ∀ B, S B = none → K2 (opA P (.buildSlice t n ps) a S B) K := _root_.id rfl
@[go_sem] theorem WO_load (t : TypeId) (x : Operand) : WO P (.load t x) a S K Z = K2 (opA P (.load t x) a S 0) K := _root_.id rfl
@[go_sem] theorem WO_store (t : TypeId) (x y : Operand) : WO P (.store t x y) a S K Z = K2 (opA P (.store t x y) a S 0) K := _root_.id rfl
@[go_sem] theorem WO_nilCheck (x : Operand) : WO P (.nilCheck x) a S K Z = K2 (opA P (.nilCheck x) a S 0) K := _root_.id rfl
@[go_sem] theorem WO_binOp (op : BinOp) (t : TypeId) (x y : Operand) (u : TypeId) : WO P (.binOp op t x y u) a S K Z = K2 (opA P (.binOp op t x y u) a S 0) K := _root_.id rfl
@[go_sem] theorem WO_unOp (op : UnOp) (t : TypeId) (x : Operand) : WO P (.unOp op t x) a S K Z = K2 (opA P (.unOp op t x) a S 0) K := _root_.id rfl
@[go_sem] theorem WO_convert (s d : TypeId) (x : Operand) : WO P (.convert s d x) a S K Z = K2 (opA P (.convert s d x) a S 0) K := _root_.id rfl
@[go_sem] theorem WO_makeInterface (t : TypeId) (x : Operand) : WO P (.makeInterface t x) a S K Z = K2 (opA P (.makeInterface t x) a S 0) K := _root_.id rfl
@[go_sem] theorem WO_makeFunc (f : Fn) (x c : Array Operand) : WO P (.makeFunc f x c) a S K Z = K2 (opA P (.makeFunc f x c) a S 0) K := _root_.id rfl
@[go_sem] theorem WO_slice (t : TypeId) (x : Operand) (l h m : Option Operand) : WO P (.slice t x l h m) a S K Z = K2 (opA P (.slice t x l h m) a S 0) K := _root_.id rfl
@[go_sem] theorem WO_fieldAddr (t : TypeId) (x : Operand) (f : Nat) : WO P (.fieldAddr t x f) a S K Z = K2 (opA P (.fieldAddr t x f) a S 0) K := _root_.id rfl
@[go_sem] theorem WO_field (t : TypeId) (x : Operand) (f : Nat) : WO P (.field t x f) a S K Z = K2 (opA P (.field t x f) a S 0) K := _root_.id rfl
@[go_sem] theorem WO_indexAddr (t : TypeId) (x i : Operand) : WO P (.indexAddr t x i) a S K Z = K2 (opA P (.indexAddr t x i) a S 0) K := _root_.id rfl
@[go_sem] theorem WO_index (t : TypeId) (x i : Operand) : WO P (.index t x i) a S K Z = K2 (opA P (.index t x i) a S 0) K := _root_.id rfl
@[go_sem] theorem WO_extract (x : Operand) (i : Nat) : WO P (.extract x i) a S K Z = K2 (opA P (.extract x i) a S 0) K := _root_.id rfl
@[go_sem] theorem WO_range (t : TypeId) (x : Operand) : WO P (.range t x) a S K Z = ∀ B, S B = none → K2 (opA P (.range t x) a S B) K := _root_.id rfl
@[go_sem] theorem WO_next (x : Operand) : WO P (.next x true) a S K Z = K2 (opA P (.next x true) a S 0) K := _root_.id rfl
@[go_sem] theorem WO_nextM (x : Operand) : WO P (.next x false) a S K Z = NextK (a.get x) S K := _root_.id rfl
@[go_sem] theorem WO_lookup (t : TypeId) (x i : Operand) (b : Bool) : WO P (.lookup t x i b) a S K Z = K2 (opA P (.lookup t x i b) a S 0) K := _root_.id rfl
@[go_sem] theorem WO_mapUpdate (t : TypeId) (m k x : Operand) : WO P (.mapUpdate t m k x) a S K Z = K2 (opA P (.mapUpdate t m k x) a S 0) K := _root_.id rfl
@[go_sem] theorem WO_insert (t : TypeId) (m k x : Operand) : WO P (.insert t m k x) a S K Z = K2 (opA P (.insert t m k x) a S 0) K := _root_.id rfl
@[go_sem] theorem WO_makeMap (t : TypeId) (r : Option Operand) : WO P (.makeMap t r) a S K Z = ∀ B, S B = none → K2 (opA P (.makeMap t r) a S B) K := _root_.id rfl
@[go_sem] theorem WO_makeSlice (t : TypeId) (l c : Operand) : WO P (.makeSlice t l c) a S K Z = ∀ B, S B = none → K2 (opA P (.makeSlice t l c) a S B) K := _root_.id rfl
@[go_sem] theorem WO_copy (x y : Operand) (t u : TypeId) : WO P (.call { callee := .builtin .copy, args := #[x, y], argTypes := #[t, u] }) a S K Z = K2 (copyA P t (a.get x) (a.get y) S) K := _root_.id rfl
@[go_sem] theorem WO_cap (xs : Array Operand) (ts : Array TypeId) : WO P (.call { callee := .builtin .cap, args := xs, argTypes := ts }) a S K Z = K2 (opA P (.call { callee := .builtin .cap, args := xs, argTypes := ts }) a S 0) K := _root_.id rfl
@[go_sem] theorem WO_typeAssert (x : Operand) (s t : TypeId) (b : Bool) : WO P (.typeAssert x s t b) a S K Z = K2 (opA P (.typeAssert x s t b) a S 0) K := _root_.id rfl
def panicK (x : AV) (S : AS) (Z : AV → AS → Prop) : Prop := match x with | .ifc t y => Z (.ifc t y) S | _ => False
@[go_sem] theorem panicK_ifc (t : TypeId) (y : AV) : panicK (.ifc t y) S Z = Z (.ifc t y) S := _root_.id rfl
@[go_sem] theorem WO_panic (x : Operand) : WO P (.panic x) a S K Z = panicK (a.get x) S Z := _root_.id rfl
@[go_sem] theorem callK_fn (f : FuncId) (cap xs : List AV) (R : AEnd → AS → Prop) : callK P (.fn (.func f) cap) xs S R = (if okF P f = true then ACall P f (xs ++ cap) S R else ∃ y, ExtRun P f (xs ++ cap) y ∧ R (.ret y) S) := _root_.id rfl
@[go_sem] theorem WO_call (f : Operand) (xs : Array Operand) (ts : Array TypeId) : WO P (.call { callee := .value f, args := xs, argTypes := ts }) a S K Z = callK P (a.get f) (xs.toList.map a.get) S (Kont K Z) := _root_.id rfl
@[go_sem] theorem WO_len (xs : Array Operand) (ts : Array TypeId) : WO P (.call { callee := .builtin .len, args := xs, argTypes := ts }) a S K Z = K2 (opA P (.call { callee := .builtin .len, args := xs, argTypes := ts }) a S 0) K := _root_.id rfl
@[go_sem] theorem WO_max (xs : Array Operand) (ts : Array TypeId) : WO P (.call { callee := .builtin .max, args := xs, argTypes := ts }) a S K Z = K2 (opA P (.call { callee := .builtin .max, args := xs, argTypes := ts }) a S 0) K := _root_.id rfl
@[go_sem] theorem WO_min (xs : Array Operand) (ts : Array TypeId) : WO P (.call { callee := .builtin .min, args := xs, argTypes := ts }) a S K Z = K2 (opA P (.call { callee := .builtin .min, args := xs, argTypes := ts }) a S 0) K := _root_.id rfl
@[go_sem] theorem WO_append (x y : Operand) (t u : TypeId) : WO P (.call { callee := .builtin .append, args := #[x, y], argTypes := #[t, u] }) a S K Z = AppendAny P t u (a.get x) (a.get y) S K := _root_.id rfl
@[go_sem] theorem AppendAny_str (t u : TypeId) (x : AV) (l : List UInt8) : AppendAny P t u x (.str l) S K = AppendSK P t u x l S K := _root_.id rfl
@[go_sem] theorem AppendAny_sl (t u : TypeId) (x : AV) (es : List (List AV)) (own : Option (Nat × Nat)) : AppendAny P t u x (.sl es own) S K = AppendKX P t u x (.sl es own) S K := _root_.id rfl
@[go_sem] theorem AppendAny_fsl (t u : TypeId) (x : AV) (es : List (List AV)) : AppendAny P t u x (.fsl es) S K = AppendKX P t u x (.fsl es) S K := _root_.id rfl
@[go_sem] theorem AppendAny_win (t u : TypeId) (x : AV) (B off n cap : Nat) : AppendAny P t u x (.win B off n cap) S K = AppendKX P t u x (.win B off n cap) S K := _root_.id rfl
@[go_sem] theorem AppendAny_v (t u : TypeId) (x : AV) (y : Value) : AppendAny P t u x (.v y) S K = AppendKX P t u x (.v y) S K := _root_.id rfl

@[go_sem] theorem get_tmp (l : List AV) (t : Tmp) : (AAct.mk l).get (.tmp t) = l.getD t undefA := _root_.id rfl
@[go_sem] theorem get_int (l : List AV) (k : IntKind) (n : Int) : (AAct.mk l).get (.const (.int k n)) = .v (.int k n) := _root_.id rfl
@[go_sem] theorem get_bool (l : List AV) (b : Bool) : (AAct.mk l).get (.const (.bool b)) = .v (.bool b) := _root_.id rfl
@[go_sem] theorem get_str (l : List AV) (b : Array UInt8) : (AAct.mk l).get (.const (.string ⟨b⟩)) = .str b.toList := _root_.id rfl
@[go_sem] theorem get_nilsl (l : List AV) : (AAct.mk l).get (.const (.slice none 0 0)) = .v (.slice none 0 0) := _root_.id rfl
@[go_sem] theorem get_nilptr (l : List AV) : (AAct.mk l).get (.const (.pointer none)) = .v (.pointer none) := _root_.id rfl
@[go_sem] theorem get_nilmap (l : List AV) : (AAct.mk l).get (.const (.map none)) = .v (.map none) := _root_.id rfl
@[go_sem] theorem get_nilfunc (l : List AV) : (AAct.mk l).get (.const .nilFunc) = .v .nilFunc := _root_.id rfl
@[go_sem] theorem get_niliface (l : List AV) : (AAct.mk l).get (.const .nilIface) = .v .nilIface := _root_.id rfl
@[go_sem] theorem get_agg (l : List AV) (cs : Array Value) : (AAct.mk l).get (.const (.agg cs)) = .agg (cs.toList.map ofCell) := _root_.id rfl
@[go_sem] theorem get_func (l : List AV) (f : FuncId) : (AAct.mk l).get (.func f) = .fn (.func f) [] := _root_.id rfl
@[go_sem] theorem put_some (l : List AV) (d : Tmp) (x : AV) : (AAct.mk l).put (some d) x = ⟨l.set d x⟩ := _root_.id rfl
@[go_sem] theorem put_none (l : List AV) (x : AV) : (AAct.mk l).put none x = ⟨l⟩ := _root_.id rfl
@[go_sem] theorem AS.set_at (B : Nat) (o : AObj) (b : Nat) : (S.set B o) b = if b = B then some o else S b := _root_.id rfl
end
section
variable {P : Program} {ops : Array Oper} {Q : APost}
variable {a : AAct} {S : AS}
@[go_sem] theorem WC_skip : WC P .skip Q a S = Q .normal a S := _root_.id rfl
@[go_sem] theorem WC_region (id : Nat) (l : List Oper) : WC P (.region id l.toArray false) Q a S = WL P l.toArray Q l a S := _root_.id rfl
@[go_sem] theorem WC_seq (x y : Code) : WC P (.seq x y) Q a S = WC P x (AExit.then (wcK P y Q) Q) a S := _root_.id rfl
def condK (c : AV) (P : Program) (x y : Code) (Q : APost) (a : AAct) (S : AS) : Prop := match c with | .v (.bool b) => (b = true → WC P x Q a S) ∧ (b = false → WC P y Q a S) | _ => False
@[go_sem] theorem condK_true (x y : Code) : condK (.v (.bool true)) P x y Q a S = WC P x Q a S := by simp [condK]
@[go_sem] theorem condK_false (x y : Code) : condK (.v (.bool false)) P x y Q a S = WC P y Q a S := by simp [condK]
theorem condK_bool (b : Bool) (x y : Code) : condK (.v (.bool b)) P x y Q a S = ((b = true → WC P x Q a S) ∧ (b = false → WC P y Q a S)) := _root_.id rfl
theorem condK_split {b : Bool} {x y : Code} (h1 : b = true → WC P x Q a S) (h2 : b = false → WC P y Q a S) : condK (.v (.bool b)) P x y Q a S := ⟨h1, h2⟩
@[go_sem] theorem WC_cond (c : Operand) (x y : Code) : WC P (.cond c x y) Q a S = condK (a.get c) P x y Q a S := _root_.id rfl
@[go_sem] theorem WC_block (id : Nat) (c : Code) : WC P (.block id c) Q a S = WC P c (AExit.inBlock id Q) a S := _root_.id rfl
@[go_sem] theorem WC_exit (id : Nat) : WC P (.exit id) Q a S = Q (.exit id) a S := _root_.id rfl
@[go_sem] theorem WC_label (l : Nat) : WC P (.label l) Q a S = Q .normal a S := _root_.id rfl
@[go_sem] theorem WC_goto (l : Nat) : WC P (.goto l) Q a S = Q (.goto l) a S := _root_.id rfl
@[go_sem] theorem WC_ret : WC P .ret Q a S = Q .ret a S := _root_.id rfl
@[go_sem] theorem WC_loop (c : Code) : WC P (.loop c) Q a S = AWp P (.loop c) a S Q := _root_.id rfl
@[go_sem] theorem WC_draw (id : Nat) (l : Array Oper) : WC P (.region id l true) Q a S = AWp P (.region id l true) a S Q := _root_.id rfl
@[go_sem] theorem then_normal (K : AAct → AS → Prop) : AExit.then K Q .normal a S = K a S := _root_.id rfl
@[go_sem] theorem then_ret (K : AAct → AS → Prop) : AExit.then K Q .ret a S = Q .ret a S := _root_.id rfl
@[go_sem] theorem then_exit (K : AAct → AS → Prop) (i : Nat) : AExit.then K Q (.exit i) a S = Q (.exit i) a S := _root_.id rfl
@[go_sem] theorem then_goto (K : AAct → AS → Prop) (i : Nat) : AExit.then K Q (.goto i) a S = Q (.goto i) a S := _root_.id rfl
@[go_sem] theorem then_panic (K : AAct → AS → Prop) (x : AV) : AExit.then K Q (.panic x) a S = Q (.panic x) a S := _root_.id rfl
@[go_sem] theorem inBlock_normal (id : Nat) : AExit.inBlock id Q .normal a S = Q .normal a S := _root_.id rfl
@[go_sem] theorem inBlock_ret (id : Nat) : AExit.inBlock id Q .ret a S = Q .ret a S := _root_.id rfl
@[go_sem] theorem inBlock_goto (id l : Nat) : AExit.inBlock id Q (.goto l) a S = Q (.goto l) a S := _root_.id rfl
@[go_sem] theorem inBlock_panic (id : Nat) (x : AV) : AExit.inBlock id Q (.panic x) a S = Q (.panic x) a S := _root_.id rfl
@[go_sem] theorem inBlock_exit (id i : Nat) : AExit.inBlock id Q (.exit i) a S = if i = id then Q .normal a S else Q (.exit i) a S := _root_.id rfl
def resK (r : Option AV) (S : AS) (R : AEnd → AS → Prop) : Prop := ∃ x T, r = some x ∧ (T.le S ∧ (R (.ret x) T ∨ R (.ret x.shut) T) ∨ ∃ x' S', Frost S x S' x' ∧ T.le S' ∧ R (.ret x') T)
theorem resK_mk {x : AV} {T : AS} {R : AEnd → AS → Prop} (h : T.le S) (hR : R (.ret x) T) : resK (some x) S R := ⟨x, T, rfl, .inl ⟨h, .inl hR⟩⟩
theorem resK_seal {x : AV} {T : AS} {R : AEnd → AS → Prop} (h : T.le S) (hR : R (.ret x.shut) T) : resK (some x) S R := ⟨x, T, rfl, .inl ⟨h, .inr hR⟩⟩
theorem resK_frost {x x' : AV} {T S' : AS} {R : AEnd → AS → Prop} (hf : Frost S x S' x') (h : T.le S') (hR : R (.ret x') T) : resK (some x) S R := ⟨x, T, rfl, .inr ⟨x', S', hf, h, hR⟩⟩
@[go_sem] theorem FPost_ret (rs : List ResultVar) (R : AEnd → AS → Prop) : FPost P rs R .ret a S = resK (resultsA S P a rs) S R := _root_.id rfl
@[go_sem] theorem FPost_normal (rs : List ResultVar) (R : AEnd → AS → Prop) : FPost P rs R .normal a S = resK (resultsA S P a rs) S R := _root_.id rfl
@[go_sem] theorem FPost_panic (rs : List ResultVar) (R : AEnd → AS → Prop) (x : AV) : FPost P rs R (.panic x) a S = ∃ T, T.le S ∧ R (.panic x) T := _root_.id rfl
attribute [go_sem] Kont_ret Kont_panic
end
attribute [go_sem] opA indexA0 sliceA0 indexW sliceW slice3A lookupA lookR updateA makeSliceA copyA sourceA capA keyA keys1A key1A keyD Key.cells Key.isAgg Key1.kind Key.av Key1.av cellsAt loadC storeC AV.cells AV.seen fieldA indexA boundA sliceA fillA placesD buildA buildSliceA chunk intBin strBin nilA nilV binA unA convA partA fieldVA indexVA lenA lookA resA allSome resultsA
  ofCell plainFn wantedA AV.one
attribute [go_sem] List.getD_cons_zero List.getD_cons_succ List.set_cons_zero List.set_cons_succ List.map_cons List.map_nil List.length_cons List.length_nil List.replicate_succ List.replicate_zero List.cons_append List.nil_append
  List.drop_succ_cons List.drop_zero List.take_succ_cons List.take_zero List.drop_nil List.take_nil List.head?_cons Option.map_some Option.map_none Option.bind_some Option.bind_none List.all_cons List.all_nil
  List.getElem?_cons_zero List.getElem?_cons_succ List.append_nil List.getElem?_toArray Option.isSome_some Option.isSome_none List.length_map Int.toNat_natCast Int.toNat_zero Int.natCast_nonneg List.getElem?_map List.isEmpty_nil List.isEmpty_cons List.length_append Nat.zero_le Nat.le_refl ge_iff_le gt_iff_lt Bool.or_true Bool.true_or Bool.or_false Bool.false_or true_and and_true and_self if_true Int.ofNat_toNat Option.some.injEq Prod.mk.injEq List.size_toArray ne_eq not_false_eq_true not_true_eq_false and_false false_and Nat.reduceLeDiff Nat.add_zero Nat.zero_add Bool.not_eq_true'
 if_true if_false Bool.false_eq_true beq_false Bool.not_true Bool.not_false Bool.not_not reduceCtorEq beq_true Bool.true_and Bool.and_true Bool.false_and Bool.and_false decide_true decide_false
end Go.Aw
