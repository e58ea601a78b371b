/- Abstract values and states over the machine's world: what a walk needs to know of memory, and no more. No condition: definitions and lemmas. -/
import Derived.WalkKit
import Derived.OwnWalk
import Derived.Below
import Derived.IntWalk
import Derived.Laws.AppendOwn
import Derived.Laws.CopyRow
import Derived.Laws.Rows
import Derived.KernelRfl
namespace Go.Aw
open Go.RowKit

/-- A value, as far as a walk looks at it. 'v': the machine's own. 'ptr': to a cell of a block of the call's own. 'cptr': to cells that never change. 'sl': a slice, told by what stands in it ('own': block and capacity, where it may be appended to). -/
inductive AV where
  | v (x : Value)
  | str (l : List UInt8)
  | ptr (B off : Nat)
  | cptr (cells : List AV)
  | sl (es : List (List AV)) (own : Option (Nat × Nat))
  | mp (B : Nat)
  | fn (f : Fn) (cap : List AV)
  | ifc (t : TypeId) (x : AV)
  | agg (cs : List AV)
  | tup (vs : List AV)
  | win (B off n cap : Nat)
  | fsl (es : List (List AV))
  deriving Inhabited

/-- A map's keys: whole numbers, texts, bools; or several of them. -/
inductive Key1 where
  | int (k : IntKind) (n : Int)
  | str (l : List UInt8)
  | bool (b : Bool)
  deriving DecidableEq
inductive Key where
  | one (c : Key1)
  | agg (cs : List Key1)
  deriving DecidableEq
def Key1.val : Key1 → Value
  | .int k n => .int k n
  | .str l => .string ⟨l.toArray⟩
  | .bool b => .bool b
def Key1.av : Key1 → AV
  | .int k n => .v (.int k n)
  | .str l => .str l
  | .bool b => .v (.bool b)
def Key.val : Key → Value
  | .one c => c.val
  | .agg cs => .agg (cs.map Key1.val).toArray
def Key.av : Key → AV
  | .one c => c.av
  | .agg cs => .agg (cs.map Key1.av)

/-- Cells that stay as they are: block, place, what stands there. -/
abbrev Pi := Nat → Nat → Option Value
def Pi.le (p q : Pi) : Prop := ∀ B o x, p B o = some x → q B o = some x
theorem Pi.le_refl (p : Pi) : p.le p := fun _ _ _ h => h
theorem Pi.le_trans {p q r : Pi} (h : p.le q) (k : q.le r) : p.le r := fun B o x hx => k B o x (h B o x hx)

inductive VR (π : Pi) : Value → AV → Prop
  | v (x : Value) : VR π x (.v x)
  | str (s : ByteArray) (l : List UInt8) (h : s.data.toList = l) : VR π (.string s) (.str l)
  | ptr (B off : Nat) : VR π (.pointer (some ⟨B, off, none⟩)) (.ptr B off)
  | cptr (B off : Nat) (cells : List AV) (val : Nat → Value) (hp : ∀ j, j < cells.length → π B (off + j) = some (val j))
      (hv : ∀ (j : Nat) (a : AV), cells[j]? = some a → VR π (val j) a) : VR π (.pointer (some ⟨B, off, none⟩)) (.cptr cells)
  | nilsl : VR π (.slice none 0 0) (.sl [] none)
  | sl (ad : Addr) (n cap esz : Nat) (es : List (List AV)) (own : Option (Nat × Nat)) (val : Nat → Nat → Value) (hn : es.length = n)
      (hes : ∀ e, e ∈ es → e.length = esz) (hs : 0 < n → ad.spot = none) (hc : n ≤ cap) (hm : cap ≤ maxLen)
      (hp : ∀ i j, i < n → j < esz → π ad.block (ad.off + (i * esz + j)) = some (val i j))
      (hv : ∀ (i j : Nat) (e : List AV) (a : AV), es[i]? = some e → e[j]? = some a → VR π (val i j) a)
      (ho : ∀ q, own = some q → ad = ⟨q.1, 0, none⟩ ∧ q.2 = cap) : VR π (.slice (some ad) n cap) (.sl es own)
  | mp (B : Nat) : VR π (.map (some B)) (.mp B)
  | fn (f : Fn) (cs : Array Value) (as : List AV) (hl : cs.size = as.length) (h : ∀ (i : Nat) (x : Value) (a : AV), cs[i]? = some x → as[i]? = some a → VR π x a) : VR π (.func f #[] cs) (.fn f as)
  | ifc (t : TypeId) (x : Value) (a : AV) (h : VR π x a) : VR π (.iface t x) (.ifc t a)
  | agg (cs : Array Value) (as : List AV) (hl : cs.size = as.length) (h : ∀ (i : Nat) (x : Value) (a : AV), cs[i]? = some x → as[i]? = some a → VR π x a) : VR π (.agg cs) (.agg as)
  | tup (cs : Array Value) (as : List AV) (hl : cs.size = as.length) (h : ∀ (i : Nat) (x : Value) (a : AV), cs[i]? = some x → as[i]? = some a → VR π x a) : VR π (.tuple cs) (.tup as)
  | win (B off n cap : Nat) (hn : n ≤ cap) (hm : cap ≤ maxLen) : VR π (.slice (some ⟨B, off, none⟩) n cap) (.win B off n cap)
  | fsl (ad : Option Addr) (n : Nat) (es : List (List AV)) (h : VR π (.slice ad n n) (.sl es none)) (hl : es.length = n) : VR π (.slice ad n n) (.fsl es)

theorem VR.mono {π π' : Pi} (h : π.le π') {x : Value} {a : AV} (r : VR π x a) : VR π' x a := by
  induction r with
  | v x => exact .v x
  | str s l hh => exact .str s l hh
  | ptr B off => exact .ptr B off
  | cptr B off cells val hp hv ih => exact .cptr B off cells val (fun j hj => h _ _ _ (hp j hj)) (fun j a ha => ih j a ha)
  | nilsl => exact .nilsl
  | sl ad n cap esz es own val hn hes hs hc hm hp hv ho ih => exact .sl ad n cap esz es own val hn hes hs hc hm (fun i j hi hj => h _ _ _ (hp i j hi hj)) (fun i j e a he ha => ih i j e a he ha) ho
  | mp B => exact .mp B
  | fn f cs as hl hh ih => exact .fn f cs as hl (fun i x a hx ha => ih i x a hx ha)
  | ifc t x a hh ih => exact .ifc t x a ih
  | agg cs as hl hh ih => exact .agg cs as hl (fun i x a hx ha => ih i x a hx ha)
  | tup cs as hl hh ih => exact .tup cs as hl (fun i x a hx ha => ih i x a hx ha)
  | win B off n cap hn hm => exact .win B off n cap hn hm
  | fsl ad n es _ hl ih => exact .fsl ad n es ih hl

/-- Place by place. -/
def PW (π : Pi) (cs : Array Value) (as : List AV) : Prop := cs.size = as.length ∧ ∀ (i : Nat) (x : Value) (a : AV), cs[i]? = some x → as[i]? = some a → VR π x a
theorem PW.mono {π π' : Pi} (h : π.le π') {cs : Array Value} {as : List AV} (r : PW π cs as) : PW π' cs as := ⟨r.1, fun i x a hx ha => (r.2 i x a hx ha).mono h⟩
theorem PW.get {π : Pi} {cs : Array Value} {as : List AV} (r : PW π cs as) {i : Nat} {a : AV} (ha : as[i]? = some a) : ∃ x, cs[i]? = some x ∧ VR π x a := by
  have hi : i < cs.size := by rw [r.1]; exact (List.getElem?_eq_some_iff.1 ha).1
  exact ⟨cs[i], by simp [hi], r.2 i _ _ (by simp [hi]) ha⟩

/-- A block of the call's own. -/
inductive AObj where
  | var (cells : List AV) (ety : TypeId)
  | tip (ety : TypeId) (esz n cap : Nat)
  | map (ents : List (Key × AV × Nat)) (clock : Nat)
  | miter (M since : Nat) (seen : List Nat) (last : Nat)
  | siter (l : List UInt8) (pos : Nat)

abbrev AS := Nat → Option AObj
def AS.set (S : AS) (B : Nat) (o : AObj) : AS := fun b => if b = B then some o else S b
def AS.del (S : AS) (B : Nat) : AS := fun b => if b = B then none else S b
def AS.le (S T : AS) : Prop := ∀ B o, S B = some o → T B = some o
theorem AS.le_refl (S : AS) : S.le S := fun _ _ h => h
theorem AS.le_trans {S T U : AS} (h : S.le T) (k : T.le U) : S.le U := fun B o x => k B o (h B o x)
theorem AS.le_set {S : AS} {B : Nat} {o : AObj} (h : S B = none) : S.le (S.set B o) := by
  intro b x hb
  unfold AS.set
  split
  · rename_i e; subst e; rw [h] at hb; cases hb
  · exact hb
@[simp] theorem AS.set_same (S : AS) (B : Nat) (o : AObj) : (S.set B o) B = some o := by simp [AS.set]
theorem AS.set_other (S : AS) {B b : Nat} (o : AObj) (h : b ≠ B) : (S.set B o) b = S b := by simp [AS.set, h]
@[simp] theorem AS.set_set (S : AS) (B : Nat) (o o' : AObj) : (S.set B o).set B o' = S.set B o' := by funext b; unfold AS.set; split <;> rfl

def ORel (π : Pi) (w : World) (B : Nat) : AObj → Prop
  | .var cells ety => (∃ cs, w.heap[B]? = some (.cells cs ety (0, 0)) ∧ PW π cs cells) ∧ ∀ o, π B o = none
  | .tip ety esz n cap => (∃ cs, w.heap[B]? = some (.cells cs ety (0, 0)) ∧ cs.size = cap * esz ∧ n ≤ cap ∧ cap ≤ maxLen) ∧ ∀ o, n * esz ≤ o → π B o = none
  | .map ents clock => (∃ es, w.heap[B]? = some (.map es clock) ∧ es.size = ents.length ∧ (∀ (i : Nat) (e : MapEntry) (p : Key × AV × Nat), es[i]? = some e → ents[i]? = some p → e.key = p.1.val ∧ VR π e.val p.2.1 ∧ e.born = p.2.2) ∧
      (ents.map (·.2.2)).Pairwise (· < ·) ∧ ∀ p ∈ ents, p.2.2 < clock) ∧ ∀ o, π B o = none
  | .miter M since seen last => w.heap[B]? = some (.mapIter (some M) since seen.toArray last) ∧ ∀ o, π B o = none
  | .siter l pos => (∃ s : ByteArray, w.heap[B]? = some (.stringIter s pos) ∧ s.data.toList = l) ∧ ∀ o, π B o = none

structure Sim (b0 : Nat) (w0 : World) (π : Pi) (S : AS) (w : World) : Prop where
  below : Below b0 w0 w
  base : b0 ≤ w.heap.size
  pi : ∀ B o x, π B o = some x → w.cell? ⟨B, o, none⟩ = some x
  obj : ∀ B o, S B = some o → b0 ≤ B ∧ ORel π w B o

section
variable {b0 : Nat} {w0 : World} {π : Pi} {S T : AS} {w : World}

theorem ORel.lt {B : Nat} {o : AObj} (h : ORel π w B o) : B < w.heap.size := by
  cases o with
  | var cells ety => obtain ⟨⟨cs, hh, _⟩, _⟩ := h; exact (Array.getElem?_eq_some_iff.1 hh).1
  | tip ety esz n cap => obtain ⟨⟨cs, hh, _⟩, _⟩ := h; exact (Array.getElem?_eq_some_iff.1 hh).1
  | map ents clock => obtain ⟨⟨es, hh, _⟩, _⟩ := h; exact (Array.getElem?_eq_some_iff.1 hh).1
  | miter M since seen last => obtain ⟨hh, _⟩ := h; exact (Array.getElem?_eq_some_iff.1 hh).1
  | siter s pos => obtain ⟨⟨s, hh, _⟩, _⟩ := h; exact (Array.getElem?_eq_some_iff.1 hh).1
theorem ORel.heap {w' : World} {B : Nat} {o : AObj} (hh : w'.heap[B]? = w.heap[B]?) (h : ORel π w B o) : ORel π w' B o := by
  cases o <;> simp only [ORel, hh] at h ⊢ <;> exact h
theorem ORel.pi {π' : Pi} {B : Nat} {o : AObj} (hle : π.le π') (hB : ∀ j, π' B j = π B j) (h : ORel π w B o) : ORel π' w B o := by
  cases o with
  | var cells ety => obtain ⟨⟨cs, hh, hp⟩, hn⟩ := h; exact ⟨⟨cs, hh, hp.mono hle⟩, fun j => by rw [hB]; exact hn j⟩
  | tip ety esz n cap => obtain ⟨hx, hn⟩ := h; exact ⟨hx, fun j hj => by rw [hB]; exact hn j hj⟩
  | map ents clock => obtain ⟨⟨es, hh, hs, he, hb⟩, hn⟩ := h; exact ⟨⟨es, hh, hs, fun i e p h1 h2 => ⟨(he i e p h1 h2).1, ((he i e p h1 h2).2.1).mono hle, (he i e p h1 h2).2.2⟩, hb⟩, fun j => by rw [hB]; exact hn j⟩
  | miter M since seen last => exact ⟨h.1, fun j => by rw [hB]; exact h.2 j⟩
  | siter s pos => exact ⟨h.1, fun j => by rw [hB]; exact h.2 j⟩

theorem Sim.le (h : Sim b0 w0 π T w) (hle : S.le T) : Sim b0 w0 π S w := ⟨h.below, h.base, h.pi, fun B o hB => h.obj B o (hle B o hB)⟩
theorem Sim.lt (h : Sim b0 w0 π S w) {B : Nat} {o : AObj} (hB : S B = some o) : B < w.heap.size := (h.obj B o hB).2.lt
theorem Sim.fresh (h : Sim b0 w0 π S w) : S w.heap.size = none := by
  cases e : S w.heap.size with
  | none => rfl
  | some o => exact absurd (h.lt e) (Nat.lt_irrefl _)
theorem Sim.pi_lt (h : Sim b0 w0 π S w) {B o : Nat} {x : Value} (hx : π B o = some x) : B < w.heap.size := World.block_lt_of_cell? w ⟨B, o, none⟩ (h.pi B o x hx)
theorem Sim.pi_fresh (h : Sim b0 w0 π S w) {B : Nat} (hB : w.heap.size ≤ B) (o : Nat) : π B o = none := by
  cases e : π B o with
  | none => rfl
  | some x => exact absurd (h.pi_lt e) (by omega)

/-- The world has grown, or one block of the call's own has turned: what is known of the others stays. -/
theorem Sim.grown (h : Sim b0 w0 π S w) {w' : World} {row : Option Nat} (hg : w.grownBy w' row) (hr : ∀ k, row = some k → b0 ≤ k)
    (hpi : ∀ k o x, row = some k → π k o = some x → w'.cell? ⟨k, o, none⟩ = some x) (hS : ∀ k, row = some k → T k = none) (hle : T.le S) : Sim b0 w0 π T w' := by
  refine ⟨h.below.grown hg h.base hr, Nat.le_trans h.base hg.size, ?_, ?_⟩
  · intro B o x hx
    by_cases e : some B = row
    · exact hpi B o x e.symm hx
    · exact (World.cell?_of_block (a := ⟨B, o, none⟩) (hg.block B (h.pi_lt hx) e)).trans (h.pi B o x hx)
  · intro B o hB
    have hne : some B ≠ row := fun e => by rw [hS B e.symm] at hB; cases hB
    exact ⟨(h.obj B o (hle B o hB)).1, (h.obj B o (hle B o hB)).2.heap (hg.block B (h.lt (hle B o hB)) hne)⟩

theorem Sim.drew (h : Sim b0 w0 π S w) : Sim b0 w0 π S w.drew :=
  ⟨⟨h.below.os, h.below.tape, h.below.output, h.below.size, h.below.block⟩, h.base, h.pi, fun B o hB => ⟨(h.obj B o hB).1, (h.obj B o hB).2.heap rfl⟩⟩

theorem Sim.alloc (h : Sim b0 w0 π S w) (ob : Obj) {o : AObj} (ho : ORel π (w.alloc ob) w.heap.size o) : Sim b0 w0 π (S.set w.heap.size o) (w.alloc ob) := by
  have hb : Sim b0 w0 π S (w.alloc ob) := h.grown (World.grownBy_alloc w ob none) (fun _ e => by cases e) (fun _ _ _ e => by cases e) (fun _ e => by cases e) (AS.le_refl S)
  refine ⟨hb.below, hb.base, hb.pi, ?_⟩
  intro B x hx
  unfold AS.set at hx
  split at hx
  · rename_i e; subst e; cases hx; exact ⟨h.base, ho⟩
  · exact hb.obj B x hx

/-- A block of the call's own is written. -/
theorem Sim.setRow (h : Sim b0 w0 π S w) {B : Nat} {cells cells' : List AV} {ety : TypeId} {cs : Array Value} (hB : S B = some (.var cells ety)) (hp : PW π cs cells') :
    Sim b0 w0 π (S.set B (.var cells' ety)) (w.setRow B cs) := by
  obtain ⟨hb, ⟨old, hh, _⟩, hn⟩ := h.obj B _ hB
  have hg : w.grownBy (w.setRow B cs) (some B) := ⟨rfl, rfl, rfl, by simp, fun k _ hk => setRow_other w B k cs (fun e => hk (by rw [e]))⟩
  have hs : Sim b0 w0 π (S.del B) (w.setRow B cs) := h.grown hg (fun k e => by cases e; exact hb) (fun k o x e hx => by cases e; rw [hn o] at hx; cases hx)
    (fun k e => by cases e; simp [AS.del]) (fun b o hb => by unfold AS.del at hb; split at hb; · cases hb
                                                             · exact hb)
  refine ⟨hs.below, hs.base, hs.pi, ?_⟩
  intro b o hbo
  unfold AS.set at hbo
  split at hbo
  · rename_i e; subst e; cases hbo; exact ⟨hb, ⟨cs, setRow_heap w b old cs ety (0, 0) hh, hp⟩, hn⟩
  · rename_i e
    exact hs.obj b o (by simp [AS.del, e, hbo])
/-- A block of the call's own turns, whatever it is. -/
theorem Sim.turn (h : Sim b0 w0 π S w) {B : Nat} {o o' : AObj} (hB : S B = some o) (hn : ∀ j, π B j = none) (ob : Obj) (ho : ORel π { w with heap := w.heap.setIfInBounds B ob } B o') :
    Sim b0 w0 π (S.set B o') { w with heap := w.heap.setIfInBounds B ob } := by
  obtain ⟨hb, _⟩ := h.obj B _ hB
  have hg : w.grownBy { w with heap := w.heap.setIfInBounds B ob } (some B) := ⟨rfl, rfl, rfl, by simp, fun k hk hne => by
    have : B ≠ k := fun e => hne (by rw [e])
    simp [this]⟩
  have hs : Sim b0 w0 π (S.del B) { w with heap := w.heap.setIfInBounds B ob } := h.grown hg (fun k e => by cases e; exact hb) (fun k o x e hx => by cases e; rw [hn o] at hx; cases hx)
    (fun k e => by cases e; simp [AS.del]) (fun b o hb => by unfold AS.del at hb; split at hb; · cases hb
                                                             · exact hb)
  refine ⟨hs.below, hs.base, hs.pi, ?_⟩
  intro b o hbo
  unfold AS.set at hbo
  split at hbo
  · rename_i e; subst e; cases hbo; exact ⟨hb, ho⟩
  · rename_i e; exact hs.obj b o (by simp [AS.del, e, hbo])
end
end Go.Aw
