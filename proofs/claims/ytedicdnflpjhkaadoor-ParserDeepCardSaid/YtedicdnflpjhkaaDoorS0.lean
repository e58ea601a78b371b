/- The box language's trees as Lean data, and how they lie in memory. No condition: definitions. -/
import Derived.Test.YtedicdnflpjhkaaDoorAA
import Derived.Test.YtedicdnflpjhkaaDoorAT
namespace Go.Proofs.YtedicdnflpjhkaaDoor
open Go.Aw
structure Fl where
  tag : List UInt8
  sign : Int
  n : Int
inductive Ex where
  | mk (kind n : Int) (field : List UInt8) (filters : List Fl) (kids : List Ex)
namespace Ex
def kind : Ex → Int | .mk k _ _ _ _ => k
def n : Ex → Int | .mk _ n _ _ _ => n
def field : Ex → List UInt8 | .mk _ _ f _ _ => f
def filters : Ex → List Fl | .mk _ _ _ f _ => f
def kids : Ex → List Ex | .mk _ _ _ _ k => k
end Ex
def int (n : Int) : AV := .v (.int .i64 n)
def bool (b : Bool) : AV := .v (.bool b)
def encF (f : Fl) : List AV := [.str f.tag, .v (.int .u8 f.sign), .v (.int .i64 f.n)]
mutual
def encE : Ex → List AV
  | .mk k n f fs ks => [.v (.int .i64 k), .v (.int .i64 n), .str f, .sl (fs.map encF) none, .sl (encEs ks) none]
def encEs : List Ex → List (List AV)
  | [] => []
  | e :: r => encE e :: encEs r
end
theorem encEs_eq : ∀ l : List Ex, encEs l = l.map encE
  | [] => rfl
  | e :: r => by rw [encEs, encEs_eq r]; rfl
theorem encE_eq (e : Ex) : encE e = [.v (.int .i64 e.kind), .v (.int .i64 e.n), .str e.field, .sl (e.filters.map encF) none, .sl (e.kids.map encE) none] := by
  cases e; simp only [encE, encEs_eq]; rfl
theorem encE_length (e : Ex) : (encE e).length = 5 := by rw [encE_eq]; rfl
theorem encE_take (e : Ex) : (encE e).take 5 = encE e := List.take_of_length_le (by rw [encE_length]; exact Nat.le_refl _)
theorem encE_one (e : Ex) : (encE e).all AV.one = true := by rw [encE_eq]; rfl
theorem encF_length (f : Fl) : (encF f).length = 3 := rfl
theorem encF_take (f : Fl) : (encF f).take 3 = encF f := rfl
theorem encF_one (f : Fl) : (encF f).all AV.one = true := rfl
end Go.Proofs.YtedicdnflpjhkaaDoor
