/- Tokens as plain data. -/
import Derived.Test.YteajbghklmkoeaaPv18
import Derived.Test.YteajbghklmkoeaaNd
namespace Go.Pv
set_option linter.unusedVariables false
set_option linter.unusedSimpArgs false
structure Tk where
  kind : Int
  before : ByteArray
  text : ByteArray
  at_ : Int
instance : Inhabited Tk := ⟨⟨0, ⟨#[]⟩, ⟨#[]⟩, 0⟩⟩
@[reducible] def encTC (t : Tk) : List PV := [.lit (.int .i64 t.kind), .lit (.string t.before), .lit (.string t.text), .lit (.int .i64 t.at_)]
@[reducible] def encT (t : Tk) : PV := .agg (encTC t)
@[reducible] def toks (k : VK) (l : List Tk) : PV := .vec k (l.map encT)
@[simp] theorem cells_encT : PV.cells ∘ encT = encTC := by funext x; rfl
@[simp] theorem width_encT : PV.width ∘ encT = fun _ => 4 := by funext x; rfl
end Go.Pv
