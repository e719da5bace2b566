/-
  A world for the witness: the tables laid; conditions: none.
-/
import Derived.Test.YtgfljbplccekcaaDoorCards
import Derived.Test.YtgfljbplccekcaaDoorTie
import Derived.Test.YtgfljbplccekcaaDoorPost
import Derived.WalkKit
import Derived.Deep.DeepHandedRow
import Derived.Lib.LaidTab
set_option linter.unusedSimpArgs false
set_option linter.unusedVariables false
set_option maxRecDepth 100000
namespace Go.Proofs.YtgfljbplccekcaaDoor
open Go Go.V Go.ChangeShapes Go.WideShapes Go.ChangeAt Go.RowKit
theorem own : ownKnob Tryd.prog.godebug = none := by kernel_rfl
noncomputable def litsOf : DataW Unit → Array Value
  | .agg l => (l.map fun | .lit (.int k n) => Value.int k n | _ => .nilFunc).toArray
  | _ => #[]
noncomputable def lay (h : Heap) (g : Nat) (d : DataW Unit) : Heap := h.modify g fun | .cells _ t fz => .cells (litsOf d) t fz | o => o
noncomputable def laidWorld (os : Os) : World :=
  { World.holding Tryd.prog os ⟨#[], #[], []⟩ with heap := lay (lay (lay (World.holding Tryd.prog os ⟨#[], #[], []⟩).heap 0 Rows.laid_math_bits_deBruijn64tab) 1 Rows.laid_internal_strconv_uint64pow10) 2 Rows.laid_math_bits_deBruijn32tab }
theorem p_rowed : mapsRowed Tryd.prog = true := by kernel_rfl
theorem p_heard : Tryd.prog.stopsHeard = true := by kernel_rfl
theorem p_enter : Tryd.prog.mayEnter = true := by kernel_rfl
theorem p_keys : Tryd.prog.plainKeys = false := by kernel_rfl
end Go.Proofs.YtgfljbplccekcaaDoor
