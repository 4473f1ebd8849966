/- The listed table as the rows' condition gives it to the walks, and a world in which it lies. -/
import Derived.Test.YtpigonlbdleaeaaDoorHamTz
import Derived.Test.YtpigonlbdleaeaaDoorRows
import Derived.Test.YtpigonlbdleaeaaDoorTie
import Derived.Test.YtpigonlbdleaeaaDoorCards
import Derived.LaidLaws
import Derived.Lib.LaidTab
import Derived.MakeChecks
import Derived.Stop.Joined
import Derived.SevenTiedAt
namespace Go.Proofs.YtpigonlbdleaeaaDoor
theorem gTab : Tryd.prog.globalNamed "math/bits.deBruijn64tab" = some 0 := by kernel_rfl
theorem gTabType : (Tryd.prog.globals[0]?).map (·.type) = some 53 := by kernel_rfl
theorem cellsTab : Tryd.prog.cellsOf 53 = 64 := by kernel_rfl
theorem cellsByte : Tryd.prog.cellsOf 5 = 1 := by kernel_rfl
theorem ownKnobNone : ownKnob Tryd.prog.godebug = none := by kernel_rfl
def tabInts : List Int := Lib.deBruijn64tab.map fun (n : Nat) => (n : Int)
abbrev laidList : List (String × DataW Unit) := [("math/bits.deBruijn64tab", Rows.laid_math_bits_deBruijn64tab)]
theorem laid_is : (Rows.laid_math_bits_deBruijn64tab : DataW Unit) = Lib.tabData .u8 tabInts := by rfl
theorem gtab_of_laid {W : World} (h : laidMetH Tryd.prog laidList W) : GTab W := by
  rw [MakeChecks.laidMetH_plain _ _ _ (by rfl)] at h
  have h2 : laidMet Tryd.prog (("math/bits.deBruijn64tab", Lib.tabData .u8 tabInts) :: []) W := h
  have hT := Lib.tabIs_of_head gTab gTabType Tryd.underlying53 Tryd.underlying5 cellsByte cellsTab h2
  refine ⟨fun j hj => ?_⟩
  have hc := hT.cell gTab j (by simpa [tabInts, Lib.deBruijn64tab] using hj)
  rw [hc]
  have e : ∀ j, j < 64 → tabInts.getD j 0 = ((Lib.deBruijn64tab.getD j 0 : Nat) : Int) := by decide +kernel
  rw [e j hj]
/-- The settled world with the table laid as its initialiser lays it. -/
noncomputable def laidWorld (os : Os) : World :=
  { World.holding Tryd.prog os ⟨#[], #[], []⟩ with heap := (World.holding Tryd.prog os ⟨#[], #[], []⟩).heap.modify 0 fun
      | .cells _ t frozen => .cells (tabInts.map fun z => Value.int .u8 z).toArray t frozen
      | o => o }
theorem laid_met (os : Os) (args : Array Value) : laidMetH Tryd.prog laidList ((laidWorld os).forCall (fun _ _ => 0) ⟨#[], args, []⟩).memory := by
  rw [MakeChecks.laidMetH_plain _ _ _ (by rfl)]
  exact laidMet_of_run' 8 (by kernel_rfl) (by kernel_rfl)
end Go.Proofs.YtpigonlbdleaeaaDoor
