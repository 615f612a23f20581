/- The program's own closed facts that a row's builder asks, one by one. Conditions: none. -/
import Derived.Test.YtibffohcmegooaaGreatDoorChecked
import Derived.JoinedOf
namespace Go.Proofs.YtibffohcmegooaaGreatDoor.V
set_option linter.all false
open Go
theorem f_laidOut : laidOutB Tryz.prog = true := by kernel_rfl
theorem f_mapsRowed : mapsRowed Tryz.prog = true := by kernel_rfl
theorem f_stops : Tryz.prog.stops = [] := by kernel_rfl
theorem f_stopKnobs : Tryz.prog.stopKnobs = [] := by kernel_rfl
theorem f_plainKeys : Tryz.prog.plainKeys = true := by kernel_rfl
theorem f_stopsHeard : Tryz.prog.stopsHeard = true := by kernel_rfl
theorem f_mayEnter : Tryz.prog.mayEnter = true := by kernel_rfl
end Go.Proofs.YtibffohcmegooaaGreatDoor.V
