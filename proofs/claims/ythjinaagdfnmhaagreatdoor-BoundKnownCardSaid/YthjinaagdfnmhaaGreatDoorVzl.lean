import Derived.Test.YthjinaagdfnmhaaGreatDoorVzk
import Derived.Conc.Holds
import Derived.LaidHandle
namespace Go.VE
open Go
set_option linter.unusedVariables false

/-- A call that ends alone ends with nobody but such as leave. -/
theorem leaving_of_handed {a : Assume} {C : Checked} {os : Os} {f : FuncId} {r : Reach} {Pre : World → Array Value → Prop} {Post : World → Array Value → Value → World → Prop} (h : ReturnsInHanded a C os f r Pre Post) :
    ReturnsInLeavingWide a C os f r Pre Post := fun enter => by
  obtain ⟨g0, g1, g2, g3, all⟩ := h enter
  refine ⟨g0, g1, g2, g3, fun w tape i hf => ?_⟩
  obtain ⟨n, v, w', hn, hc, hr, hp, ⟨j, last, hj, hs, hq, hh, he⟩, ha⟩ := all w tape i hf
  refine ⟨n, v, w', hn, hc, hr, hp, ⟨j, last, hj, hs, hh, ⟨fun g hg => ⟨0, ?_⟩, hq.2⟩, he⟩, ha⟩
  have h1 := hq.1
  unfold Machine.othersDone at h1
  have := List.all_eq_true.1 h1 g hg
  show g.status = .finished
  simpa using this
end Go.VE
