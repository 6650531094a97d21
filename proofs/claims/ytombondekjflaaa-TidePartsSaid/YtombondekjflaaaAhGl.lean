/- YtombondekjflaaaAhGl: a part of the proof; see the last text for what is proved. -/
import Derived.Test.YtombondekjflaaaAhVal
namespace Go.AE
def gl : List (Nat × TypeId × List Value) := []
end Go.AE
