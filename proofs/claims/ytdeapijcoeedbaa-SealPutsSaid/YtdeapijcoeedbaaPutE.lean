/- One name for what layer 2 and above take from layer 1. -/
import Derived.Test.YtdeapijcoeedbaaNew
import Derived.Test.YtdeapijcoeedbaaApp
namespace Go.Proofs.Ytdeapijcoeedbaa
theorem pute_there : True := trivial
end Go.Proofs.Ytdeapijcoeedbaa
