/- One name for what layer 2 and above take from layer 1. -/
import Derived.Test.YtakjjfohjodepaaNew
import Derived.Test.YtakjjfohjodepaaApp
namespace Go.Proofs.Ytakjjfohjodepaa
theorem pute_there : True := trivial
end Go.Proofs.Ytakjjfohjodepaa
