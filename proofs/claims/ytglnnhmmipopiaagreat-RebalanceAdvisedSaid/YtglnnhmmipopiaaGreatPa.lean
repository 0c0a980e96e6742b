/-
 THE LAW RebalanceKeeps IN PLAIN LEAN: what an applied marker keeps.
-/
import Derived.Test.YtglnnhmmipopiaaGreatOz
set_option linter.all false
namespace Go.Proofs.YtglnnhmmipopiaaGreat
end Go.Proofs.YtglnnhmmipopiaaGreat
