/- For every byte the call of TopCatalan returns true and its argument reads behind it as before. Conditions: those of the given row and card: the two listed package variables of unicode/utf8 are laid as the program's text lays them (the card ties them; one is a pinned table). -/
import Derived.Test.YtpbomcnhgmniaaaDoorQl
import Derived.Test.YtpbomcnhgmniaaaDoorVa
section
namespace Go.Proofs.YtpbomcnhgmniaaaDoor
theorem topCatalan_holds : Rows.TopCatalanCardSaid := card_of fun w hw W => Go.E.calls_of_pure (Cat.catalan w hw) W
#print axioms topCatalan_holds
end Go.Proofs.YtpbomcnhgmniaaaDoor
end
