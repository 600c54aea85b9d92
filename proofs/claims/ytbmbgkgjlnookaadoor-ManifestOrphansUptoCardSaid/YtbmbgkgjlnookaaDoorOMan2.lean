import Derived.Test.YtbmbgkgjlnookaaDoorOMan1
namespace Go.Proofs.YtbmbgkgjlnookaaDoor
open Go.RowKit Go.Maps

end Go.Proofs.YtbmbgkgjlnookaaDoor
