/- The shelf's structures of slices' functions, laid at numbers of 64 bits (they lie in LayG, in plain words). -/
import Derived.Test.YtlgnbbfhejjodaaLayG
import Derived.Test.YtlgnbbfhejjodaaChecked
namespace Go.Proofs.Ytlgnbbfhejjodaa
end Go.Proofs.Ytlgnbbfhejjodaa
