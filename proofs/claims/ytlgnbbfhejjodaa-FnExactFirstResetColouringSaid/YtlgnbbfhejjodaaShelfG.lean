/- The shelf's structures of slices' functions, laid at numbers of 64 bits. -/
import Derived.Shelf.SlGeneric
import Derived.Ground.SlgnProg
import Derived.Ground.SlgmProg
import Derived.Shelf.SlLaysM
import Derived.Shelf.SlLaysN
import Derived.Test.YtlgnbbfhejjodaaChecked
namespace Go.Proofs.Ytlgnbbfhejjodaa
open Go.Shelf
shelf_lay_g SlLaysN.n43 Slgn 43 at Try 154 as Try.lcompact
shelf_lay_g SlLaysN.n31 Slgn 31 at Try 133 as Try.lcontains
shelf_lay_g SlLaysN.n29 Slgn 29 at Try 151 as Try.lindex
shelf_lay_g SlLaysM.n5 Slgm 5 at Try 153 as Try.lsort
end Go.Proofs.Ytlgnbbfhejjodaa
