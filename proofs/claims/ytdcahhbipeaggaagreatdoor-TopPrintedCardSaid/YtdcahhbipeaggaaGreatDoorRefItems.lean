/- Lemmas for TopPrinted: RefItems. -/
import Derived.Test.YtdcahhbipeaggaaGreatDoorItems
namespace Go.Proofs.YtdcahhbipeaggaaGreatDoor
open Go.RowKit
theorem Xc4{x:Xu}{len:Int}(h:Qj x len=true)(hl:len<=1048576):Xfe x:=by
 obtain⟨h0,h1,h2,h3⟩:=Xdx h hl;exact⟨h0,h1,h2,h3⟩
end Go.Proofs.YtdcahhbipeaggaaGreatDoor
