/- Lemmas for TopPrinted: RefSet. -/
import Derived.Test.YtdcahhbipeaggaaGreatDoorRefItems
import Derived.Test.YtdcahhbipeaggaaGreatDoorRefBricks
import Derived.Test.YtdcahhbipeaggaaGreatDoorLines
namespace Go.Proofs.YtdcahhbipeaggaaGreatDoor
open Go.RowKit
theorem Xcw{s:Xd}:Ju s=true↔XF s.name=true/\Xg s.depth 0 1048576=true/\Xg s.low 0 s.high=true/\Xg s.high 0 1048576=true/\Xg s.length 1000 1048576=true/\s.length % 1000=0:=by
 simp[Ju,and_assoc]
theorem Xjs{s:Xd}:XbX s=true↔Xg s.aM 0 1048576=true/\Xg s.aN 0 1048576=true/\Xg s.aI 1 2=true/\Xg s.most 1 67108864=true/\Xg s.aJ 0 67108864=true:=by
 simp[XbX,and_assoc]
end Go.Proofs.YtdcahhbipeaggaaGreatDoor
