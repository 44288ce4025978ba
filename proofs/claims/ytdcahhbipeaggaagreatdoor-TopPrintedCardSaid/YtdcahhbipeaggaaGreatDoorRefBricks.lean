/- Lemmas for TopPrinted: RefBricks. -/
import Derived.Test.YtdcahhbipeaggaaGreatDoorItems
namespace Go.Proofs.YtdcahhbipeaggaaGreatDoor
open Go.RowKit
theorem XdI{l:List Xo}{k:Nat}{b:Xo}(h:l[k]? =some b):counts (l.take (k+1))=counts (l.take k)+b.count:=by
 rw[List.take_add_one,h];simp[counts,List.sum_append]
theorem XpB(l:List Xo):counts (l.take l.length)=counts l:=by rw[List.take_length]
theorem QW{b:Xo}:J6 b=true↔XF b.name=true/\Xg b.weight 1 1048576=true/\Xg b.count 0 60=true:=by
 simp[J6,and_assoc]
theorem XnW{l:List Xo}{k:Nat}{y:Xo}(hy:l[k]? =some y)(h:QD l k y=false):Yb l=false:=by rw[Yb,YP hy h,Bool.and_false,Bool.false_and]
theorem Xj9{l:List Xo}(h:8<(l.length:Int)):Yb l=false:=by rw[Yb,decide_eq_false (by omega)];rfl
theorem Xms{l:List Xo}{k:Nat}(h:(l.length:Int)<=8)(hk:k=l.length)(hu:YA (QD l) l k):decide (counts (l.take k)<=60)=Yb l:=by
 subst hk;rw[Yb,decide_eq_true (show l.length<=8 by omega),hu.all nr,XpB];rfl
end Go.Proofs.YtdcahhbipeaggaaGreatDoor
