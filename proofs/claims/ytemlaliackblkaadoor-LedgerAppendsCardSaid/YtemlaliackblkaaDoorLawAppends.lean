/- loftblocklaw48.LedgerAppends: the walk of the law. -/
import Derived.Test.YtemlaliackblkaaDoorLedAwake
namespace Go.Proofs.YtemlaliackblkaaDoor
open Go.RowKit

set_option maxRecDepth 100000 in
set_option maxHeartbeats 8000000 in
theorem ledgerAppends_any (a : Sl UInt8) (x : LogD) (hx : x.ok) (w : World) (ht : Tabs w) (B : Nat) (hB : B ≤ w.heap.size) (hs : SlAt w B 1 byteCells a) (hn : a.A = none → a.cap = 0) :
    Calls Tryd.prog 3 #[.slice a.A a.l.length a.cap, .agg #[.int .i64 x.day, .string x.rope, .int .i64 x.kind, .int .i64 x.runs]] w (Gives w (.bool true)) := by
  obtain ⟨A, cap, b⟩ := a
  simp only at *
  obtain ⟨V, hV, hVs, hVb, hVh⟩ := boxed w (.cells #[.int .i64 x.day, .string x.rope, .int .i64 x.kind, .int .i64 x.runs] 24)
  have hc := fun y : After V.heap.size V => LogD.boxed hVh (by omega) y
  have HBD := hide fun (y : After V.heap.size V) => (hVb.trans (y.below.mono (by omega)) : Below w.heap.size w y.val)
  have hsV := hs.to (hVb.mono hB) (show B ≤ V.heap.size by omega)
  have KA := hide (Gives.first (awake48 V (ht.below hVb)))
  have KH := hide (fun y : After V.heap.size V => heavy_any A cap b y.val)
  have htV := ht.below hVb
  have KP := hide (fun (hr : x.rope.size ≤ 1000) (y : After V.heap.size V) => append_any A cap hn b x hx hr y.val (htV.below y.below) y.val.heap.size (Nat.le_refl _) (hsV.to y.below y.size))
  have KR := hide (fun (hr : x.rope.size ≤ 1000) (y : After V.heap.size V) => refAppend_any A cap hn b x hx hr y.val y.val.heap.size (Nat.le_refl _) (hsV.to y.below y.size))
  have HV := hide hV
  clear hV hVs hVb hVh hs ht hn hsV htV
  go_enter Tryd.func3, Tryd.ntmps3
  go_wp2_with fail
  rw [← HV.out]
  refine KA.out.mono ?_
  rintro e w1 ⟨rfl, y, rfl⟩
  go_wp2_with fail
  refine (KH.out y).mono ?_
  rintro e w1 ⟨hv, rfl, hb⟩
  obtain ⟨y, rfl⟩ := After.exists_iff (y.below.trans (hb.mono y.size))
  clear hb
  cases hv
  · rcases (show 60 < (x.rope.size : Int) ∨ (x.rope.size : Int) ≤ 60 by omega) with hr | hr
    · go_wp2
      go_ret
      exact Gives.mk rfl (HBD.out y)
    · have KP := hide (KP.out (by omega))
      have KR := hide (KR.out (by omega))
      go_wp2_with fail
      refine (KP.out y).mono ?_
      rintro e w1 ⟨v1, o1, e1, rfl, ha1, A1, c1, rfl, _, hs1, hb1⟩
      obtain ⟨y1, rfl⟩ := After.exists_iff (y.below.trans (hb1.mono y.size))
      clear hb1
      go_wp2_with fail
      refine (KR.out y1).mono ?_
      rintro e w1 ⟨v2, o2, e2, rfl, ha2, A2, c2, rfl, _, hs2, hb2⟩
      obtain ⟨rfl, rfl⟩ := ha1.same ha2
      obtain ⟨y2, rfl⟩ := After.exists_iff (y1.below.trans (hb2.mono y1.size))
      have KE0 := Gives.after (x := y2) (Nat.le_refl _) (equalBytes_any (hs1.below hb2) hs2)
      rw [show (o1 == o1) = true by simp] at KE0
      have KE := hide KE0
      clear ha1 ha2 hs1 hs2 KE0 hb2
      go_wp2_with fail
      refine KE.out.mono ?_
      rintro e w2 ⟨rfl, y3, rfl⟩
      go_wp2
      go_ret
      exact Gives.mk rfl (HBD.out y3)
  · go_wp2
    go_ret
    exact Gives.mk rfl (HBD.out y)
end Go.Proofs.YtemlaliackblkaaDoor
