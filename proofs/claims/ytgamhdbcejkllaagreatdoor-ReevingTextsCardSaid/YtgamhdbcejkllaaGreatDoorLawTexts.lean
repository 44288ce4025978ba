/- What the listed tables and errors give at the row's first world. loftblocklaw10.ReevingTexts: the walk of the law. -/
import Derived.Test.YtgamhdbcejkllaaGreatDoorTied
import Derived.Test.YtgamhdbcejkllaaGreatDoorReeveIO
import Derived.Test.YtgamhdbcejkllaaGreatDoorRows
import Derived.Test.YtgamhdbcejkllaaGreatDoorReeveAwake
import Derived.Test.YtgamhdbcejkllaaGreatDoorRefSame
import Derived.Test.YtgamhdbcejkllaaGreatDoorParseSys
import Derived.Test.YtgamhdbcejkllaaGreatDoorRefParse
import Derived.Test.YtgamhdbcejkllaaGreatDoorRefText
namespace Go.Proofs.YtgamhdbcejkllaaGreatDoor
open Go.RowKit

theorem errStar : "*" ++ "errors.errorString" = "*errors.errorString" := by decide
theorem errRow (u : TypeId) (h : Tryz.prog.typeName? 3 u = some "*errors.errorString") : u = 157 :=
  typeName_ptr_named (nm := "errors.errorString") (by rw [errStar]; kernel_rfl) (by kernel_rfl) (by decide) u (by rw [errStar]; exact h)
theorem lt_of_cell {W : World} {g : Nat} {v : Value} (hm : W.cell? ⟨g, 0, none⟩ = some v) : g < W.heap.size := by
  rcases Nat.lt_or_ge g W.heap.size with h | h
  · exact h
  · have : W.cell? ⟨g, 0, none⟩ = none := by simp [World.cell?, Array.getElem?_eq_none h]
    rw [this] at hm; cases hm
theorem tabs_of {W : World} (h : laidMetH Tryz.prog Rows.reevingTextsRow.laid W) (hs : W.ShapedOpen Tryz.prog) : TabsT W := by
  rw [MakeChecks.laidMetH_plain _ _ _ (by kernel_rfl)] at h
  have h2 := laidMet.tail (laidMet.tail h)
  have ht := Lib.tabIs_of_head (k := .u64) (zs := Lib.pow10Tab) (g := 1) (t := 139) (e := 98) (n := 20) (by kernel_rfl) (by kernel_rfl) (by kernel_rfl) (by kernel_rfl) (by kernel_rfl) (by kernel_rfl) h2
  have h4 := laidMet.tail (laidMet.tail h2)
  obtain ⟨a0, s0, hv0, _⟩ := laid_sentinel h4 (g := 3) (ti := 70) (te := 159) (ts := 9) (by kernel_rfl) (by kernel_rfl) Tryz.underlying70 errRow Tryz.underlying157 Tryz.underlying159 rfl rfl Tryz.underlying9 (by kernel_rfl) (by kernel_rfl)
  obtain ⟨a1, s1, hv1, _⟩ := laid_sentinel (laidMet.tail h4) (g := 2) (ti := 70) (te := 159) (ts := 9) (by kernel_rfl) (by kernel_rfl) Tryz.underlying70 errRow Tryz.underlying157 Tryz.underlying159 rfl rfl Tryz.underlying9 (by kernel_rfl) (by kernel_rfl)
  have c0 : W.cell? ⟨3, 0, none⟩ = some (.iface 157 (.pointer (some a0))) := by have h0 := World.var?_cell (g := 3) (by kernel_rfl) hv0 0; simpa using h0
  have c1 : W.cell? ⟨2, 0, none⟩ = some (.iface 157 (.pointer (some a1))) := by have h0 := World.var?_cell (g := 2) (by kernel_rfl) hv1 0; simpa using h0
  obtain ⟨m, hm0⟩ := Tryz.laysM219.s1_3 W hs
  have hm : W.cell? ⟨0, 0, none⟩ = some (.int .i64 m) := hm0
  exact ⟨ht, ⟨lt_of_cell hm, lt_of_cell c1, lt_of_cell c0⟩, ⟨m, hm⟩, ⟨_, _, c1⟩, _, _, c0⟩
end Go.Proofs.YtgamhdbcejkllaaGreatDoor
namespace Go.Proofs.YtgamhdbcejkllaaGreatDoor
open Go.RowKit

theorem sysT_length {s : SysD} (hok : s.ok) (hv : sysOk s = true) : (sysT s).length ≤ 20000 := by
  have fit := fit_of_ok hv
  obtain ⟨⟨_, hR6, _, hC6⟩, _, _⟩ := sysOk_parts hv
  have key : ∀ {α : Type} (f : α → List UInt8) (m : Nat) (l : List α), (∀ x ∈ l, (f x).length ≤ m) → (l.flatMap f).length ≤ m * l.length := by
    intro α f m l
    induction l with
    | nil => intro _; simp
    | cons x l ih =>
      intro h
      rw [List.flatMap_cons, List.length_append, List.length_cons, Nat.mul_succ]
      have := h x (by simp)
      have := ih (fun y hy => h y (by simp [hy]))
      omega
  have h1 := key (fun b : BlockD => (blockLn b).data.toList) 100 s.blocks.l (fun b hb => by rw [data_len]; exact blockLn_size (fit.blocks b hb) (hok.blocks b hb).weight)
  have h2 := key ropeT 1100 s.ropes.l (fun r hr => by
    have h3 := key (fun h : HoldD => (holdT h).data.toList) 100 r.holds.l (fun h hh => by rw [data_len]; exact holdT_size (fit.holds r hr h hh).1 ((hok.ropes r hr).holds h hh))
    have h4 := (ropeOk_parts (ropeOk_of hv hr)).2.1
    have h5 := fit.ropes r hr
    have h6 : (haulT r.hauled).size ≤ 7 := by cases r.hauled <;> decide
    have h7 : (ropeHd r).size ≤ 25 := by
      unfold ropeHd
      rw [app_size]
      have : (⟨#[114, 111, 112, 101, 32]⟩ : ByteArray).size = 5 := rfl
      omega
    rw [ropeT, List.length_append, List.length_append, List.length_append, data_len, data_len]
    have h8 : (holdsT r.holds.l).length ≤ 100 * r.holds.l.length := h3
    simp only [List.length_singleton]
    omega)
  rw [sysT, List.length_append]
  have h9 : (blocksT s.blocks.l).length ≤ 100 * s.blocks.l.length := h1
  have h10 : (ropesT s.ropes.l).length ≤ 1100 * s.ropes.l.length := h2
  omega
set_option maxRecDepth 100000 in
set_option maxHeartbeats 4000000 in
theorem text_bad (s : SysD) (hok : s.ok) (hv : sysOk s = false) (w : World) (B : Nat) (hB : B ≤ w.heap.size) (hat : SysD.at_ w B s) :
    Calls Tryz.prog 9 #[.agg #[.slice s.blocks.A s.blocks.l.length s.blocks.cap, .slice s.ropes.A s.ropes.l.length s.ropes.cap]] w (Gives w (.tuple #[.string ⟨#[]⟩, .int .i64 1])) := by
  obtain ⟨W, hW, hWs, hWb, hWh⟩ := boxed w (.cells #[.slice s.blocks.A s.blocks.l.length s.blocks.cap, .slice s.ropes.A s.ropes.l.length s.ropes.cap] 25)
  have hc := fun y : After W.heap.size W => SysD.boxed hWh (by omega) y
  have hatW : SysD.at_ W W.heap.size s := hat.to (hWb.mono hB) (by omega)
  have KV := hide (Gives.first (validS_any s hok W W.heap.size (Nat.le_refl _) hatW))
  rw [hv] at KV
  have hc0 := hc (After.refl _ _)
  simp only [After.refl] at hc0
  have HW := hide hW
  have HBD := hide fun y : After W.heap.size W => hWb.trans (y.below.mono (by omega))
  clear hW hWs hWh hWb hat hatW hv hok
  go_enter Tryz.func9, Tryz.ntmps9
  go_upto_region 1 with fail
  rw [← HW.out]
  go_wp2_with (go_at_call 15; refine KV.out.mono ?_; rintro e w' ⟨rfl, y, rfl⟩)
  go_ret2
  exact Gives.mk rfl (HBD.out y)
set_option maxRecDepth 100000 in
set_option maxHeartbeats 8000000 in
theorem reevingTexts_any (s : SysD) (T : ByteArray) (hok : s.ok) (w : World) (ht : TabsT w) (B : Nat) (hB : B ≤ w.heap.size) (ha : SysD.at_ w B s) :
    Calls Tryz.prog 3 #[.agg #[.slice s.blocks.A s.blocks.l.length s.blocks.cap, .slice s.ropes.A s.ropes.l.length s.ropes.cap], .string T] w (Gives w (.bool true)) := by
  obtain ⟨W, hW, hWs, hWb, hWh⟩ := boxed w (.cells #[.slice s.blocks.A s.blocks.l.length s.blocks.cap, .slice s.ropes.A s.ropes.l.length s.ropes.cap] 25)
  have hc := fun y : After W.heap.size W => SysD.boxed hWh (by omega) y
  have haW : ∀ y : After W.heap.size W, SysD.at_ y.val W.heap.size s := fun y => (ha.to (hWb.mono hB) (by omega)).to y.below (Nat.le_refl _)
  have HT := hide (ht.below hWb)
  have KA := hide (Gives.first (awake10 W HT.out.1))
  have KS := hide fun y : After W.heap.size W => smallS_any s y.val W.heap.size y.size (haW y)
  have KR := hide fun y : After W.heap.size W => Gives.after (x := y) (Nat.le_refl _) (refValidS_any s hok y.val W.heap.size y.size (haW y))
  have HAT := hide haW
  have HOK := hide hok
  have HW := hide hW
  have HC := hide hc
  have HBD := hide fun y : After W.heap.size W => hWb.trans (y.below.mono (by omega))
  clear hW hWs hWh hWb ha haW ht hok hc
  go_enter Tryz.func3, Tryz.ntmps3
  go_upto_region 1 with fail
  rw [← HW.out]
  go_wp2_with fail
  refine KA.out.mono ?_
  rintro e w1 ⟨rfl, y1, rfl⟩
  have hcy1 := HC.out y1
  go_upto_region 3 with fail
  go_cut [35] (fun a wx => ∃ bb : Bool, a = .bool bb ∧ (bb = false → T.size ≤ 262244) ∧ ∃ y : After W.heap.size W, wx = y.val)
  case first =>
    go_wp2_with fail
    refine (KS.out y1).mono ?_
    rintro e w1 ⟨b1, rfl, hbb⟩
    obtain ⟨y2, rfl⟩ := After.exists_iff (y1.below.trans (hbb.mono y1.size))
    clear hbb hcy1
    cases b1
    · go_wp2_with fail
      go_meet
      exact ⟨true, rfl, fun h => (by cases h), y2, rfl⟩
    by_cases h1 : (3000 : Int) < (T.size : Int)
    · by_cases h2 : (T.size : Int) ≤ 262144
      · go_wp2_with fail
        go_meet
        exact ⟨true, rfl, fun h => (by cases h), y2, rfl⟩
      · by_cases h3 : (262244 : Int) < (T.size : Int)
        · go_wp2_with fail
          go_meet
          exact ⟨true, rfl, fun h => (by cases h), y2, rfl⟩
        · have HL := hide (show T.size ≤ 262244 by omega)
          go_wp2_with fail
          go_meet
          exact ⟨false, by simp; omega, fun _ => HL.out, y2, rfl⟩
    · have HL := hide (show T.size ≤ 262244 by omega)
      have h3 : ¬ (262244 : Int) < (T.size : Int) := by omega
      go_wp2_with fail
      go_meet
      exact ⟨false, by simp; omega, fun _ => HL.out, y2, rfl⟩
  case rest =>
  obtain ⟨bb, rfl, hT0, y2, rfl⟩ := hcut
  clear hcy1
  cases bb
  rotate_left
  · clear hT0
    go_wp2_with fail
    go_ret
    exact Gives.mk rfl (HBD.out _)
  have hT4 := hT0 rfl
  have KP := hide (parse_any T (by omega) y2.val (HT.out.below y2.below))
  clear hT0
  go_wp2_with fail
  refine KP.out.mono ?_
  rintro e w3 ⟨s1, l, c, er, rfl, hp1, hok1, hat1, hb3⟩
  obtain ⟨y3, rfl⟩ : ∃ y : After W.heap.size W, w3 = y.val := After.exists_iff (y2.below.trans (hb3.mono y2.size))
  obtain ⟨P1, hP1, hs1, hbp1, hh1⟩ := boxed y3.val (.cells #[.slice s1.blocks.A s1.blocks.l.length s1.blocks.cap, .slice s1.ropes.A s1.ropes.l.length s1.ropes.cap] 25)
  obtain ⟨P2, hP2, hs2, hbp2, hh2⟩ := boxed P1 (.cells #[.int .i64 l, .int .i64 c] 29)
  obtain ⟨p, hpe⟩ : ∃ p, p = y3.val.heap.size := ⟨_, rfl⟩
  rw [← hpe] at hs1 hh1
  rw [hs1] at hs2 hh2
  have HP2 := hide (show P2 = (y3.val.alloc (.cells #[.slice s1.blocks.A s1.blocks.l.length s1.blocks.cap, .slice s1.ropes.A s1.ropes.l.length s1.ropes.cap] 25)).alloc (.cells #[.int .i64 l, .int .i64 c] 29) by rw [hP2, hP1])
  have hx1 : P2.heap[p]? = some (.cells #[.slice s1.blocks.A s1.blocks.l.length s1.blocks.cap, .slice s1.ropes.A s1.ropes.l.length s1.ropes.cap] 25 (0, 0)) := (hbp2.block p (by omega)).trans hh1
  have hy3P : Below y3.val.heap.size y3.val P2 := hbp1.trans (hbp2.mono (by omega))
  have HWP := hide (show Below W.heap.size W P2 from y3.below.trans (hy3P.mono y3.size))
  have HA1 := hide (show SysD.at_ P2 P2.heap.size s1 from hat1.to hy3P hy3P.size)
  have HP1 := hide hp1
  have HPE := hide hpe
  have KQ := hide (refParse_any T (by omega) P2)
  have HX1 := hide hx1
  have HX2 := hide hh2
  have hpl : p + 1 < P2.heap.size := by omega
  clear hb3 hP1 hP2 hbp1 hbp2 hh1 hh2 hs1 hs2 hx1 hp1 hat1 hpe hy3P
  go_upto_region 6 with fail
  rw [← HP2.out, ← HPE.out]
  go_wp2_with fail
  refine KQ.out.mono ?_
  rintro e w5 ⟨s2, l2, c2, er2, rfl, hp2, hok2, hat2, hb5⟩
  obtain ⟨hpl2, rfl, rfl, rfl⟩ := HP1.out.same hp2
  obtain ⟨Q1, hQ1, hs3, hbq1, hh3⟩ := boxed w5 (.cells #[.slice s2.blocks.A s2.blocks.l.length s2.blocks.cap, .slice s2.ropes.A s2.ropes.l.length s2.ropes.cap] 25)
  obtain ⟨Q2, hQ2, hs4, hbq2, hh4⟩ := boxed Q1 (.cells #[.int .i64 l, .int .i64 c] 29)
  obtain ⟨q, hqe⟩ : ∃ q, q = w5.heap.size := ⟨_, rfl⟩
  rw [← hqe] at hs3 hh3
  rw [hs3] at hs4 hh4
  have HQ2 := hide (show Q2 = (w5.alloc (.cells #[.slice s2.blocks.A s2.blocks.l.length s2.blocks.cap, .slice s2.ropes.A s2.ropes.l.length s2.ropes.cap] 25)).alloc (.cells #[.int .i64 l, .int .i64 c] 29) by rw [hQ2, hQ1])
  have hw5Q : Below w5.heap.size w5 Q2 := hbq1.trans (hbq2.mono (by omega))
  have hPQ : Below P2.heap.size P2 Q2 := hb5.trans (hw5Q.mono hb5.size)
  have hk1 : Q2.heap[p]? = some (.cells #[.slice s1.blocks.A s1.blocks.l.length s1.blocks.cap, .slice s1.ropes.A s1.ropes.l.length s1.ropes.cap] 25 (0, 0)) := (hPQ.block p (by omega)).trans HX1.out
  have hk2 : Q2.heap[p + 1]? = some (.cells #[.int .i64 l, .int .i64 c] 29 (0, 0)) := (hPQ.block _ hpl).trans HX2.out
  have hk3 : Q2.heap[q]? = some (.cells #[.slice s2.blocks.A s2.blocks.l.length s2.blocks.cap, .slice s2.ropes.A s2.ropes.l.length s2.ropes.cap] 25 (0, 0)) := (hbq2.block q (by omega)).trans hh3
  have hsz := hPQ.size
  have hcz := fun z : After Q2.heap.size Q2 => And.intro (two_cells ((z.below.block (p + 1) (by omega)).trans hk2)) (two_cells ((z.below.block (q + 1) (by omega)).trans hh4))
  have hc1 := two_cells hk1
  have hc3 := two_cells hk3
  have KM := hide (Gives.first (refSameS_any s1 s2 Q2 Q2.heap.size (Nat.le_refl _) (HA1.out.to hPQ hPQ.size) (hat2.to hw5Q hw5Q.size)))
  rw [sameS_plain hpl2] at KM
  have HWQ := hide (show Below W.heap.size W Q2 from HWP.out.trans (hPQ.mono HWP.out.size))
  have hWQ := HWQ.out.size
  have HQE := hide hqe
  have hcs := fun z : After Q2.heap.size Q2 => HC.out ⟨z.val, HWQ.out.trans (z.below.mono hWQ)⟩
  simp only at hcs
  clear hp2 hok2 hat2 hb5 hQ1 hQ2 hbq1 hbq2 hh3 hh4 hs3 hs4 hk1 hk2 hk3 hw5Q hPQ hqe
  go_upto_region 7 with fail
  rw [← HQ2.out, ← HQE.out]
  obtain ⟨v, hv⟩ : ∃ v, sysOk s = v := ⟨_, rfl⟩
  go_upto_region 9 with (go_at_call 8; refine KM.out.mono ?_; rintro e w' ⟨rfl, z, rfl⟩; have hczz := hcz z; have hcsz := hcs z)
  obtain ⟨y5, hy5⟩ : ∃ y : After W.heap.size W, y.val = z.val := ⟨⟨z.val, HWQ.out.trans (z.below.mono hWQ)⟩, rfl⟩
  rw [← hy5]
  have hcy5 := HC.out y5
  have HV := hide hv
  clear hczz hcsz hcs hcz hc1 hc3 hy5 hv
  cases v
  · have KB := hide (Gives.after (x := y5) (Nat.le_refl _) (text_bad s HOK.out HV.out y5.val W.heap.size y5.size (HAT.out y5)))
    go_wp2_with fail
    refine KB.out.mono ?_
    rintro e w6 ⟨rfl, y6, rfl⟩
    have hcy6 := HC.out y6
    have KR6 := hide (KR.out y6)
    rw [HV.out] at KR6
    go_wp2_with (go_at_call 10; refine KR6.out.mono ?_; rintro e w' ⟨rfl, y7, rfl⟩)
    go_ret
    exact Gives.mk rfl (HBD.out _)
  have KB := hide (Gives.after (x := y5) (Nat.le_refl _) (text_good s HOK.out HV.out (fit_of_ok HV.out) y5.val (HT.out.below y5.below).1 W.heap.size y5.size (HAT.out y5)))
  obtain ⟨X, hX⟩ : ∃ X, X = (⟨(sysT s).toArray⟩ : ByteArray) := ⟨_, rfl⟩
  have hXl := sysT_length HOK.out HV.out
  have hXb : bs X = sysP s.plain := by rw [hX, bs_mk, sysT_plain]
  have hXs : X.size ≤ 20000 := by
    rw [← bs_length, hX, bs_mk]; exact hXl
  have HXB := hide hXb
  have KT := hide fun y : After W.heap.size W => Gives.after (x := y) (Nat.le_refl _) (refText_any s HOK.out HV.out y.val W.heap.size y.size (HAT.out y))
  rw [← hX] at KB KT
  clear hX hXl hXb
  go_wp2_with fail
  refine KB.out.mono ?_
  rintro e w6 ⟨rfl, y6, rfl⟩
  have hcy6 := HC.out y6
  have KR6 := hide (KR.out y6)
  rw [HV.out] at KR6
  go_upto_region 12 with (go_at_call 10; refine KR6.out.mono ?_; rintro e w' ⟨rfl, y7, rfl⟩)
  have KP2 := hide (parse_any X (by omega) y7.val (HT.out.below y7.below))
  clear hcy5 hcy6
  go_wp2_with fail
  refine KP2.out.mono ?_
  rintro e w8 ⟨s3, l3, c3, er3, rfl, hp3, hok3, hat3, hb8⟩
  rw [HXB.out] at hp3
  obtain ⟨hpl3, rfl, rfl, rfl⟩ := hp3.text HV.out (by rw [← HXB.out, bs_length]; omega)
  obtain ⟨y8, rfl⟩ : ∃ y : After W.heap.size W, w8 = y.val := After.exists_iff (y7.below.trans (hb8.mono y7.size))
  obtain ⟨R1, hR1, hs1, hbr1, hh1⟩ := boxed y8.val (.cells #[.slice s3.blocks.A s3.blocks.l.length s3.blocks.cap, .slice s3.ropes.A s3.ropes.l.length s3.ropes.cap] 25)
  obtain ⟨R2, hR2, hs2, hbr2, hh2⟩ := boxed R1 (.cells #[.int .i64 0, .int .i64 0] 29)
  obtain ⟨r, hre⟩ : ∃ r, r = y8.val.heap.size := ⟨_, rfl⟩
  rw [← hre] at hs1 hh1
  rw [hs1] at hs2 hh2
  have HR2 := hide (show R2 = (y8.val.alloc (.cells #[.slice s3.blocks.A s3.blocks.l.length s3.blocks.cap, .slice s3.ropes.A s3.ropes.l.length s3.ropes.cap] 25)).alloc (.cells #[.int .i64 0, .int .i64 0] 29) by rw [hR2, hR1])
  have hy8R : Below y8.val.heap.size y8.val R2 := hbr1.trans (hbr2.mono (by omega))
  have HWR := hide (show Below W.heap.size W R2 from y8.below.trans (hy8R.mono y8.size))
  have hWR := HWR.out.size
  have hcr := fun z : After R2.heap.size R2 => And.intro (two_cells ((z.below.block r (by omega)).trans ((hbr2.block r (by omega)).trans hh1))) (two_cells ((z.below.block (r + 1) (by omega)).trans hh2))
  have hcs := fun z : After R2.heap.size R2 => HC.out ⟨z.val, HWR.out.trans (z.below.mono hWR)⟩
  simp only at hcs
  have HA3 := hide fun z : After R2.heap.size R2 => (show SysD.at_ z.val R2.heap.size s3 from (hat3.to hy8R hy8R.size).to z.below (Nat.le_refl _))
  have HAS := hide fun z : After R2.heap.size R2 => (show SysD.at_ z.val R2.heap.size s from (HAT.out ⟨z.val, HWR.out.trans (z.below.mono hWR)⟩).to (Below.refl _ _) hWR)
  have KM3 := hide fun z : After R2.heap.size R2 => Gives.after (x := z) (Nat.le_refl _) (refSameS_any s3 s z.val R2.heap.size z.size (HA3.out z) (HAS.out z))
  rw [sameS_plain hpl3] at KM3
  have KT2 := hide fun z : After R2.heap.size R2 => Gives.after (x := z) (Nat.le_refl _) (refText_any s HOK.out HV.out z.val R2.heap.size z.size (HAS.out z))
  have hcr0 := hcr (After.refl _ _)
  have hcs0 := hcs (After.refl _ _)
  simp only [After.refl] at hcr0 hcs0
  have HRE := hide hre
  have KTX := hide (KT.out ⟨R2, HWR.out⟩)
  have HBR := hide fun z : After R2.heap.size R2 => HBD.out ⟨z.val, HWR.out.trans (z.below.mono hWR)⟩
  simp only at KTX
  clear hp3 hok3 hat3 hb8 hR1 hR2 hbr1 hbr2 hh1 hh2 hs1 hs2 hre hy8R KT2
  have KT3 := hide (show Calls Tryz.prog 11 #[.agg #[.slice s.blocks.A s.blocks.l.length s.blocks.cap, .slice s.ropes.A s.ropes.l.length s.ropes.cap]] R2 (fun e w'' => e = .returned (.string X) ∧ ∃ z : After R2.heap.size R2, w'' = z.val) from
    (Gives.first (refText_any s HOK.out HV.out R2 R2.heap.size (Nat.le_refl _) (HAS.out (After.refl _ _)))).mono fun e w'' h => ⟨by
      rw [h.1]
      have : X = ⟨(sysT s).toArray⟩ := bs_inj (by rw [HXB.out, bs_mk, sysT_plain])
      rw [this], h.2⟩)
  go_upto_region 13 with fail
  rw [← HR2.out, ← HRE.out]
  go_wp2_with (first
    | (go_at_call 11; refine KT3.out.mono ?_; rintro e w' ⟨rfl, z1, rfl⟩; have hcrz := hcr z1; have hcsz := hcs z1)
    | (go_at_call 8; refine (KM3.out z1).mono ?_; rintro e w' ⟨rfl, z2, rfl⟩))
  go_ret
  exact Gives.mk rfl (HBR.out z2)
end Go.Proofs.YtgamhdbcejkllaaGreatDoor
