/- A Set and a row of jobs, read out of any world. The law: the reported load-in order is safe, and if none is reported none exists. -/
import Derived.Test.YtcdkhlndohokcaaGreatDoorReadHouse
import Derived.Test.YtcdkhlndohokcaaGreatDoorLatTop
import Derived.Test.YtcdkhlndohokcaaGreatDoorLoadAwake
import Derived.Test.YtcdkhlndohokcaaGreatDoorLatProves
import Derived.Test.YtcdkhlndohokcaaGreatDoorSmall
import Derived.Test.YtcdkhlndohokcaaGreatDoorJobTurn
namespace Go.Proofs.YtcdkhlndohokcaaGreatDoor
open Go Go.RowKit Go.WideShapes Go.ChangeAt Go.ChangeMaps
section
variable {H : Type} {enc : TypeId × Value → H} {w : World}
theorem readBool {n : Nat} {c : Value} {y : DataW H × List MemPlace} (h : DataW.trod enc Tryz.prog w 0 (fun _ => true) true n 4 [c] = some y) : ∃ b : Bool, c = .bool b := by
  obtain ⟨b, e, _⟩ := DataW.trod_bool Tryz.underlying4 h
  injection e with e _
  exact ⟨b, e⟩
set_option maxRecDepth 100000 in
theorem elemJob : ElemOf enc w 37 3 JobD.cells (fun x => x.ok) := fun n cs y hl h => by
  obtain ⟨xs, n', _, _, _, hlen, hg⟩ := DataW.trod_struct Tryz.underlying37 h
  match cs, hl with
  | [c0, c1, c2], _ =>
    obtain ⟨_, t0⟩ := field_of (by kernel_rfl) hlen hg 0 _ rfl c0 rfl
    obtain ⟨_, t1⟩ := field_of (by kernel_rfl) hlen hg 1 _ rfl c1 rfl
    obtain ⟨_, t2⟩ := field_of (by kernel_rfl) hlen hg 2 _ rfl c2 rfl
    obtain ⟨s0, rfl, b0⟩ := readString t0
    obtain ⟨s1, rfl⟩ := readBool t1
    obtain ⟨s2, rfl, b2⟩ := readInt t2
    exact ⟨⟨s0, s1, s2⟩, rfl, ⟨b0, b2⟩⟩
theorem readJobs {n : Nat} {c : Value} {y : DataW H × List MemPlace} (h : DataW.trod enc Tryz.prog w 0 (fun _ => true) true n 27 [c] = some y) : ∃ s : Sl JobD, c = .slice s.A s.l.length s.cap ∧ SlAt w w.heap.size 3 JobD.cells s ∧ ∀ x ∈ s.l, x.ok :=
  readSlice (size := 3) (cells := JobD.cells) Tryz.underlying27 (by kernel_rfl) (by omega) (fun _ => rfl) elemJob h
set_option maxRecDepth 100000 in
/-- a Set that came in by value -/
theorem readSet {r : Go.Reach} {b0 : Nat} {v : Value} {d : DataW H} {p : List MemPlace} (hv : Value.okWide Tryz.prog w r b0 26 v) (h : DataW.Trod enc Tryz.prog w 0 (fun _ => true) true 26 v d p) :
    ∃ x : SetD, v = .agg #[.string x.name, .int .i64 x.depth, .int .i64 x.low, .int .i64 x.high, .int .i64 x.length, .slice x.lines.A x.lines.l.length x.lines.cap, .int .i64 x.pipe, .int .i64 x.arbor, .int .i64 x.purchase, .int .i64 x.most, .int .i64 x.brake, .slice x.items.A x.items.l.length x.items.cap, .slice x.bricks.A x.bricks.l.length x.bricks.cap] ∧ x.ok ∧ SetD.at_ w w.heap.size x := by
  obtain ⟨cs, rfl, hsz⟩ := okWide_struct Tryz.underlying26 hv
  obtain ⟨cs⟩ := cs
  obtain ⟨fuel, hf⟩ := h
  obtain ⟨x, hx, hok, hat⟩ := elemSet fuel cs _ (hsz.trans (show Tryz.prog.cellsOf 26 = 13 by kernel_rfl)) hf
  refine ⟨x, ?_, hok, hat⟩
  rw [← hx]; rfl
end
end Go.Proofs.YtcdkhlndohokcaaGreatDoor
namespace Go.Proofs.YtcdkhlndohokcaaGreatDoor
open Go Go.RowKit Go.Maps Go.Deep

set_option maxRecDepth 100000 in
set_option maxHeartbeats 8000000 in
theorem topLoaded_any (s : SetD) (sok : s.ok) (A : Option Addr) (cap : Nat) (l : List JobD) (hok : ∀ x ∈ l, x.ok) (oA : Option Addr) (oc : Nat) (ol : List Int) (w : World) (ht : Tabs w) (B : Nat) (hB : B ≤ w.heap.size) (sat : SetD.at_ w B s) (hat : SlAt w B 3 JobD.cells ⟨A, cap, l⟩) (oat : SlAt w B 1 intCells ⟨oA, oc, ol⟩) :
    Calls Tryz.prog 3 #[.agg #[.string s.name, .int .i64 s.depth, .int .i64 s.low, .int .i64 s.high, .int .i64 s.length, .slice s.lines.A s.lines.l.length s.lines.cap, .int .i64 s.pipe, .int .i64 s.arbor, .int .i64 s.purchase, .int .i64 s.most, .int .i64 s.brake, .slice s.items.A s.items.l.length s.items.cap, .slice s.bricks.A s.bricks.l.length s.bricks.cap], .slice A l.length cap, .slice oA ol.length oc] w (Gives w (.bool true)) := by
  obtain ⟨W, hW, hWs, hWb, hWh⟩ := boxed w (.cells #[.string s.name, .int .i64 s.depth, .int .i64 s.low, .int .i64 s.high, .int .i64 s.length, .slice s.lines.A s.lines.l.length s.lines.cap, .int .i64 s.pipe, .int .i64 s.arbor, .int .i64 s.purchase, .int .i64 s.most, .int .i64 s.brake, .slice s.items.A s.items.l.length s.items.cap, .slice s.bricks.A s.bricks.l.length s.bricks.cap] 26)
  have hc := fun y : After W.heap.size W => SetD.boxed hWh (by omega) y
  have hc0 := hc (After.refl _ _)
  simp only [After.refl] at hc0
  have hbd : ∀ y : After W.heap.size W, Below w.heap.size w y.val := fun y => hWb.trans (y.below.mono (by omega))
  have sat2 := sat.to (hWb.mono hB) (show B ≤ W.heap.size by omega)
  have hat2 := hat.to (hWb.mono hB) (show B ≤ W.heap.size by omega)
  have oat2 := oat.to (hWb.mono hB) (show B ≤ W.heap.size by omega)
  have hm1 : l.length ≤ cap := hat.1
  have hm2 : cap ≤ 9223372036854775807 := hat.2.1
  have hm3 : ol.length ≤ oc := oat.1
  have hm4 : oc ≤ 9223372036854775807 := oat.2.1
  have KW := hide (Gives.first (awakeTop W (ht.below hWb)))
  have KS := hide (fun y : After W.heap.size W => Gives.after (x := y) (Nat.le_refl _) (refSetSmall_any s 12 y.val W.heap.size y.size (sat2.to y.below (Nat.le_refl _))))
  have KJ := hide (fun y : After W.heap.size W => shortJobs_any A cap l y.val W.heap.size y.size (hat2.to y.below (Nat.le_refl _)))
  have HC := hide hc
  have SAT := hide (fun y : After W.heap.size W => sat2.to y.below (Nat.le_refl _))
  have HAT := hide (fun y : After W.heap.size W => hat2.to y.below (Nat.le_refl _))
  have OAT := hide (fun y : After W.heap.size W => oat2.to y.below (Nat.le_refl _))
  have HOK := hide (And.intro sok hok)
  have HBD := hide hbd
  have HW := hide hW
  clear hW hWh hWb hbd sat sat2 hat hat2 oat oat2 sok hok hWs hc ht
  go_enter Tryz.func3, Tryz.ntmps3
  go_upto_region 1 with fail
  rw [← HW.out]
  go_upto_region 3 with (go_at_call 4; refine KW.out.mono ?_; rintro e w' ⟨rfl, y0, rfl⟩; have hcy0 := HC.out y0)
  obtain ⟨b1, hb1⟩ : ∃ b, b = setSmall s 12 := ⟨_, rfl⟩
  rw [← hb1] at KS
  clear hb1 hc0
  cases b1
  · go_wp2_with (go_at_call 5; refine (KS.out y0).mono ?_; rintro e w' ⟨rfl, y1, rfl⟩)
    go_ret
    exact Gives.mk rfl (HBD.out y1)
  go_upto_region 5 with (first
    | (go_at_call 5; refine (KS.out y0).mono ?_; rintro e w' ⟨rfl, y1, rfl⟩)
    | (go_at_call 6; refine (KJ.out y1).mono ?_; rintro e w2 ⟨hb2, b2, rfl, hsh⟩))
  · go_ret
    exact Gives.mk rfl (HBD.out ⟨w2, y1.below.trans (hb2.mono y1.size)⟩)
  rotate_left
  · go_ret
    exact Gives.mk rfl (HBD.out ⟨w2, y1.below.trans (hb2.mono y1.size)⟩)
  have hlen : l.length ≤ 10 := hsh ‹b2 = true›
  obtain ⟨Y2, hY2⟩ : ∃ Y2 : After W.heap.size W, Y2.val = w2 := ⟨⟨w2, y1.below.trans (hb2.mono y1.size)⟩, rfl⟩
  subst hY2
  have KO := hide (order_any s HOK.out.1 A cap l HOK.out.2 Y2.val W.heap.size Y2.size (SAT.out Y2) (HAT.out Y2) (by omega))
  have hcy2 := HC.out Y2
  clear hb2 hsh hcy0 KS KJ KW
  go_upto_region 6 with (go_at_call 7; refine KO.out.mono ?_; rintro e w3 ⟨hb3, ⟨SA, sc, sl⟩, k, rfl, hS, hk⟩)
  obtain ⟨Y3, hY3⟩ : ∃ Y3 : After W.heap.size W, Y3.val = w3 := ⟨⟨w3, Y2.below.trans (hb3.mono Y2.size)⟩, rfl⟩
  subst hY3
  have KCk := hide (check_any s HOK.out.1 A cap l HOK.out.2 oA oc ol Y3.val W.heap.size Y3.size (SAT.out Y3) (HAT.out Y3) (OAT.out Y3) (by omega))
  have hcy3 := HC.out Y3
  have HS := hide hS
  have HK := hide hk
  clear hb3 hcy2 hS hk KO
  go_upto_region 7 with (go_at_call 8; refine KCk.out.mono ?_; rintro e w4 ⟨hb4, cb, ck, rfl, hck⟩)
  obtain ⟨Y4, hY4⟩ : ∃ Y4 : After W.heap.size W, Y4.val = w4 := ⟨⟨w4, Y3.below.trans (hb4.mono Y3.size)⟩, rfl⟩
  subst hY4
  have HCK := hide hck
  have HS4 := hide (HS.out.to hb4 hb4.size)
  have hcy4 := HC.out Y4
  clear hb4 hck hcy3 HS KCk
  rcases HK.out with ⟨rfl, hv, hj, o, ho, hsafe, hheld0⟩ | ⟨rfl, hv, hj, hsl, hno⟩ | ⟨rfl, hvj, hsl⟩
  rotate_left
  · have HNO := hide hno
    have hsl : sl = [] := hsl
    subst hsl
    clear hno HK
    have KCl := hide (closed_any s HOK.out.1 A cap l HOK.out.2 Y4.val W.heap.size Y4.size (SAT.out Y4) (HAT.out Y4) (by omega) hv hj HNO.out)
    go_upto_region 12 with (go_at_call 9; refine KCl.out.mono ?_; rintro e w5 ⟨hb5, ⟨cA, cc, cl⟩, rfl, hcat, hcl⟩; have HCL := hide (show cl = _ from hcl); clear hcl)
    obtain ⟨Y5, hY5⟩ : ∃ Y5 : After W.heap.size W, Y5.val = w5 := ⟨⟨w5, Y4.below.trans (hb5.mono Y4.size)⟩, rfl⟩
    subst hY5
    have hcy5 := HC.out Y5
    have KPr := hide (Gives.first (proves_any s HOK.out.1 A cap l HOK.out.2 cA cc cl Y5.val Y5.val.heap.size (Nat.le_refl _) ((SAT.out Y5).to (Below.refl _ _) Y5.size) ((HAT.out Y5).to (Below.refl _ _) Y5.size) hcat (by omega) hv hj HNO.out HCL.out))
    clear hb5 hcat KCl hcy4
    by_cases hck0 : ck = 0
    · cases cb
      · have hckd : (ck == 0) = true := by rw [beq_iff_eq]; exact hck0
        clear hck0
        go_wp2_with (go_at_call 10; refine KPr.out.mono ?_; rintro e w' ⟨rfl, y6, rfl⟩)
        go_ret
        exact Gives.mk (by simp) (HBD.out ⟨y6.val, Y5.below.trans (y6.below.mono Y5.size)⟩)
      · exact absurd (HCK.out hck0 rfl) HNO.out
    · have hckd : (ck == 0) = false := by rw [beq_eq_false_iff_ne]; exact hck0
      clear hck0
      go_wp2_with (go_at_call 10; refine KPr.out.mono ?_; rintro e w' ⟨rfl, y6, rfl⟩)
      go_ret
      exact Gives.mk (by simp) (HBD.out ⟨y6.val, Y5.below.trans (y6.below.mono Y5.size)⟩)
  · have hsl : sl = [] := hsl
    subst hsl
    clear HK
    go_wp2_with fail
    go_ret
    exact Gives.mk rfl (HBD.out Y4)
  have hlo := hsafe.len
  obtain ⟨hnd, hmem, -, -⟩ := hsafe.facts (Nat.two_pow_pos _)
  have hil : ∀ i ∈ o, i < l.length := fun i hi => (hmem i hi).1
  have hh : ∀ x ∈ pathL (balE s) (csE s (turnL l o)), heldE s x = true := by
    rw [turnL_cs s hil]
    exact safe_path hsafe hheld0
  have ho2 : sl = o.map (fun i : Nat => (i : Int)) := ho
  clear ho
  have hsl : sl.length = l.length := by rw [ho2, List.length_map]; exact hlo
  have hjT := turnL_ok hj hnd hil hlo
  have hokT := okL_turn (o := o) HOK.out.2
  have hlT := (turnL_len hil).trans hlo
  obtain ⟨T, hT⟩ : ∃ T, T = turnL l o := ⟨_, rfl⟩
  rw [← hT] at hjT hokT hlT hh
  have HT := hide hT
  have HO := hide ho2
  have HND := hide hnd
  have HIL := hide hil
  have HLO := hide hlo
  have HLT := hide hlT
  have HJT := hide (And.intro hjT hokT)
  have HH := hide hh
  have HVJ := hide (And.intro hv hj)
  have hsc1 : sl.length ≤ sc := HS4.out.1
  have hsc2 : sc ≤ 9223372036854775807 := HS4.out.2.1
  have HSL := hide hsl
  rw [hsl] at hsc1 ⊢
  obtain ⟨i0, hi0, hz0, hs0, hbb0⟩ := infoJob_parts
  have HI0 := hide (And.intro hi0 (And.intro hz0 (And.intro hs0 hbb0)))
  clear HK hsafe hheld0 hmem hil hh hjT hokT hlT hT ho2 hnd hlo hsl hv hj hi0 hz0 hs0 hbb0
  go_wp2_with fail
  go_loopw [15, 106] (fun v15 v wr => ∃ k : Nat, v = .int .i64 k ∧ k ≤ l.length ∧ Hid (OwnSt 37 3 JobD.cells Y4.val v15 (turnL l (o.take k)) wr)) (fun _ v _ => l.length - (intOf v).toNat)
  case atStart => exact ⟨0, rfl, Nat.zero_le _, hide (OwnSt.start _ _ _ (Below.refl _ _))⟩
  case round =>
    obtain ⟨k, rfl, hk, hst⟩ := hrel
    have hY4 := Y4.size
    by_cases hlt : k < l.length
    · obtain ⟨b, off, hA, hb', hcell⟩ := HS4.out.2.2 (show 0 < sl.length by have := HSL.out; omega)
      simp only at hA
      subst hA
      obtain ⟨i, hio⟩ : ∃ i, o[k]? = some i := ⟨o[k]'(by have := HLO.out; omega), List.getElem?_eq_getElem _⟩
      have hkol : sl[k]? = some (i : Int) := by rw [HO.out, List.getElem?_map, hio]; rfl
      have hwW : Below W.heap.size W wr := Y4.below.trans (hst.out.bel.mono hY4)
      have hel : wr.cell? ⟨b, off + k, none⟩ = some (.int .i64 (i : Int)) := by
        have h := hcell k (i : Int) hkol 0 _ rfl
        rw [Nat.mul_one, Nat.add_zero] at h
        exact (hst.out.bel.cell hb').trans h
      have hin : i < l.length := HIL.out i (List.mem_of_getElem? hio)
      obtain ⟨jb, joff, hjA, hjb, hjcell⟩ := (HAT.out (After.refl _ _)).2.2 (show 0 < l.length by omega)
      simp only at hjA
      subst hjA
      simp only [After.refl] at hjcell
      obtain ⟨x, hx⟩ : ∃ x, l[i]? = some x := ⟨l[i], List.getElem?_eq_getElem hin⟩
      have hje := JobD.elem hx hjb hjcell ⟨wr, hwW⟩
      simp only at hje
      have htk := turnL_take hio hx
      have hLen : (turnL l (o.take k)).length = k := by rw [turnL_len (fun j hj => HIL.out j (List.mem_of_mem_take hj)), List.length_take]; have := HLO.out; omega
      obtain ⟨Lk, hLk⟩ : ∃ L, L = turnL l (o.take k) := ⟨_, rfl⟩
      rw [← hLk] at hst htk hLen
      have hown := (hst.out.more ((Below.refl _ _).alloc (Nat.le_refl _) (.cells #[.string x.name, .bool x.pipe, .int .i64 x.weight] 37 (0, 0)))).own
      rw [hLen] at hown
      have hYU := hst.out.bel.size
      have HOWN := hide hown
      have HST := hide hst.out
      have HTK := hide htk
      have HLN := hide hLen
      have hi0 : (0 : Int) ≤ (i : Int) := by omega
      have hi1 : (i : Int) < (l.length : Int) := by omega
      have hi2 : ¬ (i : Int) < 0 := by omega
      have hi3 : ¬ (l.length : Int) ≤ (i : Int) := by omega
      have hi4 : decide ((l.length : Int) ≤ (i : Int)) = false := decide_eq_false hi3
      have hi5 : decide (l.length ≤ i) = false := decide_eq_false (by omega)
      clear hcell hjcell hio hkol hx hst htk hown hLen hLk hwW
      go_wp2_with (at_builtin; refine Hid.out ?_)
      refine Lib.hid ?_
      refine wpList_append_lies _ rfl _ _ 27 rfl Y4.val.heap.size 37 i0 _ 3 32 Tryz.underlying27 HI0.out.1 HI0.out.2.1 HI0.out.2.2.1 HI0.out.2.2.2 rfl (by decide) _ k _ rfl HOWN.out ⟨wr.heap.size, 0, none⟩ 1 1 [.string x.name, .bool x.pipe, .int .i64 x.weight] rfl rfl (World.news_of_block (heap_alloc_new wr _)) (job_one x) (by omega) (by unfold maxLen; omega) (by omega) (by simp; omega) (wr.heap.size + 1) (by simp) ?_
      intro g4 cap4 w4 hown4 hgr4 _ _
      have hs4 := HST.out.append (ls := [x]) ((Below.refl _ _).alloc (Nat.le_refl _) (.cells #[.string x.name, .bool x.pipe, .int .i64 x.weight] 37 (0, 0))) (by rw [HLN.out]; simpa [JobD.cells] using hown4) hgr4
      rw [← HTK.out] at hs4
      have HS5 := hide hs4
      clear hs4 hown4 hgr4
      go_wp2_with fail
      exact ⟨⟨k + 1, by go_num, by omega, HS5⟩, by simp [intOf]; omega⟩
    · have hst2 : OwnSt 37 3 JobD.cells Y4.val u15 T wr := by
        have h := hst.out
        have e : turnL l (o.take k) = T := by rw [HT.out, List.take_of_length_le (by have := HLO.out; omega)]
        rwa [e] at h
      have HB5 := hide hst2.bel
      obtain ⟨Y5, hY5⟩ : ∃ Y5 : After W.heap.size W, Y5.val = wr := ⟨⟨wr, Y4.below.trans (hst2.bel.mono hY4)⟩, rfl⟩
      subst hY5
      obtain ⟨tA, tc, rfl, htat⟩ := hst2.slAt jobCells_len
      have hpE : pathE s T = (pathL (balE s) (csE s T), 0) := by unfold pathE; rw [HVJ.out.1, HJT.out.1]; rfl
      have KP := hide (path_any s HOK.out.1 tA tc T HJT.out.2 Y5.val Y5.val.heap.size (Nat.le_refl _) ((SAT.out Y5).to (Below.refl _ _) Y5.size) htat)
      rw [hpE] at KP
      have htc1 : T.length ≤ tc := htat.1
      have htc2 : tc ≤ 9223372036854775807 := htat.2.1
      have HTA := hide (fun (x : World) (hb : Below Y5.val.heap.size Y5.val x) => htat.to hb (show Y5.val.heap.size ≤ x.heap.size from hb.size))
      have hcy5 := HC.out Y5
      clear hst hst2 htat hpE hcy4
      go_upto_region 25 with (go_at_call 11; refine KP.out.mono ?_; rintro e w6 ⟨hb6, ⟨pA, pc, pl⟩, rfl, hpat, hpl⟩; have HPL := hide (show pl = _ from hpl); clear hpl)
      have HB6 := hide hb6
      obtain ⟨Y6, hY6⟩ : ∃ Y6 : After W.heap.size W, Y6.val = w6 := ⟨⟨w6, Y5.below.trans (hb6.mono Y5.size)⟩, rfl⟩
      subst hY6
      have KV := hide (Gives.first (verify_any s HOK.out.1 A cap l HOK.out.2 SA sc sl pA pc pl o Y6.val Y6.val.heap.size (Nat.le_refl _) ((SAT.out Y6).to (Below.refl _ _) Y6.size) ((HAT.out Y6).to (Below.refl _ _) Y6.size) (HS4.out.to (HB5.out.trans (HB6.out.mono HB5.out.size)) (Nat.le_trans HB5.out.size HB6.out.size)) hpat HVJ.out.1 HVJ.out.2 HO.out HND.out HIL.out HLO.out (by rw [← HT.out]; exact HPL.out) (by rw [HPL.out]; exact HH.out)))
      rw [HSL.out] at KV
      have hcy6 := HC.out Y6
      clear hb6 hpat hcy5 KP
      go_upto_region 26 with (go_at_call 12; refine KV.out.mono ?_; rintro e w' ⟨rfl, z7, rfl⟩)
      obtain ⟨Y7, hY7⟩ : ∃ Y7 : After W.heap.size W, Y7.val = z7.val := ⟨⟨z7.val, Y6.below.trans (z7.below.mono Y6.size)⟩, rfl⟩
      have HB7 := hide (show Below Y5.val.heap.size Y5.val Y7.val by rw [hY7]; exact HB6.out.trans (z7.below.mono HB6.out.size))
      have KF := hide (Gives.first (first_any s HOK.out.1 tA tc T HJT.out.2 Y7.val Y7.val.heap.size (Nat.le_refl _) ((SAT.out Y7).to (Below.refl _ _) Y7.size) (HTA.out Y7.val HB7.out)))
      rw [first_none HVJ.out.1 HJT.out.1 HH.out] at KF
      have hcy7 := HC.out Y7
      rw [← hY7]
      clear hcy6 KV hY7
      go_upto_region 27 with (go_at_call 13; refine KF.out.mono ?_; rintro e w' ⟨rfl, z8, rfl⟩)
      obtain ⟨Y8, hY8⟩ : ∃ Y8 : After W.heap.size W, Y8.val = z8.val := ⟨⟨z8.val, Y7.below.trans (z8.below.mono Y7.size)⟩, rfl⟩
      have HB8 := hide (show Below Y5.val.heap.size Y5.val Y8.val by rw [hY8]; exact HB7.out.trans (z8.below.mono HB7.out.size))
      have KWd := hide (widest_any s HOK.out.1 tA tc T HJT.out.2 Y8.val Y8.val.heap.size (Nat.le_refl _) ((SAT.out Y8).to (Below.refl _ _) Y8.size) (HTA.out Y8.val HB8.out) HVJ.out.1 HJT.out.1 HH.out)
      have hcy8 := HC.out Y8
      rw [← hY8]
      clear hcy7 KF hY8
      go_upto_region 28 with (go_at_call 14; refine KWd.out.mono ?_; rintro e w9 ⟨hb9, wn, rfl, hwn⟩)
      obtain ⟨Y9, hY9⟩ : ∃ Y9 : After W.heap.size W, Y9.val = w9 := ⟨⟨w9, Y8.below.trans (hb9.mono Y8.size)⟩, rfl⟩
      have HB9 := hide (show Below Y5.val.heap.size Y5.val Y9.val by rw [hY9]; exact HB8.out.trans (hb9.mono HB8.out.size))
      have hcy9 := HC.out Y9
      subst hY9
      have hwn2 : ¬ s.brake < wn := by omega
      clear hcy8 KWd hb9
      have KCt := hide (Gives.first (containsJob_any A cap l (fun x => Lib.hasPrefix x.name.data.toList preB) 16 #[] (entersOf Tryz.func16 (by kernel_rfl) rfl) Y9.val W.heap.size Y9.size (HAT.out Y9) (fun y x _ => loaded1_any x y.val)))
      cases hpre : l.any (fun x => Lib.hasPrefix x.name.data.toList preB)
      rotate_left
      · rw [hpre] at KCt
        clear hpre
        go_wp2_with (go_at_call 15; refine KCt.out.mono ?_; rintro e w' ⟨rfl, z, rfl⟩)
        go_ret
        exact Gives.mk rfl (HBD.out ⟨z.val, Y9.below.trans (z.below.mono Y9.size)⟩)
      rw [hpre] at KCt
      have HPRE := hide (List.any_eq_false.1 hpre)
      clear hpre
      go_upto_region 32 with (go_at_call 15; refine KCt.out.mono ?_; rintro e w' ⟨rfl, z10, rfl⟩)
      obtain ⟨Y10, hY10⟩ : ∃ Y10 : After W.heap.size W, Y10.val = z10.val := ⟨⟨z10.val, Y9.below.trans (z10.below.mono Y9.size)⟩, rfl⟩
      have HB10 := hide (show Below Y5.val.heap.size Y5.val Y10.val by rw [hY10]; exact HB9.out.trans (z10.below.mono HB9.out.size))
      have HTX := hide (HTA.out Y10.val HB10.out)
      rw [← hY10]
      have HTL := hide (show T.length ≤ 10 by have := HLT.out; omega)
      have HTF := hide (fun (x : JobD) (hx : x ∈ T) => (job_nums HJT.out.1).2 x hx)
      clear hY10 hcy9 KCt HTA
      go_wp2_with fail
      go_loopw [26, 180] (fun v26 v wr => ∃ k : Nat, v = .int .i64 k ∧ k ≤ T.length ∧ Hid (OwnSt 37 3 JobD.cells Y10.val v26 ((T.map negJ).take k) wr)) (fun _ v _ => T.length - (intOf v).toNat)
      case atStart => exact ⟨0, rfl, Nat.zero_le _, hide (OwnSt.start _ _ _ (Below.refl _ _))⟩
      case round =>
        clear hk hlt
        obtain ⟨k, rfl, hk, hst⟩ := hrel
        have hY10 := Y10.size
        by_cases hlt : k < T.length
        · obtain ⟨b, off, hA, hb', hcell⟩ := HTX.out.2.2 (show 0 < T.length by omega)
          simp only at hA
          subst hA
          obtain ⟨x, hx⟩ : ∃ x, T[k]? = some x := ⟨T[k], List.getElem?_eq_getElem hlt⟩
          have hje := JobD.elem hx hb' hcell ⟨wr, hst.out.bel⟩
          simp only at hje
          obtain ⟨-, hw1, hw2⟩ := HTF.out x (List.mem_of_getElem? hx)
          have htk : (T.map negJ).take (k + 1) = (T.map negJ).take k ++ [negJ x] := by rw [List.take_add_one, List.getElem?_map, hx]; rfl
          have hLen : ((T.map negJ).take k).length = k := by rw [List.length_take, List.length_map]; omega
          obtain ⟨Lk, hLk⟩ : ∃ L, L = (T.map negJ).take k := ⟨_, rfl⟩
          rw [← hLk] at hst htk hLen
          have hYU := hst.out.bel.size
          have hown := (hst.out.more (((Below.refl wr.heap.size wr).alloc (Nat.le_refl _) (.cells #[.string x.name, .bool x.pipe, .int .i64 (-x.weight)] 37)).alloc (by simp) (.cells #[.string x.name, .bool x.pipe, .int .i64 (-x.weight)] 37 (0, 0)))).own
          rw [hLen] at hown
          have HOWN := hide hown
          have HST := hide hst.out
          have HTK := hide htk
          have HLN := hide hLen
          have hk0 : (0 : Int) ≤ (k : Int) := by omega
          have hk1 : (k : Int) < (T.length : Int) := by omega
          have hk3 : k < 10 := by have := HTL.out; omega
          clear hcell hx hst htk hLen hLk hown
          go_wp2_with (at_builtin; refine Hid.out ?_)
          refine Lib.hid ?_
          refine wpList_append_lies _ rfl _ _ 27 rfl Y10.val.heap.size 37 i0 _ 3 32 Tryz.underlying27 HI0.out.1 HI0.out.2.1 HI0.out.2.2.1 HI0.out.2.2.2 rfl (by decide) _ k _ rfl HOWN.out ⟨wr.heap.size + 1, 0, none⟩ 1 1 [.string x.name, .bool x.pipe, .int .i64 (-x.weight)] rfl rfl (World.news_of_block (by have h := heap_alloc_new (wr.alloc (.cells #[.string x.name, .bool x.pipe, .int .i64 (-x.weight)] 37)) (.cells #[.string x.name, .bool x.pipe, .int .i64 (-x.weight)] 37 (0, 0)); rw [show (wr.alloc (.cells #[.string x.name, .bool x.pipe, .int .i64 (-x.weight)] 37)).heap.size = wr.heap.size + 1 by simp] at h; exact h)) (job_one (negJ x)) (by omega) (by unfold maxLen; omega) (by omega) (by simp; omega) (wr.heap.size + 2) (by simp) ?_
          intro g4 cap4 w4 hown4 hgr4 _ _
          have hs4 := HST.out.append (ls := [negJ x]) (((Below.refl wr.heap.size wr).alloc (Nat.le_refl _) (.cells #[.string x.name, .bool x.pipe, .int .i64 (-x.weight)] 37)).alloc (by simp) (.cells #[.string x.name, .bool x.pipe, .int .i64 (-x.weight)] 37 (0, 0))) (by rw [HLN.out]; simpa [JobD.cells, negJ] using hown4) hgr4
          rw [← HTK.out] at hs4
          have HS5 := hide hs4
          clear hs4 hown4 hgr4
          go_wp2_with fail
          exact ⟨⟨k + 1, by go_num, by omega, HS5⟩, by simp [intOf]; omega⟩
        · have hst2 : OwnSt 37 3 JobD.cells Y10.val u26 (T.map negJ) wr := by
            have h := hst.out
            rwa [List.take_of_length_le (by rw [List.length_map]; omega)] at h
          have KRv := hide (reverseJ_own hst2 (by rw [List.length_map]; have := HTL.out; omega))
          have HBw := hide (Y10.below.trans (hst2.bel.mono Y10.size))
          have HB10w := hide hst2.bel
          have hcw := HC.out ⟨wr, HBw.out⟩
          simp only at hcw
          rw [List.length_map] at KRv
          clear hst hst2
          go_upto_region 39 with fail
          go_upto_region 40 with (go_at_call 18; refine KRv.out.mono ?_; rintro e w11 ⟨rfl, hb11, hs11, bA, bcap, rfl, hbat⟩)
          obtain ⟨Y11, hY11⟩ : ∃ Y11 : After W.heap.size W, Y11.val = w11 := ⟨⟨w11, Y10.below.trans (hb11.mono Y10.size)⟩, rfl⟩
          subst hY11
          have HTX11 := hide (HTX.out.to hb11 hb11.size)
          have HBAT := hide hbat
          have hcy11 := HC.out Y11
          clear hb11 hs11 hbat KRv hcw
          have KCl := hide (fun (u : World) (hu : Below Y11.val.heap.size Y11.val u) => cloneJ_any tA tc T (by have := HTL.out; omega) u u.heap.size (HTX11.out.to hu hu.size))
          have hrl : (T.map negJ).reverse.length = T.length := by rw [List.length_reverse, List.length_map]
          have KBk := hide (fun (u : World) (hu : Below Y11.val.heap.size Y11.val u) => hrl ▸ back_any bA bcap (T.map negJ).reverse (by rw [hrl]; exact HTL.out) u (HBAT.out.to hu hu.size))
          have hbok : jobsOk (T ++ backL T) = true := back_ok HJT.out.1 HTL.out (fun x hx => by
            have hx2 : x ∈ turnL l o := by rw [← HT.out]; exact hx
            obtain ⟨i, -, hi⟩ := turnL_mem hx2
            have := HPRE.out x (List.mem_of_getElem? hi)
            simpa using this)
          have hbokx : ∀ x ∈ T ++ backL T, x.ok := fun x hx => by
            rcases List.mem_append.1 hx with h | h
            · exact HJT.out.2 x h
            · exact okL_back (fun y hy => (HTF.out y hy).2) HTL.out x h
          have hpE2 : pathE s (T ++ backL T) = (pathL (balE s) (csE s (T ++ backL T)), 0) := by unfold pathE; rw [HVJ.out.1, hbok]; rfl
          have KPa := hide (fun (Y : After W.heap.size W) (a : Option Addr) (c : Nat) (ha : SlAt Y.val Y.val.heap.size 3 JobD.cells ⟨a, c, T ++ backL T⟩) => hpE2 ▸ path_any s HOK.out.1 a c (T ++ backL T) hbokx Y.val Y.val.heap.size (Nat.le_refl _) ((SAT.out Y).to (Below.refl _ _) Y.size) ha)
          have hbl : (backL T).length = T.length := by unfold backL; rw [renL_len]; exact hrl
          have HBL := hide hbl
          obtain ⟨M, hM⟩ : ∃ M, M = T ++ backL T := ⟨_, rfl⟩
          rw [← hM] at KPa
          have HM := hide hM
          clear hrl hbok hbokx hpE2 hbl hM
          go_cut [29, 30] (fun a b wx => ∃ p : Sl Int, a = .slice p.A p.l.length p.cap ∧ b = .int .i64 0 ∧ Hid (SlAt wx wx.heap.size 1 intCells p) ∧ Hid (p.l = pathL (balE s) (csE s M)) ∧ Hid (Below W.heap.size W wx))
          case first =>
            have hY11s := Y11.size
            go_region_held3 (fun w' => w'.cell? ⟨w.heap.size, 0, none⟩ = some (.string s.name) ∧ w'.cell? ⟨w.heap.size, 1, none⟩ = some (.int .i64 s.depth) ∧ w'.cell? ⟨w.heap.size, 2, none⟩ = some (.int .i64 s.low) ∧ w'.cell? ⟨w.heap.size, 3, none⟩ = some (.int .i64 s.high) ∧ w'.cell? ⟨w.heap.size, 4, none⟩ = some (.int .i64 s.length) ∧ w'.cell? ⟨w.heap.size, 5, none⟩ = some (.slice s.lines.A s.lines.l.length s.lines.cap) ∧ w'.cell? ⟨w.heap.size, 6, none⟩ = some (.int .i64 s.pipe) ∧ w'.cell? ⟨w.heap.size, 7, none⟩ = some (.int .i64 s.arbor) ∧ w'.cell? ⟨w.heap.size, 8, none⟩ = some (.int .i64 s.purchase) ∧ w'.cell? ⟨w.heap.size, 9, none⟩ = some (.int .i64 s.most) ∧ w'.cell? ⟨w.heap.size, 10, none⟩ = some (.int .i64 s.brake) ∧ w'.cell? ⟨w.heap.size, 11, none⟩ = some (.slice s.items.A s.items.l.length s.items.cap) ∧ w'.cell? ⟨w.heap.size, 12, none⟩ = some (.slice s.bricks.A s.bricks.l.length s.bricks.cap))
              (first | exact HC.out ⟨_, Y11.below.drew⟩ | exact HC.out ⟨_, hqA⟩ | exact HC.out ⟨_, hqB⟩ | exact HC.out ⟨_, hqC⟩ | exact HC.out ⟨_, hqD⟩)
              (first
                | (go_at_call 19; refine (KCl.out _ (Below.drew (Below.refl _ _))).mono ?_; rintro e w12 ⟨v12, rfl, hst12⟩; have hqA := Y11.below.drew.trans (hst12.bel.mono hY11s))
                | (go_at_call 20; refine (KBk.out _ ((Below.drew (Below.refl _ _)).trans hst12.bel)).mono ?_; rintro e w13 ⟨v13, rfl, hst13⟩; have hqB := hqA.trans (hst13.bel.mono hqA.size); obtain ⟨a13, c13, rfl, hn13, hsl13⟩ := OwnSt.slAt2 jobCells_len hst13)
                | (have hq := hst13; refine step_sl (cells := JobD.cells) (size := 3) _ (by rfl) (.tmp 198) (.tmp 200) 27 (by rfl) Y11.val.heap.size 37 i0 _ 32 Tryz.underlying27 HI0.out.1 HI0.out.2.1 HI0.out.2.2.1 HI0.out.2.2.2 rfl (by omega) v12 T.length (T.flatMap JobD.cells) (by rfl) (hst12.more hst13.bel).own a13 c13 (renL 0 (T.map negJ).reverse) hn13 jobCells_len ⟨_, hsl13⟩ (by rfl) (jobs_one' _) (by show T.length + (backL T).length ≤ maxLen; rw [HBL.out]; have := HTL.out; unfold maxLen; omega) (by show (T.length + (backL T).length) * 32 ≤ _; rw [HBL.out]; have := HTL.out; omega) (by have h1 := hst12.bel.size; have h2 := hst13.bel.size; exact Nat.le_trans h1 h2) ?_; intro v14 w14 hown14 hgr14; have hst14 := OwnSt.append (ls := backL T) (hst12.more hst13.bel) (Below.refl _ _) hown14 hgr14; rw [← HM.out] at hst14; have hqC := Y11.below.drew.trans (hst14.bel.mono hY11s); obtain ⟨a14, c14, rfl, -, hsl14⟩ := OwnSt.slAt2 jobCells_len hst14)
                | (go_at_call 11; refine (KPa.out ⟨w14, hqC⟩ a14 c14 hsl14).mono ?_; rintro e w15 ⟨hb15, ⟨qA, qc, ql⟩, rfl, hqat, hql⟩; have hqD := hqC.trans (hb15.mono hqC.size); have HQL := hide (show ql = _ from hql); clear hql)
                | fail)
            all_goals
              go_wp2_with fail
              go_meet
              exact ⟨⟨qA, qc, ql⟩, rfl, rfl, hide hqat, HQL, hide hqD⟩
          case rest =>
            obtain ⟨⟨qA, qc, ql⟩, rfl, rfl, hqat, hql, hqb⟩ := hcut
            have hql2 : ql = pathL (balE s) (csE s T ++ ((csE s T).map (-·)).reverse) := by
              have h : ql = pathL (balE s) (csE s M) := hql.out
              rw [HM.out, app_cs, backL_cs] at h
              exact h
            obtain ⟨I, hI⟩ : ∃ I, I = balE s := ⟨_, rfl⟩
            have hlenq : ql.length = 2 * l.length + 1 := by rw [hql2, back_len, csE_len, HLT.out]
            have hlast : ql[2 * l.length]? = some I := by
              have h := back_last (I := balE s) (cs := csE s T)
              rw [← hql2, List.getLast?_eq_getElem?, hlenq, Nat.add_sub_cancel, ← hI] at h
              exact h
            have hall : ∀ x ∈ ql, heldE s x = true := fun x hx => HH.out x (back_mem x (by rw [← hql2]; exact hx))
            have hany : ql.any (fun n => !heldE s n) = false := by
              rw [List.any_eq_false]
              intro x hx
              rw [hall x hx]; simp
            have hq1 : ql.length ≤ qc := hqat.out.1
            have hq2 : qc ≤ 9223372036854775807 := hqat.out.2.1
            obtain ⟨qb, qo, hqA, hqblt, hqcell⟩ := hqat.out.2.2 (show 0 < ql.length by omega)
            simp only at hqA
            subst hqA
            have hcq : wc.cell? ⟨qb, qo + 2 * l.length, none⟩ = some (.int .i64 I) := by
              have h := hqcell _ I hlast 0 _ rfl
              rw [Nat.mul_one, Nat.add_zero] at h
              exact h
            have KB := hide (Gives.first (balance_any s HOK.out.1 wc wc.heap.size (Nat.le_refl _) ((SAT.out ⟨wc, hqb.out⟩).to (Below.refl _ _) hqb.out.size)))
            rw [numOr_yes HVJ.out.1, ← hI] at KB
            have KX := hide (fun z : After wc.heap.size wc => Gives.first (containsInt_any (some ⟨qb, qo, none⟩) qc ql (fun n => !heldE s n) 23 #[.pointer (some ⟨w.heap.size, 0, none⟩)] (entersOf Tryz.func23 (by kernel_rfl) rfl) z.val wc.heap.size z.size (hqat.out.to z.below (Nat.le_refl _)) (fun x e _ => loaded2_any s HVJ.out.1 e w.heap.size x.val (HC.out ⟨x.val, hqb.out.trans ((z.below.trans (x.below.mono z.size)).mono hqb.out.size)⟩))))
            rw [hany] at KX
            have HCQ := hide (fun z : After wc.heap.size wc => z.cell hcq hqblt)
            have HQB := hide (show ∀ z : After wc.heap.size wc, Below W.heap.size W z.val from fun z => hqb.out.trans (z.below.mono hqb.out.size))
            have hcwc := HC.out ⟨wc, hqb.out⟩
            simp only at hcwc
            have hmf : ∀ (fn : Fn) (first cap : Array Value) (w : World), (Instr.makeFunc fn first cap).run Tryz.prog w = .ok (.func fn first cap) w := fun _ _ _ _ => rfl
            rw [hlenq] at hq1 KX ⊢
            obtain ⟨q, hq⟩ : ∃ q, q = 2 * l.length := ⟨_, rfl⟩
            rw [← hq] at hq1 KX HCQ ⊢
            have hql3 : (2 : Int) * (l.length : Int) = (q : Int) := by omega
            have hq20 : q ≤ 20 := by omega
            have hq0 : (0 : Int) ≤ (q : Int) := by omega
            clear hql2 hI hlenq hlast hall hany hqcell hcq hq hqat hql hqb hqblt hcy11
            go_upto_region 42 with (go_at_call 21; refine KB.out.mono ?_; rintro e w' ⟨rfl, z, rfl⟩)
            have hcz := HCQ.out z
            clear hcwc
            go_wp2_with (go_at_call 22; refine (KX.out z).mono ?_; rintro e w' ⟨rfl, u, rfl⟩)
            go_ret
            exact Gives.mk rfl (HBD.out ⟨u.val, (HQB.out z).trans (u.below.mono (HQB.out z).size)⟩)
end Go.Proofs.YtcdkhlndohokcaaGreatDoor
