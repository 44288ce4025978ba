/- loftblocklaw48.LedgerChanged: the walk of the law. -/
import Derived.Test.YtemlaliackblkaaDoorLedAwake
import Derived.Laws.BitsAllLaws
namespace Go.Proofs.YtemlaliackblkaaDoor
open Go.RowKit

/-- a byte of an own row that is stored anew -/
theorem own_set {w' w : World} {v : Value} {bl : List UInt8} (st : OwnSt 5 1 byteCells w v bl w') (hpos : 0 < bl.length) {K : Nat} (hK : K < bl.length) (q : UInt8) :
    ∃ g cap, v = .slice (some ⟨g, 0, none⟩) bl.length cap ∧ bl.length ≤ cap ∧ w.heap.size ≤ g ∧ g < w'.heap.size ∧ (∀ i, w'.frozen? ⟨g, i, none⟩ = false) ∧ w'.cell? ⟨g, K, none⟩ = some (.int .u8 (bl[K].toNat : Int)) ∧
      SlAt (w'.setCell ⟨g, K, none⟩ (.int .u8 (q.toNat : Int))) w'.heap.size 1 byteCells ⟨some ⟨g, 0, none⟩, cap, bl.set K q⟩ ∧ Below w.heap.size w (w'.setCell ⟨g, K, none⟩ (.int .u8 (q.toNat : Int))) := by
  obtain ⟨A, cap0, e0, hs0⟩ := st.slAt byteCells_len
  rcases st.own.2 with ⟨hv, h0⟩ | ⟨g, cap, cur, hv, hg, hh, hnc, hcm, hcs, htake⟩
  · omega
  · rw [hv] at e0
    injection e0 with e1 e2 e3
    subst e1 e3
    have hgl := (Array.getElem?_eq_some_iff.1 hh).1
    obtain ⟨b, o, hA, _, hc⟩ := hs0.2.2 hpos
    injection hA with hA
    injection hA with hb ho
    subst hb ho
    have hcell := fun i (c : UInt8) (hx : bl[i]? = some c) => (show w'.cell? ⟨g, i, none⟩ = some (.int .u8 (c.toNat : Int)) from by
      have := hc i c hx 0 _ rfl
      rwa [Nat.mul_one, Nat.add_zero, Nat.zero_add] at this)
    refine ⟨g, cap, hv, hnc, hg, hgl, fun i => block_unfrozen hh i, hcell K _ (List.getElem?_eq_getElem hK), ?_, st.bel.setCell (p := ⟨g, K, none⟩) hg _⟩
    refine ⟨by simp only [List.length_set]; exact hnc, hcm, fun _ => ⟨g, 0, rfl, hgl, fun i c hx j u hu => ?_⟩⟩
    have hj : j = 0 := by have := (List.getElem?_eq_some_iff.1 hu).1; rw [byteCells_len] at this; omega
    subst hj
    simp [byteCells] at hu
    subst hu
    simp only at hx
    rw [Nat.mul_one, Nat.add_zero, Nat.zero_add]
    by_cases hi : i = K
    · subst hi
      rw [List.getElem?_set_self hK] at hx
      injection hx with hx
      subst hx
      have h2 := (Joins.cell_of_block (block_set (i := i) hh (.int .u8 (q.toNat : Int))) i)
      rw [h2]
      have hsz : i < cur.size := by rw [hcs]; omega
      simp [hsz]
    · rw [List.getElem?_set_ne (fun h => hi h.symm)] at hx
      rw [World.cell?_setCell_other _ _ _ _ (by intro e; injection e with _ e2; exact hi e2.symm)]
      exact hcell i c hx
theorem xor_changes {c d : UInt8} (h : d ≠ 0) : c ^^^ d ≠ c := fun e => h (by
  have h1 : c ^^^ (c ^^^ d) = c ^^^ c := by rw [e]
  rw [← UInt8.xor_assoc, UInt8.xor_self, UInt8.zero_xor] at h1
  exact h1)
set_option maxRecDepth 100000 in
set_option maxHeartbeats 16000000 in
theorem ledgerChanged_any (a : Sl LogD) (hok : ∀ x ∈ a.l, x.ok) (cut : Int) (hc0 : 0 ≤ cut) (hc1 : cut ≤ 65535) (by_ : Int) (hy0 : 0 ≤ by_) (hy1 : by_ ≤ 255) (w : World) (ht : Tabs w) (B : Nat) (hB : B ≤ w.heap.size) (hs : SlAt w B 4 LogD.cells a) :
    Calls Tryd.prog 7 #[.slice a.A a.l.length a.cap, .int .u16 cut, .int .u8 by_] w (Gives w (.bool true)) := by
  obtain ⟨A, cap, l⟩ := a
  simp only at *
  have hlc : l.length ≤ cap := hs.1
  have hlm : cap ≤ 9223372036854775807 := hs.2.1
  have KA := hide (Gives.first (awake48 w ht))
  have hsl := fun y : After w.heap.size w => (hs.to (y.below.mono hB) hB).more (y.size)
  have KL := hide (fun y : After w.heap.size w => long_any A cap l y.val y.val.heap.size (Nat.le_refl _) (hsl y))
  have KN := hide (fun (hv : logOk l = false) (y : After w.heap.size w) => Gives.after (x := y) (Nat.le_refl _) (encode_bad A cap l hok hv y.val y.val.heap.size (Nat.le_refl _) (hsl y)))
  have KY := hide (fun (hv : logOk l = true) (y : After w.heap.size w) => encode_any A cap l hv y.val (ht.below y.below) y.val.heap.size (Nat.le_refl _) (hsl y))
  have HT := hide (fun y : After w.heap.size w => ht.below y.below)
  obtain ⟨lg, hlg⟩ : ∃ lg, lg = logOk l := ⟨_, rfl⟩
  have HLG := hide hlg
  clear hs ht hok hsl hlg
  rcases (show l.length = 0 ∨ (0 < l.length ∧ l.length ≤ 20) ∨ 20 < l.length by omega) with h0 | ⟨h0, h20⟩ | h20
  · have h0i : ((l.length : Int) == 0) = true := by simp [h0]
    have h0j : (l.length : Int) = 0 := by omega
    clear h0
    go_enter Tryd.func7, Tryd.ntmps7
    go_wp2_with fail
    refine KA.out.mono ?_
    rintro e w1 ⟨rfl, y, rfl⟩
    go_wp2_with fail
    refine (KL.out y).mono ?_
    rintro e w1 ⟨lv, rfl, hb⟩
    obtain ⟨y, rfl⟩ := After.exists_iff (y.below.trans (hb.mono y.size))
    clear hb
    cases lv
    all_goals
      go_wp2
      go_ret
      exact Gives.mk rfl y.below
  · have h0i : ((l.length : Int) == 0) = false := beq_eq_false_iff_ne.2 (by omega)
    have h20i : (l.length : Int) ≤ 20 := by omega
    have h0k : ¬ (l.length : Int) = 0 := by omega
    rcases (show by_ = 0 ∨ 0 < by_ by omega) with hby | hby
    · subst hby
      go_enter Tryd.func7, Tryd.ntmps7
      go_wp2_with fail
      refine KA.out.mono ?_
      rintro e w1 ⟨rfl, y, rfl⟩
      go_wp2_with fail
      refine (KL.out y).mono ?_
      rintro e w1 ⟨lv, rfl, hb⟩
      obtain ⟨y, rfl⟩ := After.exists_iff (y.below.trans (hb.mono y.size))
      clear hb
      cases lv
      all_goals
        go_wp2
        go_ret
        exact Gives.mk rfl y.below
    · obtain ⟨d, rfl⟩ : ∃ d : UInt8, by_ = (d.toNat : Int) := ⟨UInt8.ofNat by_.toNat, by simp; omega⟩
      have hd0 : d ≠ 0 := fun h => by subst h; simp at hby
      have hbz : ((d.toNat : Int) == 0) = false := beq_eq_false_iff_ne.2 (by omega)
      have hbk : ¬ (d.toNat : Int) = 0 := by omega
      go_enter Tryd.func7, Tryd.ntmps7
      go_wp2_with fail
      refine KA.out.mono ?_
      rintro e w1 ⟨rfl, y, rfl⟩
      go_wp2_with fail
      refine (KL.out y).mono ?_
      rintro e w1 ⟨lv, rfl, hb⟩
      obtain ⟨y, rfl⟩ := After.exists_iff (y.below.trans (hb.mono y.size))
      clear hb
      cases lv
      · cases lg
        · go_wp2_with fail
          refine (KN.out HLG.out.symm y).mono ?_
          rintro e w1 ⟨rfl, y, rfl⟩
          go_wp2
          go_ret
          exact Gives.mk rfl y.below
        · have hv := HLG.out.symm
          go_wp2_with fail
          refine (KY.out hv y).mono ?_
          rintro e w1 ⟨v1, rfl, A1, c1, rfl, hn1, hs1, hb1⟩
          obtain ⟨y, rfl⟩ := After.exists_iff (y.below.trans (hb1.mono y.size))
          clear hb1
          have hshort := enc_short hv l.length
          rw [List.take_length] at hshort
          obtain ⟨bl, hbl⟩ : ∃ bl, bl = encE l := ⟨_, rfl⟩
          have hpos : 0 < bl.length := by
            rw [hbl]
            have h1 := enc_count hv l.length (Nat.le_refl _)
            rw [List.take_length] at h1
            rcases Nat.eq_zero_or_pos (encE l).length with h | h
            · rw [List.eq_nil_of_length_eq_zero h] at h1; simp at h1; omega
            · exact h
          rw [← hbl] at hs1 hshort ⊢
          have hbc : bl.length ≤ c1 := hs1.1
          have hbm : c1 ≤ 9223372036854775807 := hs1.2.1
          obtain ⟨K, hK⟩ : ∃ K, K = cut.toNat % bl.length := ⟨_, rfl⟩
          have hKl : K < bl.length := by rw [hK]; exact Nat.mod_lt _ hpos
          have hKi : cut % (bl.length : Int) = (K : Int) := by rw [hK]; push_cast; rw [Int.toNat_of_nonneg hc0]
          have hKt : cut.tmod (bl.length : Int) = (K : Int) := by rw [Int.tmod_eq_emod_of_nonneg hc0]; exact hKi
          have hNz : ¬ (bl.length : Int) = 0 := by omega
          have hNq : ((bl.length : Int) == 0) = false := beq_eq_false_iff_ne.2 (by omega)
          obtain ⟨c, hc⟩ : ∃ c, c = bl[K] := ⟨_, rfl⟩
          obtain ⟨q, hq⟩ : ∃ q, q = c ^^^ d := ⟨_, rfl⟩
          have hqx : bits .xor .u8 (c.toNat : Int) (d.toNat : Int) = (q.toNat : Int) := by
            rw [u8_xor_nat _ _ c.toNat_lt d.toNat_lt, hq, UInt8.toNat_xor]
          have hqc : q ≠ c := by rw [hq]; exact xor_changes hd0
          have KCL := hide (cloneB_any A1 c1 bl (by omega) y.val y.val.heap.size hs1)
          have hbc0 : bl[K]? = some c := by rw [hc]; exact List.getElem?_eq_getElem hKl
          have HCE := hide (show ∃ n at_ e, (bl.take K).count 10 = n ∧ n ≤ l.length ∧ at_ ≤ K ∧ e ≠ 0 ∧ Ends (bl.set K q) at_ (l.take n) e ∧ (bl.set K q).take at_ = bl.take at_ from by
            have h := changed_ends (l := l) hv (c := bl.set K q) (k := K) (by rw [← hbl]; exact hKl) (by rw [List.length_set, hbl]) (by rw [← hbl, hbc0, List.getElem?_set_self hKl]; exact fun e => hqc (by injection e with e; exact e.symm)) (fun j hj => by rw [← hbl, List.getElem?_set_ne (fun h => hj h.symm)])
            rw [← hbl] at h
            exact h)
          have HQX := hide hqx
          have HS1 := hide hs1
          clear hbl hK hq hqc hd0 hbc0 hv
          go_wp2_with fail
          refine KCL.out.mono ?_
          rintro e w2 ⟨v2, rfl, st⟩
          obtain ⟨g, cap2, rfl, hgc, hgb, hgl, hfz, hcell, hset, hbel⟩ := own_set st hpos hKl q
          rw [← hc] at hcell
          obtain ⟨z, hz⟩ := After.exists_iff hbel
          rw [hz] at hset
          have hset2 := hset.more (show w2.heap.size ≤ z.val.heap.size by rw [← hz]; simp [World.setCell])
          obtain ⟨n, at_, er, hcnt, hn, hat, her, hends, hpre⟩ := HCE.out
          obtain ⟨cl, hcl⟩ : ∃ cl, cl = bl.set K q := ⟨_, rfl⟩
          have hcll : cl.length = bl.length := by rw [hcl, List.length_set]
          rw [← hcl] at hset2 hends hpre
          obtain ⟨M, hM⟩ : ∃ M, M = l.take n := ⟨_, rfl⟩
          have hMl : M.length = n := by rw [hM, List.length_take]; omega
          rw [← hM] at hends
          have hWZ : ∀ u : After z.val.heap.size z.val, Below w.heap.size w u.val := fun u => y.below.trans ((z.below.trans (u.below.mono z.size)).mono y.size)
          have hTZ := fun u : After z.val.heap.size z.val => HT.out ⟨u.val, hWZ u⟩
          simp only at hTZ
          have hS2 := fun u : After z.val.heap.size z.val => (hset2.to u.below u.size : SlAt u.val u.val.heap.size 1 byteCells ⟨some ⟨g, 0, none⟩, cap2, cl⟩)
          have hS1 := fun u : After z.val.heap.size z.val => (HS1.out.to (z.below.trans (u.below.mono z.size)) (Nat.le_trans z.size u.size) : SlAt u.val u.val.heap.size 1 byteCells ⟨A1, c1, bl⟩)
          have KD := hide (show Calls Tryd.prog 18 #[.slice (some ⟨g, 0, none⟩) bl.length cap2] z.val fun e w' => ∃ v, e = .returned (.tuple #[v, .int .i64 er]) ∧ ∃ u : After z.val.heap.size z.val, w' = u.val from by
            have h := decode_any (some ⟨g, 0, none⟩) cap2 cl z.val (hTZ (After.refl _ _)) z.val.heap.size (Nat.le_refl _) hset2
            rw [hcll] at h
            refine h.mono ?_
            rintro e w' ⟨v, L2, e2, rfl, hD, st⟩
            rcases hD with ⟨h1, _⟩ | ⟨_, at2, k2, hE, _⟩
            · rw [hcll] at h1; omega
            · obtain ⟨_, _, rfl⟩ := hends.same hE
              exact ⟨_, rfl, After.exists_iff st.bel⟩)
          have KG := hide (fun u : After z.val.heap.size z.val => (show Calls Tryd.prog 23 #[.slice (some ⟨g, 0, none⟩) bl.length cap2] u.val fun e w' => e = .returned (.tuple #[.int .i64 n, .int .i64 at_, .int .i64 0]) ∧ ∃ u : After z.val.heap.size z.val, w' = u.val from by
            have h := goodX_any (some ⟨g, 0, none⟩) cap2 cl (by rw [hcll]; omega) u.val (hTZ u) u.val.heap.size (Nat.le_refl _) (hS2 u)
            rw [hcll] at h
            refine h.mono ?_
            rintro e w' ⟨at2, L2, e2, rfl, hE, hb⟩
            obtain ⟨rfl, rfl, rfl⟩ := hends.same hE
            rw [hMl]
            exact ⟨rfl, After.exists_iff (u.below.trans (hb.mono u.size))⟩))
          have hkl : (bl.take K).length = K := by rw [List.length_take]; omega
          have hal := fun (u : After z.val.heap.size z.val) => (Below.alloc u.below u.size (.cells #[.int .u8 10] 5 (1, 2)) : Below z.val.heap.size z.val (u.val.alloc (.cells #[.int .u8 10] 5 (1, 2))))
          have hct := fun (u : After z.val.heap.size z.val) => (show (u.val.alloc (.cells #[.int .u8 10] 5 (1, 2))).cell? ⟨u.val.heap.size, 0, none⟩ = some (.int .u8 10) from (Lib.cell_of_heap (heap_alloc_new u.val _) 0).trans rfl)
          have KC2 := hide (fun u : After z.val.heap.size z.val => (show Calls Tryd.prog 30 #[.slice A1 K c1, .slice (some ⟨u.val.heap.size, 0, none⟩) 1 1] (u.val.alloc (.cells #[.int .u8 10] 5 (1, 2))) fun e w' => e = .returned (.int .i64 n) ∧ ∃ q : After z.val.heap.size z.val, w' = q.val from by
            have h := Gives.after (x := ⟨_, hal u⟩) (Nat.le_refl _) (countByte_any (d := 1) ((hS1 ⟨_, hal u⟩).take K) hn1 (hct u))
            rw [hkl, hcnt] at h
            exact h))
          have hp1 : (cl.take at_).length = at_ := by rw [List.length_take]; omega
          have hp2 : (bl.take at_).length = at_ := by rw [List.length_take]; omega
          have KP := hide (fun u : After z.val.heap.size z.val => (show Calls Tryd.prog 13 #[.slice (some ⟨g, 0, none⟩) at_ cap2, .slice A1 at_ c1] u.val fun e w' => e = .returned (.bool true) ∧ ∃ q : After z.val.heap.size z.val, w' = q.val from by
            have h3 := Gives.after (x := u) (Nat.le_refl _) (equalBytes_any ((hS2 u).take at_) ((hS1 u).take at_))
            rw [hp1, hp2, hpre, show (bl.take at_ == bl.take at_) = true by simp] at h3
            exact h3))
          have hcb := fun (W : World) (C : Array Value) (n c : Nat) => Lib.run_convert_bytes_const (P := Tryd.prog) W 22 5 C n c Tryd.underlying22 Tryd.underlying5
          have hto := fun W : World => slice_to (P := Tryd.prog) W 22 5 1 Tryd.underlying22 Tryd.sizeOf5 A1 bl.length c1 K (by omega)
          have hto1 := fun W : World => slice_to (P := Tryd.prog) W 22 5 1 Tryd.underlying22 Tryd.sizeOf5 A1 bl.length c1 at_ (by omega)
          have hto2 := fun W : World => slice_to (P := Tryd.prog) W 22 5 1 Tryd.underlying22 Tryd.sizeOf5 (some ⟨g, 0, none⟩) bl.length cap2 at_ (by omega)
          have hek : (er != 0) = true := by simpa using her
          have hak : (at_ : Int) ≤ (K : Int) := by omega
          have hk0 : (0 : Int) ≤ (K : Int) := by omega
          have hk1 : (K : Int) < (bl.length : Int) := by omega
          have hdk : decide ((at_ : Int) ≤ (K : Int)) = true := decide_eq_true hak
          have HWZ := hide hWZ
          have hqv := HQX.out
          have hfK := hfz K
          have HZ := hide hz
          clear hset hset2 hbel hpre hends hcnt hMl hM hcll hcl hWZ hTZ hS1 hS2 hal hct hp1 hp2 st hc hkl HCE her hat hn hfz hz hgc
          go_wp2_with fail
          rw [HZ.out]
          refine KD.out.mono ?_
          rintro e w3 ⟨v3, rfl, u, rfl⟩
          go_wp2_with fail
          refine (KG.out u).mono ?_
          rintro e w3 ⟨rfl, u, rfl⟩
          go_wp2_with fail
          refine (KC2.out u).mono ?_
          rintro e w3 ⟨rfl, u, rfl⟩
          go_wp2_with fail
          refine wp_region_after u (by kernel_rfl) (by kernel_rfl) ?_
          repeat (go_big_quiet_step ((go_at_call 13; exact KP.out _)))
          refine wpQuiet_nil ?_
          intro u
          go_wp2
          go_ret
          exact Gives.mk rfl (HWZ.out u)
      · go_wp2
        go_ret
        exact Gives.mk rfl y.below
  · have h0i : ((l.length : Int) == 0) = false := beq_eq_false_iff_ne.2 (by omega)
    have h0k : ¬ (l.length : Int) = 0 := by omega
    have h20i : 20 < (l.length : Int) := by omega
    go_enter Tryd.func7, Tryd.ntmps7
    go_wp2_with fail
    refine KA.out.mono ?_
    rintro e w1 ⟨rfl, y, rfl⟩
    go_wp2_with fail
    refine (KL.out y).mono ?_
    rintro e w1 ⟨lv, rfl, hb⟩
    obtain ⟨y, rfl⟩ := After.exists_iff (y.below.trans (hb.mono y.size))
    clear hb
    cases lv
    all_goals
      go_wp2
      go_ret
      exact Gives.mk rfl y.below
end Go.Proofs.YtemlaliackblkaaDoor
