/- inspect.Valid. -/
import Derived.Test.YtemlaliackblkaaDoorLedMap
import Derived.Test.YtemlaliackblkaaDoorNames
import Derived.Deep.DeepCutAuto
namespace Go.Proofs.YtemlaliackblkaaDoor
open Go.RowKit Go.Maps

/-- where the walk of Valid stands -/
structure LVal (w : World) (l : List LogD) (x : World) : Prop where
  bel : Below w.heap.size w x
  map : GoneMap x w.heap.size l
theorem LVal.more {w x y : World} {l : List LogD} (h : LVal w l x) (hb : Below x.heap.size x y) : LVal w l y := ⟨h.bel.trans (hb.mono h.bel.size), h.map.below hb⟩
theorem LVal.add {w x y : World} {l l' : List LogD} (h : LVal w l x) (hg : GoneMap y w.heap.size l') (hb : x.grownBy y (some w.heap.size)) : LVal w l' y := ⟨h.bel.trans (Below.byMap hb (Nat.le_refl _) h.bel.size), hg⟩
theorem LVal.made (w : World) : LVal w [] (w.alloc (.map #[] 0)) := ⟨(Below.refl _ _).alloc (Nat.le_refl _) _, GoneMap.made w⟩
theorem logOk_long {l : List LogD} (h : 1000 < l.length) : logOk l = false := by rw [logOk, decide_eq_false (by omega)]; rfl
theorem logOk_at {l : List LogD} {k : Nat} {x : LogD} (hx : l[k]? = some x) (h : entryAt l k x = false) : logOk l = false := by rw [logOk, allIdx_no hx h]; simp
theorem logOk_yes {l : List LogD} {k : Nat} (hl : l.length ≤ 1000) (h : UpTo (entryAt l) l k) (hk : l.length ≤ k) : logOk l = true := by rw [logOk, decide_eq_true hl, h.all hk]; rfl
theorem take_snoc {α : Type} {l : List α} {k : Nat} {x : α} (h : l[k]? = some x) : l.take (k + 1) = l.take k ++ [x] := by rw [List.take_add_one, h]; rfl
set_option maxHeartbeats 1000000 in
theorem isDay_any (n : Int) (w : World) : Calls Tryd.prog 42 #[.int .i64 n] w (Gives w (.bool (dayOk n))) := by
  rcases (show n < 0 ∨ (0 ≤ n ∧ n ≤ 109572) ∨ 109572 < n by omega) with h | ⟨h, h2⟩ | h
  · have e := hide (show dayOk n = false by simp [dayOk]; omega)
    go_enter Tryd.func42, Tryd.ntmps42
    go_wp2
    go_ret
    exact Gives.mk (by rw [e.out]; rfl) (Below.refl _ _)
  · have e := hide (show dayOk n = true by simp [dayOk, h, h2])
    go_enter Tryd.func42, Tryd.ntmps42
    go_wp2
    go_ret
    exact Gives.mk (by rw [e.out]; rfl) (Below.refl _ _)
  · have e := hide (show dayOk n = false by simp [dayOk]; omega)
    have h0 : 0 ≤ n := by omega
    go_enter Tryd.func42, Tryd.ntmps42
    go_wp2
    go_ret
    exact Gives.mk (by rw [e.out]; simp; omega) (Below.refl _ _)
theorem runs_three {x : LogD} (h : x.kind = 3) : runsOk x = (decide (1 ≤ x.runs) && decide (x.runs ≤ 1000000)) := by rw [runsOk, if_pos h]
theorem runs_other {x : LogD} (h : ¬ x.kind = 3) : runsOk x = decide (x.runs = 0) := by rw [runsOk, if_neg h]
set_option maxRecDepth 100000 in
set_option maxHeartbeats 8000000 in
theorem validL_any (A : Option Addr) (cap : Nat) (l : List LogD) (hok : ∀ x ∈ l, x.ok) (w : World) (B : Nat) (hB : B ≤ w.heap.size) (hs : SlAt w B 4 LogD.cells ⟨A, cap, l⟩) :
    Calls Tryd.prog 26 #[.slice A l.length cap] w (Gives w (.bool (logOk l))) := by
  have hmm := @run_makeMap Tryd.prog
  have hlc : l.length ≤ cap := hs.1
  have hlm : cap ≤ 9223372036854775807 := hs.2.1
  have HS := hide hs
  have HOK := hide hok
  obtain ⟨R, hR⟩ : ∃ R, R = logOk l := ⟨_, rfl⟩
  rw [← hR]
  have HR := hide hR
  clear hs hok hR
  rcases Nat.lt_or_ge 1000 l.length with h1000 | h1000
  · have HF := hide (logOk_long h1000)
    rw [← HR.out] at HF
    have h1000i : (1000 : Int) < (l.length : Int) := by omega
    go_enter Tryd.func26, Tryd.ntmps26
    go_wp2
    go_ret
    exact Gives.mk (by rw [HF.out]; rfl) (Below.refl _ _)
  · have HM := hide (LVal.made w)
    have hb : w.heap.size < (w.alloc (.map #[] 0)).heap.size := by simp
    have h1000i : (l.length : Int) ≤ 1000 := by omega
    go_enter Tryd.func26, Tryd.ntmps26
    go_wp2_with fail
    go_loopw [4, 14] (fun bf v wr => ∃ k : Nat, v = .int .i64 k ∧ k ≤ l.length ∧ bf = .int .i64 (dayTo l k) ∧ Hid (UpTo (entryAt l) l k) ∧ Hid (LVal w (l.take k) wr)) (fun _ v _ => l.length - (intOf v).toNat)
    case atStart => exact ⟨0, rfl, Nat.zero_le _, rfl, hide (UpTo.zero _ _), HM⟩
    case round =>
      obtain ⟨k, rfl, hk, rfl, HU, HL⟩ := hrel
      by_cases hlt : k < l.length
      · obtain ⟨b, off, hA, hbB, hcell⟩ := HS.out.2.2 (show 0 < l.length by omega)
        simp only at hA
        subst hA
        have hx : l[k]? = some l[k] := List.getElem?_eq_getElem hlt
        have he := LogD.elem hx (show b < w.heap.size by omega) hcell ⟨wr, HL.out.bel⟩
        simp only at he
        obtain ⟨V, hV, hVs, hVb, hVh⟩ := boxed wr (.cells #[.int .i64 l[k].day, .string l[k].rope, .int .i64 l[k].kind, .int .i64 l[k].runs] 24)
        have hcV := fun y : After V.heap.size V => LogD.boxed hVh (by omega) y
        have HLV := hide (HL.out.more hVb)
        have hlk := fun y : After V.heap.size V => (HLV.out.map.below y.below).lookup l[k].rope (HOK.out _ (List.getElem_mem hlt)).rope
        have HX := hide hx
        have HV := hide hV
        have HOX := hide (HOK.out _ (List.getElem_mem hlt))
        have HD := hide (dayTo_next hx)
        have HE := hide (show entryAt l k l[k] = (dayOk l[k].day && decide (dayTo l k ≤ l[k].day) && isName l[k].rope && kindOk l[k].kind && runsOk l[k] && (decide (l[k].kind = 2) || !gone (l.take k) l[k].rope)) from rfl)
        obtain ⟨x, hxx⟩ : ∃ x, x = l[k] := ⟨_, rfl⟩
        obtain ⟨bf, hbf⟩ : ∃ bf, bf = dayTo l k := ⟨_, rfl⟩
        obtain ⟨gn, hgn⟩ : ∃ gn, gn = gone (l.take k) x.rope := ⟨_, rfl⟩
        obtain ⟨rb, hrb⟩ : ∃ rb, rb = runsOk x := ⟨_, rfl⟩
        rw [← hxx] at he hcV hlk HX HV HOX HD HE
        rw [← hgn] at hlk HE
        rw [← hbf] at HE ⊢
        rw [← hrb] at HE
        have HRB := hide hrb
        have YR : V = (After.refl V.heap.size V).val := rfl
        have KD := hide fun y : After V.heap.size V => Gives.after (x := y) (Nat.le_refl _) (isDay_any x.day y.val)
        have KN := hide fun y : After V.heap.size V => Gives.after (x := y) (Nat.le_refl _) (isName_any x.rope y.val HOX.out.rope)
        clear hV hVs hVb hVh hcell hx hxx hbf hgn hrb
        go_upto_region 8 with fail
        rw [← HV.out, YR]
        go_cut [7] (fun a wx => a = .bool rb ∧ V = wx)
        case first =>
          rcases (show x.kind = 3 ∨ ¬ x.kind = 3 by omega) with h3 | h3
          · have e := runs_three h3
            rcases (show x.runs < 1 ∨ (1 ≤ x.runs ∧ x.runs ≤ 1000000) ∨ 1000000 < x.runs by omega) with h | ⟨h, h2⟩ | h
            · have e2 : rb = false := by rw [HRB.out, e]; simp; omega
              have E := hide e2
              clear e e2
              go_wp2_with fail
              go_meet
              exact ⟨by rw [E.out], rfl⟩
            · have e2 : rb = true := by rw [HRB.out, e]; simp [h, h2]
              have E := hide e2
              clear e e2
              go_wp2_with fail
              go_meet
              exact ⟨by rw [E.out], rfl⟩
            · have e2 : rb = false := by rw [HRB.out, e]; simp; omega
              have E := hide e2
              have h1 : 1 ≤ x.runs := by omega
              clear e e2
              go_wp2_with fail
              go_meet
              exact ⟨by rw [E.out]; simp; omega, rfl⟩
          · have e := runs_other h3
            rcases (show x.runs = 0 ∨ ¬ x.runs = 0 by omega) with h | h
            · have e2 : rb = true := by rw [HRB.out, e]; simp [h]
              have E := hide e2
              clear e e2
              go_wp2_with fail
              go_meet
              exact ⟨by rw [E.out]; simp [h3], rfl⟩
            · have e2 : rb = false := by rw [HRB.out, e]; simp [h]
              have E := hide e2
              clear e e2
              go_wp2_with fail
              go_meet
              exact ⟨by rw [E.out]; simp [h3, h], rfl⟩
        case rest =>
          obtain ⟨rfl, rfl⟩ := hcut
          rw [YR]
          go_upto_region 9 with fail
          obtain ⟨eb, heb⟩ : ∃ eb, eb = entryAt l k x := ⟨_, rfl⟩
          have HEB := hide heb
          rw [← heb] at HE
          obtain ⟨D, hD⟩ : ∃ D, D = dayOk x.day := ⟨_, rfl⟩
          obtain ⟨N, hN⟩ : ∃ N, N = isName x.rope := ⟨_, rfl⟩
          rw [← hD] at HE KD
          rw [← hN] at HE KN
          have ways : (D = false ∧ eb = false) ∨ (D = true ∧ x.day < bf ∧ eb = false) ∨ (D = true ∧ bf ≤ x.day ∧ N = false ∧ eb = false) ∨ (D = true ∧ bf ≤ x.day ∧ N = true ∧ x.kind < 1 ∧ eb = false) ∨
              (D = true ∧ bf ≤ x.day ∧ N = true ∧ 1 ≤ x.kind ∧ 4 < x.kind ∧ eb = false) ∨ (D = true ∧ bf ≤ x.day ∧ N = true ∧ 1 ≤ x.kind ∧ x.kind ≤ 4 ∧ rb = false ∧ eb = false) ∨
              (D = true ∧ bf ≤ x.day ∧ N = true ∧ 1 ≤ x.kind ∧ x.kind ≤ 4 ∧ rb = true ∧ gn = false ∧ eb = true) ∨ (D = true ∧ bf ≤ x.day ∧ N = true ∧ 1 ≤ x.kind ∧ x.kind ≤ 4 ∧ rb = true ∧ gn = true ∧ eb = decide (x.kind = 2)) := by
            have h := HE.out
            rw [h]
            cases D
            · simp
            rcases (show x.day < bf ∨ bf ≤ x.day by omega) with h1 | h1
            · have : ¬ bf ≤ x.day := by omega
              simp [h1, this]
            have n1 : ¬ x.day < bf := by omega
            cases N
            · simp [h1]
            rcases (show x.kind < 1 ∨ 1 ≤ x.kind by omega) with h2 | h2
            · have : ¬ 1 ≤ x.kind := by omega
              simp [h1, h2, kindOk, this]
            rcases (show x.kind ≤ 4 ∨ 4 < x.kind by omega) with h3 | h3
            · have n3 : ¬ x.kind < 1 := by omega
              have n4 : ¬ 4 < x.kind := by omega
              cases rb
              · simp [h1, h2, h3, n3, kindOk]
              · cases gn <;> simp [h1, h2, h3, n3, n4, kindOk]
            · have : ¬ x.kind ≤ 4 := by omega
              simp [h1, h2, h3, kindOk, this]
          clear heb hD hN
          go_cut [81] (fun a wx => a = .bool (!eb) ∧ ∃ y : After V.heap.size V, wx = y.val)
          case first =>
            rcases ways with ⟨rfl, E⟩ | ⟨rfl, g1, E⟩ | ⟨rfl, g1, rfl, E⟩ | ⟨rfl, g1, rfl, g2, E⟩ | ⟨rfl, g1, rfl, g2, g3, E⟩ | ⟨rfl, g1, rfl, g2, g3, rfl, E⟩ | ⟨rfl, g1, rfl, g2, g3, rfl, rfl, E⟩ | ⟨rfl, g1, rfl, g2, g3, rfl, rfl, E⟩
            all_goals
              have E := hide E
              clear HE HEB HRB
              go_wp2_with (first
                | (go_at_call 42; refine (KD.out _).mono ?_; rintro e w1 ⟨rfl, y, rfl⟩)
                | (go_at_call 43; refine (KN.out _).mono ?_; rintro e w1 ⟨rfl, y, rfl⟩))
              go_meet
              exact ⟨by rw [E.out]; first | (simp; done) | (simp; omega) | (have a1 : ¬ x.day < bf := (by omega); have a2 : ¬ x.kind < 1 := (by omega); have a3 : ¬ 4 < x.kind := (by omega); by_cases a4 : x.kind = 2 <;> simp [a1, a2, a3, a4]), _, rfl⟩
          case rest =>
            obtain ⟨rfl, y, rfl⟩ := hcut
            cases eb
            · have HF := hide (logOk_at HX.out HEB.out.symm)
              rw [← HR.out] at HF
              go_wp2
              go_ret
              exact Gives.mk (by rw [HF.out]; rfl) (HLV.out.bel.trans (y.below.mono HLV.out.bel.size))
            · have HNU := hide (HU.out.next HX.out HEB.out.symm)
              have HG := hide (HLV.out.more y.below)
              go_wp2_with (at_mapUpdate; refine wpList_gone HG.out.map x HOX.out.rope (by rw [List.length_take]; unfold maxLen; omega) rfl _ _ _ rfl rfl rfl rfl ?_; intro w2 hs2 hg2)
              exact ⟨⟨k + 1, by go_num, by omega, by rw [HD.out], HNU, hide (HG.out.add (by rw [take_snoc HX.out]; exact hs2) hg2)⟩, by simp [intOf]; omega⟩
      · have hkl : k = l.length := by omega
        have HF := hide (logOk_yes h1000 HU.out (by omega))
        rw [← HR.out] at HF
        subst hkl
        go_wp2
        go_ret
        exact Gives.mk (by rw [HF.out]; rfl) HL.out.bel
end Go.Proofs.YtemlaliackblkaaDoor
