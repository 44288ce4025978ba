/- loftblockref01.Parse: what it computes. -/
import Derived.Test.YtplblogdgbnbdaaDoorDecCut
import Derived.Deep.DeepCutAuto
namespace Go.Proofs.YtplblogdgbnbdaaDoor
open Go.RowKit

theorem DigTo.all {s : ByteArray} {i j : Nat} (_ : i ≤ j) (h : DigTo (bs s) i j) : (bs (s.extract i j)).all isDig = true := by
  rw [List.all_eq_true]
  intro c hc
  obtain ⟨m, hm⟩ := List.mem_iff_getElem?.1 hc
  rw [bs_data, Lib.extract_data, ← bs_data] at hm
  have hlt := (List.getElem?_eq_some_iff.1 hm).1
  rw [List.length_take] at hlt
  rw [List.getElem?_take_of_lt (by omega)] at hm
  exact h.before rfl m (by omega) c hm
theorem allDig_of {l : List UInt8} (h : l.all isDig = true) (h0 : 0 < l.length) : allDig l = true := by
  cases l with
  | nil => simp at h0
  | cons c l => unfold allDig; rw [h]; rfl
set_option maxHeartbeats 8000000 in
set_option maxRecDepth 100000 in
theorem refParse_any (s : ByteArray) (hs : s.size ≤ 100000) (digits : Int) (k : Nat) (hk : digits = k) (hd9 : digits ≤ 9) (w : World) :
    Calls Tryd.prog 16 #[.string s, .int .i64 digits] w (Gives w (.tuple #[.int .i64 (parseE (bs s) k).1, .int .i64 (parseE (bs s) k).2])) := by
  have hd0 : 0 ≤ digits := by omega
  have HK := hide hk
  clear hk
  obtain ⟨ng, hng⟩ : ∃ ng : Bool, ng = decide ((bs s)[0]? = some 45) := ⟨_, rfl⟩
  obtain ⟨i, hi⟩ : ∃ i : Nat, i = if ng then 1 else 0 := ⟨_, rfl⟩
  have hp : ng = Lib.hasPrefix (bs s) [45] ∧ Lib.trimPrefix (bs s) [45] = (bs s).drop i := by
    rw [hi, hng]
    by_cases h : (bs s)[0]? = some 45
    · rw [decide_eq_true h]; exact parse_minus h
    · rw [decide_eq_false h]; exact parse_plus h
  have his : i ≤ s.size := by
    rw [hi, hng]
    by_cases h : (bs s)[0]? = some 45
    · rw [decide_eq_true h]; have := (List.getElem?_eq_some_iff.1 h).1; rw [bs_length] at this; exact this
    · rw [decide_eq_false h]; simp
  have HNG := hide hp.1
  have HTR := hide hp.2
  have HI := hide hi
  have hways : (s.size = 0 ∧ ng = false) ∨ (∃ h : 0 < s.size, ((s[0].toNat : Int) == 45) = ng) := by
    rcases Nat.eq_zero_or_pos s.size with h | h
    · exact Or.inl ⟨h, by rw [hng, List.getElem?_eq_none (by rw [bs_length]; omega)]; simp⟩
    · refine Or.inr ⟨h, ?_⟩
      rw [hng, bs_get s 0 h, Bool.eq_iff_iff]
      simp only [beq_iff_eq, decide_eq_true_eq, Option.some.injEq]
      constructor
      · intro e; exact UInt8.toNat_inj.1 (show s[0].toNat = 45 by omega)
      · intro e; rw [e]; rfl
  have HWY := hide hways
  clear hp hi hng hways
  go_enter Tryd.func16, Tryd.ntmps16
  go_upto_region 2 with fail
  go_cut [7] (fun a wx => a = .bool ng ∧ w = wx)
  case first =>
    rcases HWY.out with ⟨h0, rfl⟩ | ⟨h0, hq⟩
    · have h0d : ¬ (0 < (s.size : Int)) := by omega
      clear h0
      go_wp2_with fail
      go_meet
      exact ⟨rfl, rfl⟩
    · have h0d : 0 < (s.size : Int) := by omega
      go_wp2_with fail
      go_meet
      exact ⟨by rw [← hq], rfl⟩
  case rest =>
    obtain ⟨rfl, rfl⟩ := hcut
    go_upto_if 24 with fail
    go_cut [6] (fun a wx => a = .int .i64 i ∧ w = wx)
    case first =>
      cases ng
      · have e : i = 0 := HI.out
        go_wp2_with fail
        go_meet
        exact ⟨by rw [e]; rfl, rfl⟩
      · have e : i = 1 := HI.out
        go_wp2_with fail
        go_meet
        exact ⟨by rw [e]; rfl, rfl⟩
    case rest =>
      obtain ⟨rfl, rfl⟩ := hcut
      go_wp2
      go_loopw [6] (fun a wr => ∃ j : Nat, a = .int .i64 j ∧ i ≤ j ∧ j ≤ s.size ∧ Hid (DigTo (bs s) i j) ∧ ∃ x : After w.heap.size w, wr = x.val) (fun a _ => s.size - (intOf a).toNat)
      case atStart => exact ⟨i, rfl, Nat.le_refl _, his, hide (DigTo.start _ _), After.refl _ _, rfl⟩
      case round =>
        obtain ⟨j, rfl, hij, hj, hdg, x1, rfl⟩ := hrel
        by_cases hlt : j < s.size
        · have hb := bs_get s j hlt
          cases hd : digitB (s[j].toNat : Int)
          · have KD := hide (hd ▸ refDigit_any (s[j].toNat : Int) x1.val)
            by_cases h46 : ((s[j].toNat : Int) == 46) = true
            · have h46' : ((s[j].toNat : Int) != 46) = false := by rw [bne, h46]; rfl
              have hb46 : (bs s)[j]? = some 46 := by
                rw [hb]; congr 1; rw [beq_iff_eq] at h46; exact UInt8.toNat_inj.1 (show s[j].toNat = 46 by omega)
              have HP := hide (parse_point (k := k) HNG.out HTR.out hij hdg.out hb46)
              have HWA := hide (DigTo.all hij hdg.out)
              clear hb hd hb46
              obtain ⟨Wh, hWh⟩ : ∃ Wh, Wh = s.extract i j := ⟨_, rfl⟩
              rw [← hWh] at HP HWA
              have hWs : Wh.size ≤ 100000 := by rw [hWh, ByteArray.size_extract]; omega
              have HWH := hide hWh
              clear hWh
              obtain ⟨Pt, hPt⟩ : ∃ Pt, Pt = s.extract (j + 1) s.size := ⟨_, rfl⟩
              rw [← hPt] at HP
              have hPs : Pt.size = s.size - (j + 1) := by rw [hPt, ByteArray.size_extract]; omega
              have HPE := hide hPt
              have HPS := hide hPs
              have hPs2 : Pt.size ≤ 100000 := by omega
              clear hPt hPs
              go_upto_region 8 with (go_at_call 39; refine (Gives.after (Nat.le_refl _) KD.out).mono ?_; rintro e w' ⟨rfl, y, rfl⟩)
              go_cut [9] (fun a wx => a = .string Wh ∧ y.val = wx)
              case first =>
                go_wp2_with fail
                go_meet
                exact ⟨by rw [HWH.out], rfl⟩
              case rest =>
              obtain ⟨rfl, rfl⟩ := hcut
              go_upto_region 11 with fail
              go_cut [10] (fun a wx => a = .string Pt ∧ y.val = wx)
              case first =>
                go_wp2_with fail
                go_meet
                exact ⟨by rw [HPE.out], rfl⟩
              case rest =>
              obtain ⟨rfl, rfl⟩ := hcut
              by_cases hp0 : (Pt.size : Int) = 0
              · have hp0d : ((Pt.size : Int) == 0) = true := by rw [beq_iff_eq]; omega
                have HE := hide (show parseE (bs s) k = (0, 7) by rw [HP.out, parseParts, formB_part (allDig_empty (s := Pt) (by omega))]; rfl)
                clear hp0
                go_wp2
                go_ret2
                exact Gives.mk (congrArg (fun x : Int × Int => Value.tuple #[.int .i64 x.1, .int .i64 x.2]) HE.out.symm) (After.below _)
              · have hp0d : ((Pt.size : Int) == 0) = false := by rw [beq_eq_false_iff_ne]; omega
                by_cases hPk : (Pt.size : Int) ≤ digits
                · have HP2 := HP
                  have HPT := hide (show true = false ∧ Pt.size = 0 ∨ true = true ∧ 0 < Pt.size from Or.inr ⟨rfl, by omega⟩)
                  go_wp2
                  go_loopw [11] (fun c wr => ∃ j : Nat, c = .int .i64 j ∧ j ≤ Pt.size ∧ Hid (UpTo (fun _ c => isDig c) (bs Pt) j) ∧ ∃ x : After w.heap.size w, wr = x.val) (fun c _ => Pt.size - (intOf c).toNat)
                  case atStart => exact ⟨0, rfl, Nat.zero_le _, hide (UpTo.zero _ _), _, rfl⟩
                  case round =>
                    obtain ⟨j, rfl, hj, hup, x2, rfl⟩ := hrel
                    by_cases hlt : j < Pt.size
                    · have hb := bs_get Pt j hlt
                      cases hd : digitB (Pt[j].toNat : Int)
                      · have HE := hide (show parseE (bs s) k = (0, 7) by
                          rw [HP2.out]
                          rcases HPT.out with ⟨_, h⟩ | ⟨h, _⟩
                          · omega
                          · first
                              | exact absurd h (by decide)
                              | (rw [parseParts, formB_part (allDig_no hb hd)]; rfl))
                        have KD := hide (hd ▸ refDigit_any (Pt[j].toNat : Int) x2.val)
                        clear hb hd
                        go_wp2_with fail
                        refine (Gives.after (Nat.le_refl _) KD.out).mono ?_
                        rintro e w' ⟨rfl, y, rfl⟩
                        go_wp2
                        go_ret2
                        exact Gives.mk (congrArg (fun x : Int × Int => Value.tuple #[.int .i64 x.1, .int .i64 x.2]) HE.out.symm) (After.below _)
                      · have HN := hide (hup.out.next hb hd)
                        have KD := hide (hd ▸ refDigit_any (Pt[j].toNat : Int) x2.val)
                        clear hb hd
                        go_wp2_with fail
                        refine (Gives.after (Nat.le_refl _) KD.out).mono ?_
                        rintro e w' ⟨rfl, y, rfl⟩
                        go_wp2
                        go_roundw
                        case rel => exact ⟨j + 1, by go_num, by omega, HN, y, rfl⟩
                        case measure => simp [intOf]; omega
                    · have HPA := hide (hup.out.list_all (by rw [bs_length]; omega))
                      rcases Nat.eq_zero_or_pos Wh.size with hW0 | hW0
                      · have HE := hide (show parseE (bs s) k = (0, 7) by rw [HP2.out, parseParts_all (allDig_empty hW0)])
                        have hWd : ((Wh.size : Int) == 0) = true := by simp [hW0]
                        clear hW0
                        go_wp2
                        go_ret2
                        exact Gives.mk (congrArg (fun x : Int × Int => Value.tuple #[.int .i64 x.1, .int .i64 x.2]) HE.out.symm) (After.below _)
                      · have hWd : ((Wh.size : Int) == 0) = false := by rw [beq_eq_false_iff_ne]; omega
                        have HWD := hide (allDig_of HWA.out (by rw [bs_length]; omega))
                        have hq : (decide (1 < (Wh.size : Int)) = true ∧ ((Wh[0].toNat : Int) == 48) = true) ∨ (decide (1 < (Wh.size : Int)) = false ∨ (decide (1 < (Wh.size : Int)) = true ∧ ((Wh[0].toNat : Int) == 48) = false)) := by
                          cases decide (1 < (Wh.size : Int)) <;> cases ((Wh[0].toNat : Int) == 48) <;> simp
                        rcases hq with ⟨h1, h2⟩ | hq
                        · have HE := hide (show parseE (bs s) k = (0, 7) by rw [HP2.out, parseParts, formB_zero (by simp at h1; omega) h2]; rfl)
                          go_wp2
                          go_ret2
                          exact Gives.mk (congrArg (fun x : Int × Int => Value.tuple #[.int .i64 x.1, .int .i64 x.2]) HE.out.symm) (After.below _)
                        · have h48 : ¬ 1 < Wh.size ∨ ((Wh[0]!.toNat : Int) == 48) = false := by
                            rw [getElem!_pos Wh 0 hW0]
                            rcases hq with h | ⟨_, h⟩
                            · left; simp at h; omega
                            · right; exact h
                          have H48 := hide h48
                          clear h48
                          rcases hq with hq | ⟨hq, hq2⟩
                          all_goals
                            go_wp2
                            go_loopw [10] (fun z wr => ∃ (Q : ByteArray) (j : Nat), z = .string Q ∧ Hid (bs Q = bs Pt ++ List.replicate j 48) ∧ (Q.size : Int) ≤ digits ∧ Hid (Q.size = Pt.size + j) ∧ ∃ x : After w.heap.size w, wr = x.val) (fun z _ => 10 - (match z with | .string s => s.size | _ => 0))
                            case atStart => exact ⟨Pt, 0, rfl, hide (by simp), hPk, hide rfl, _, rfl⟩
                            case round =>
                              obtain ⟨Q, j, rfl, hQ, hQs, hQj, x3, rfl⟩ := hrel
                              by_cases hlt : (Q.size : Int) < digits
                              · have HN := hide (show bs (Q ++ ⟨#[48]⟩) = bs Pt ++ List.replicate (j + 1) 48 by rw [bs_append, hQ.out, List.replicate_succ', List.append_assoc, show bs ⟨#[48]⟩ = [48] from bs_mk [48]])
                                have HN2 := hide (show (Q ++ (⟨#[48]⟩ : ByteArray)).size = Pt.size + (j + 1) by rw [ByteArray.size_append, hQj.out]; rfl)
                                go_wp2
                                go_roundw
                                case rel => exact ⟨_, j + 1, rfl, HN, by rw [HN2.out]; have := hQj.out; omega, HN2, x3, rfl⟩
                                case measure =>
                                  have h1 := HN2.out
                                  have h2 := hQj.out
                                  simp only [ByteArray.size_append] at h1
                                  simp [ByteArray.size_append]
                                  omega
                              · obtain ⟨L, hL⟩ : ∃ L, L = bs Wh ++ bs Pt ++ List.replicate (k - Pt.size) 48 := ⟨_, rfl⟩
                                have HLA := hide (show bs (Wh ++ Q) = L by rw [bs_append, hQ.out, hL, show j = k - Pt.size by have := hQj.out; have := HK.out; omega, List.append_assoc])
                                have HDG := hide (show Digs L by rw [hL]; exact Digs.of_all (by simp [List.all_append, HWA.out, HPA.out]; right; rfl))
                                have HE1 := hide (show parseE (bs s) k = numE ng (accum L 0) by
                                  rw [HP2.out, parseParts, formB_ok HWD.out H48.out hW0 (by
                                    rcases HPT.out with ⟨h, _⟩ | ⟨_, h⟩
                                    · exact Or.inl (by first | rfl | exact h)
                                    · exact Or.inr ⟨allDig_of HPA.out (by rw [bs_length]; omega), by rw [bs_length]; have := HK.out; omega⟩), if_pos rfl, hL, bs_length])
                                clear hL
                                obtain ⟨A, hA0⟩ : ∃ A, A = Wh ++ Q := ⟨_, rfl⟩
                                have hAs : A.size ≤ 300000 := by rw [hA0, ByteArray.size_append]; omega
                                have HA1 := hide hA0
                                clear hA0
                                have hA := hide (show bs A = L by rw [HA1.out]; exact HLA.out)
                                go_upto_region 23 with fail
                                go_cut [12] (fun a wx => a = .string A ∧ x3.val = wx)
                                case first =>
                                  go_wp2_with fail
                                  go_meet
                                  exact ⟨by rw [HA1.out], rfl⟩
                                case rest =>
                                obtain ⟨rfl, rfl⟩ := hcut
                                go_wp2
                                go_loopw [13, 14] (fun v u wr => ∃ (j : Nat) (a : Int), u = .int .i64 j ∧ j ≤ A.size ∧ v = .int .i64 a ∧ 0 ≤ a ∧ a ≤ 1152921504606846976 ∧ Hid (AccTo L j a) ∧ ∃ x : After w.heap.size w, wr = x.val) (fun _ u _ => A.size - (intOf u).toNat)
                                case atStart => exact ⟨0, 0, rfl, Nat.zero_le _, rfl, by omega, by omega, hide (AccTo.start L), _, rfl⟩
                                case round =>
                                  obtain ⟨j, a, rfl, hj, rfl, ha, ha2, hacc, x4, rfl⟩ := hrel
                                  by_cases hlt : j < A.size
                                  · have hc : L[j]? = some A[j] := by rw [← hA.out]; exact bs_get A j hlt
                                    obtain ⟨hc1, hc2⟩ := HDG.out j _ hc
                                    by_cases hbig : (1152921504606846976 - ((A[j].toNat : Int) - 48)) / 10 < a
                                    · have HE := hide (show parseE (bs s) k = (0, 5) by rw [HE1.out, hacc.out.big hc hbig]; rfl)
                                      clear hc
                                      go_wp2
                                      go_ret2
                                      exact Gives.mk (congrArg (fun x : Int × Int => Value.tuple #[.int .i64 x.1, .int .i64 x.2]) HE.out.symm) (After.below _)
                                    · have HA := hide (hacc.out.next hc hbig)
                                      clear hc
                                      go_wp2
                                      go_roundw
                                      case rel => exact ⟨j + 1, 10 * a + ((A[j].toNat : Int) - 48), by go_num, by omega, rfl, by omega, by omega, HA, x4, rfl⟩
                                      case measure => simp [intOf]; omega
                                  · have HD := hide (hacc.out.done (by rw [← hA.out, bs_length]; omega))
                                    cases ng
                                    · have HE := hide (show parseE (bs s) k = (a, 0) by rw [HE1.out, HD.out]; rfl)
                                      go_wp2
                                      go_ret2
                                      exact Gives.mk (congrArg (fun x : Int × Int => Value.tuple #[.int .i64 x.1, .int .i64 x.2]) HE.out.symm) (After.below _)
                                    · have HE := hide (show parseE (bs s) k = (-a, 0) by rw [HE1.out, HD.out]; rfl)
                                      go_wp2
                                      go_ret2
                                      exact Gives.mk (congrArg (fun x : Int × Int => Value.tuple #[.int .i64 x.1, .int .i64 x.2]) HE.out.symm) (After.below _)
                · have HE := hide (show parseE (bs s) k = (0, 7) by rw [HP.out, parseParts, formB_long (by rw [bs_length]; have := HK.out; omega)]; rfl)
                  go_wp2
                  go_ret2
                  exact Gives.mk (congrArg (fun x : Int × Int => Value.tuple #[.int .i64 x.1, .int .i64 x.2]) HE.out.symm) (After.below _)
            · have h46' : ((s[j].toNat : Int) != 46) = true := by rw [bne]; simp only [Bool.not_eq_true] at h46; rw [h46]; rfl
              have HE := hide (parse_bad (k := k) HTR.out hij hdg.out hb (fun e => h46 (by rw [e]; rfl)) hd)
              clear hb hd
              go_wp2_with fail
              refine (Gives.after (Nat.le_refl _) KD.out).mono ?_
              rintro e w' ⟨rfl, y, rfl⟩
              go_wp2
              go_ret2
              exact Gives.mk (congrArg (fun x : Int × Int => Value.tuple #[.int .i64 x.1, .int .i64 x.2]) HE.out.symm) (After.below _)
          · have HN := hide (hdg.out.next hb hd)
            have KD := hide (hd ▸ refDigit_any (s[j].toNat : Int) x1.val)
            clear hb hd
            go_wp2_with fail
            refine (Gives.after (Nat.le_refl _) KD.out).mono ?_
            rintro e w' ⟨rfl, y, rfl⟩
            go_wp2
            go_roundw
            case rel => exact ⟨j + 1, by go_num, by omega, by omega, HN, y, rfl⟩
            case measure => simp [intOf]; omega
        · have HP := hide (parse_whole (k := k) HNG.out HTR.out hij hdg.out (by omega))
          have HWA := hide (DigTo.all hij hdg.out)
          obtain ⟨Wh, hWh⟩ : ∃ Wh, Wh = s.extract i j := ⟨_, rfl⟩
          rw [← hWh] at HP HWA
          have hWs : Wh.size ≤ 100000 := by rw [hWh, ByteArray.size_extract]; omega
          have HWH := hide hWh
          clear hWh
          obtain ⟨Pt, hPt⟩ : ∃ Pt : ByteArray, Pt = ⟨#[]⟩ := ⟨_, rfl⟩
          have HP2 := hide (show parseE (bs s) k = parseParts ng (bs Wh) (bs Pt) false k by rw [hPt, show bs ⟨#[]⟩ = [] from bs_mk []]; exact HP.out)
          have hPk : (Pt.size : Int) ≤ digits := by rw [hPt]; exact hd0
          have HPT := hide (show false = false ∧ Pt.size = 0 ∨ false = true ∧ 0 < Pt.size from Or.inl ⟨rfl, by rw [hPt]; rfl⟩)
          have HPE := hide hPt
          clear hPt
          go_upto_region 8 with fail
          go_cut [9] (fun a wx => a = .string Wh ∧ x1.val = wx)
          case first =>
            go_wp2_with fail
            go_meet
            exact ⟨by rw [HWH.out], rfl⟩
          case rest =>
          obtain ⟨rfl, rfl⟩ := hcut
          go_upto_region 9 with fail
          go_cut [10] (fun a wx => a = .string Pt ∧ x1.val = wx)
          case first =>
            go_wp2_with fail
            go_meet
            exact ⟨by rw [HPE.out], rfl⟩
          case rest =>
          obtain ⟨rfl, rfl⟩ := hcut
          go_wp2
          go_loopw [11] (fun c wr => ∃ j : Nat, c = .int .i64 j ∧ j ≤ Pt.size ∧ Hid (UpTo (fun _ c => isDig c) (bs Pt) j) ∧ ∃ x : After w.heap.size w, wr = x.val) (fun c _ => Pt.size - (intOf c).toNat)
          case atStart => exact ⟨0, rfl, Nat.zero_le _, hide (UpTo.zero _ _), _, rfl⟩
          case round =>
            obtain ⟨j, rfl, hj, hup, x2, rfl⟩ := hrel
            by_cases hlt : j < Pt.size
            · have hb := bs_get Pt j hlt
              cases hd : digitB (Pt[j].toNat : Int)
              · have HE := hide (show parseE (bs s) k = (0, 7) by
                  rw [HP2.out]
                  rcases HPT.out with ⟨_, h⟩ | ⟨h, _⟩
                  · omega
                  · first
                      | exact absurd h (by decide)
                      | (rw [parseParts, formB_part (allDig_no hb hd)]; rfl))
                have KD := hide (hd ▸ refDigit_any (Pt[j].toNat : Int) x2.val)
                clear hb hd
                go_wp2_with fail
                refine (Gives.after (Nat.le_refl _) KD.out).mono ?_
                rintro e w' ⟨rfl, y, rfl⟩
                go_wp2
                go_ret2
                exact Gives.mk (congrArg (fun x : Int × Int => Value.tuple #[.int .i64 x.1, .int .i64 x.2]) HE.out.symm) (After.below _)
              · have HN := hide (hup.out.next hb hd)
                have KD := hide (hd ▸ refDigit_any (Pt[j].toNat : Int) x2.val)
                clear hb hd
                go_wp2_with fail
                refine (Gives.after (Nat.le_refl _) KD.out).mono ?_
                rintro e w' ⟨rfl, y, rfl⟩
                go_wp2
                go_roundw
                case rel => exact ⟨j + 1, by go_num, by omega, HN, y, rfl⟩
                case measure => simp [intOf]; omega
            · have HPA := hide (hup.out.list_all (by rw [bs_length]; omega))
              rcases Nat.eq_zero_or_pos Wh.size with hW0 | hW0
              · have HE := hide (show parseE (bs s) k = (0, 7) by rw [HP2.out, parseParts_all (allDig_empty hW0)])
                have hWd : ((Wh.size : Int) == 0) = true := by simp [hW0]
                clear hW0
                go_wp2
                go_ret2
                exact Gives.mk (congrArg (fun x : Int × Int => Value.tuple #[.int .i64 x.1, .int .i64 x.2]) HE.out.symm) (After.below _)
              · have hWd : ((Wh.size : Int) == 0) = false := by rw [beq_eq_false_iff_ne]; omega
                have HWD := hide (allDig_of HWA.out (by rw [bs_length]; omega))
                have hq : (decide (1 < (Wh.size : Int)) = true ∧ ((Wh[0].toNat : Int) == 48) = true) ∨ (decide (1 < (Wh.size : Int)) = false ∨ (decide (1 < (Wh.size : Int)) = true ∧ ((Wh[0].toNat : Int) == 48) = false)) := by
                  cases decide (1 < (Wh.size : Int)) <;> cases ((Wh[0].toNat : Int) == 48) <;> simp
                rcases hq with ⟨h1, h2⟩ | hq
                · have HE := hide (show parseE (bs s) k = (0, 7) by rw [HP2.out, parseParts, formB_zero (by simp at h1; omega) h2]; rfl)
                  go_wp2
                  go_ret2
                  exact Gives.mk (congrArg (fun x : Int × Int => Value.tuple #[.int .i64 x.1, .int .i64 x.2]) HE.out.symm) (After.below _)
                · have h48 : ¬ 1 < Wh.size ∨ ((Wh[0]!.toNat : Int) == 48) = false := by
                    rw [getElem!_pos Wh 0 hW0]
                    rcases hq with h | ⟨_, h⟩
                    · left; simp at h; omega
                    · right; exact h
                  have H48 := hide h48
                  clear h48
                  rcases hq with hq | ⟨hq, hq2⟩
                  all_goals
                    go_wp2
                    go_loopw [10] (fun z wr => ∃ (Q : ByteArray) (j : Nat), z = .string Q ∧ Hid (bs Q = bs Pt ++ List.replicate j 48) ∧ (Q.size : Int) ≤ digits ∧ Hid (Q.size = Pt.size + j) ∧ ∃ x : After w.heap.size w, wr = x.val) (fun z _ => 10 - (match z with | .string s => s.size | _ => 0))
                    case atStart => exact ⟨Pt, 0, rfl, hide (by simp), hPk, hide rfl, _, rfl⟩
                    case round =>
                      obtain ⟨Q, j, rfl, hQ, hQs, hQj, x3, rfl⟩ := hrel
                      by_cases hlt : (Q.size : Int) < digits
                      · have HN := hide (show bs (Q ++ ⟨#[48]⟩) = bs Pt ++ List.replicate (j + 1) 48 by rw [bs_append, hQ.out, List.replicate_succ', List.append_assoc, show bs ⟨#[48]⟩ = [48] from bs_mk [48]])
                        have HN2 := hide (show (Q ++ (⟨#[48]⟩ : ByteArray)).size = Pt.size + (j + 1) by rw [ByteArray.size_append, hQj.out]; rfl)
                        go_wp2
                        go_roundw
                        case rel => exact ⟨_, j + 1, rfl, HN, by rw [HN2.out]; have := hQj.out; omega, HN2, x3, rfl⟩
                        case measure =>
                          have h1 := HN2.out
                          have h2 := hQj.out
                          simp only [ByteArray.size_append] at h1
                          simp [ByteArray.size_append]
                          omega
                      · obtain ⟨L, hL⟩ : ∃ L, L = bs Wh ++ bs Pt ++ List.replicate (k - Pt.size) 48 := ⟨_, rfl⟩
                        have HLA := hide (show bs (Wh ++ Q) = L by rw [bs_append, hQ.out, hL, show j = k - Pt.size by have := hQj.out; have := HK.out; omega, List.append_assoc])
                        have HDG := hide (show Digs L by rw [hL]; exact Digs.of_all (by simp [List.all_append, HWA.out, HPA.out]; right; rfl))
                        have HE1 := hide (show parseE (bs s) k = numE ng (accum L 0) by
                          rw [HP2.out, parseParts, formB_ok HWD.out H48.out hW0 (by
                            rcases HPT.out with ⟨h, _⟩ | ⟨_, h⟩
                            · exact Or.inl (by first | rfl | exact h)
                            · exact Or.inr ⟨allDig_of HPA.out (by rw [bs_length]; omega), by rw [bs_length]; have := HK.out; omega⟩), if_pos rfl, hL, bs_length])
                        clear hL
                        obtain ⟨A, hA0⟩ : ∃ A, A = Wh ++ Q := ⟨_, rfl⟩
                        have hAs : A.size ≤ 300000 := by rw [hA0, ByteArray.size_append]; omega
                        have HA1 := hide hA0
                        clear hA0
                        have hA := hide (show bs A = L by rw [HA1.out]; exact HLA.out)
                        go_upto_region 23 with fail
                        go_cut [12] (fun a wx => a = .string A ∧ x3.val = wx)
                        case first =>
                          go_wp2_with fail
                          go_meet
                          exact ⟨by rw [HA1.out], rfl⟩
                        case rest =>
                        obtain ⟨rfl, rfl⟩ := hcut
                        go_wp2
                        go_loopw [13, 14] (fun v u wr => ∃ (j : Nat) (a : Int), u = .int .i64 j ∧ j ≤ A.size ∧ v = .int .i64 a ∧ 0 ≤ a ∧ a ≤ 1152921504606846976 ∧ Hid (AccTo L j a) ∧ ∃ x : After w.heap.size w, wr = x.val) (fun _ u _ => A.size - (intOf u).toNat)
                        case atStart => exact ⟨0, 0, rfl, Nat.zero_le _, rfl, by omega, by omega, hide (AccTo.start L), _, rfl⟩
                        case round =>
                          obtain ⟨j, a, rfl, hj, rfl, ha, ha2, hacc, x4, rfl⟩ := hrel
                          by_cases hlt : j < A.size
                          · have hc : L[j]? = some A[j] := by rw [← hA.out]; exact bs_get A j hlt
                            obtain ⟨hc1, hc2⟩ := HDG.out j _ hc
                            by_cases hbig : (1152921504606846976 - ((A[j].toNat : Int) - 48)) / 10 < a
                            · have HE := hide (show parseE (bs s) k = (0, 5) by rw [HE1.out, hacc.out.big hc hbig]; rfl)
                              clear hc
                              go_wp2
                              go_ret2
                              exact Gives.mk (congrArg (fun x : Int × Int => Value.tuple #[.int .i64 x.1, .int .i64 x.2]) HE.out.symm) (After.below _)
                            · have HA := hide (hacc.out.next hc hbig)
                              clear hc
                              go_wp2
                              go_roundw
                              case rel => exact ⟨j + 1, 10 * a + ((A[j].toNat : Int) - 48), by go_num, by omega, rfl, by omega, by omega, HA, x4, rfl⟩
                              case measure => simp [intOf]; omega
                          · have HD := hide (hacc.out.done (by rw [← hA.out, bs_length]; omega))
                            cases ng
                            · have HE := hide (show parseE (bs s) k = (a, 0) by rw [HE1.out, HD.out]; rfl)
                              go_wp2
                              go_ret2
                              exact Gives.mk (congrArg (fun x : Int × Int => Value.tuple #[.int .i64 x.1, .int .i64 x.2]) HE.out.symm) (After.below _)
                            · have HE := hide (show parseE (bs s) k = (-a, 0) by rw [HE1.out, HD.out]; rfl)
                              go_wp2
                              go_ret2
                              exact Gives.mk (congrArg (fun x : Int × Int => Value.tuple #[.int .i64 x.1, .int .i64 x.2]) HE.out.symm) (After.below _)
end Go.Proofs.YtplblogdgbnbdaaDoor
