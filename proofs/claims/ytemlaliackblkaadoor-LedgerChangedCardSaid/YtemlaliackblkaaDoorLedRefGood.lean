/- The reference's Good. -/
import Derived.Test.YtemlaliackblkaaDoorLedRefRead
import Derived.Test.YtemlaliackblkaaDoorLedRefValid
import Derived.Test.YtemlaliackblkaaDoorLedHeld
import Derived.Deep.DeepCutAuto
import Derived.IntWalk
namespace Go.Proofs.YtemlaliackblkaaDoor
open Go.RowKit

theorem line_none {l : List UInt8} (h : l.findIdx? (fun c => c == 10) = none) : lineE l = 0 := by rw [lineE, h]
theorem line_some {l : List UInt8} {m : Nat} (h : l.findIdx? (fun c => c == 10) = some m) : lineE l = (m : Int) + 1 := by rw [lineE, h]
theorem entry_of_read {l : List UInt8} {x : LogD} {s : Int} {ok : Bool} {m : Nat} (h : l.findIdx? (fun c => c == 10) = some m) (hr : ReadIs (l.take m) x s ok) : EntryIs l x s ((m : Int) + 1) ok := by
  rw [EntryIs, h]; exact ⟨hr, fun _ => rfl⟩
/-- a byte behind the last blank of a line -/
theorem tail_byte {x : LogD} {s : Int} (hs : 0 ≤ s) {t : List UInt8} {e : Nat} {c : UInt8} (h : t = headE x ++ (Lib.itoa s ++ [10])) (he : (headE x).length < e) (hc : t[e - 1]? = some c) : c ≠ 32 := by
  rw [h, List.getElem?_append_right (by omega)] at hc
  have := List.mem_of_getElem? hc
  rcases List.mem_append.1 this with h1 | h1
  · exact itoa_plain hs 32 (by decide) c h1
  · rw [List.mem_singleton.1 h1]; decide
theorem head_byte {x : LogD} {s : Int} {t : List UInt8} (h : t = headE x ++ (Lib.itoa s ++ [10])) : t[(headE x).length - 1]? = some 32 := by
  obtain ⟨q, hq⟩ := head_last x
  rw [h, List.getElem?_append_left (by rw [hq]; simp), hq]
  simp
set_option maxRecDepth 100000 in
set_option maxHeartbeats 8000000 in
theorem refGood_any (A : Option Addr) (cap : Nat) (b : List UInt8) (hb : b.length ≤ 1048576) (w : World) (B : Nat) (hB : B ≤ w.heap.size) (hs : SlAt w B 1 byteCells ⟨A, cap, b⟩) :
    Calls Tryd.prog 25 #[.slice A b.length cap] w fun e w' => ∃ (v : Value) (at_ : Nat) (l : List LogD) (er : Int), e = .returned (.tuple #[v, .int .i64 at_, .int .i64 er]) ∧ Ends b at_ l er ∧ OwnSt 24 4 LogD.cells w v l w' := by
  obtain ⟨i0, hi, hz0, hz1, hz2⟩ := info_parts infoLog
  have hlc : b.length ≤ cap := hs.1
  have hlm : cap ≤ 9223372036854775807 := hs.2.1
  have HS := hide hs
  have HI := hide (And.intro hi (And.intro hz0 (And.intro hz1 hz2)))
  clear hs hi hz0 hz1 hz2
  go_enter Tryd.func25, Tryd.ntmps25
  go_wp2
  go_loopw [5, 6] (fun u v wr => ∃ (k : Nat) (L : List LogD), v = .int .i64 k ∧ k ≤ b.length ∧ Hid (Reach b k L) ∧ Hid (OwnSt 24 4 LogD.cells w u L wr)) (fun _ v _ => b.length - (intOf v).toNat)
  case atStart => exact ⟨0, [], rfl, Nat.zero_le _, hide Reach.start, hide (OwnSt.start _ _ _ (Below.refl _ _))⟩
  case round =>
    obtain ⟨k, L, rfl, hk, HR, HST⟩ := hrel
    by_cases hlt : k < b.length
    · obtain ⟨g, off, hA, hgB, hcell⟩ := HS.out.2.2 (show 0 < b.length by omega)
      simp only at hA
      subst hA
      have hw1 := HST.out.bel
      have hsr := HS.out.to (hw1.mono hB) (show B ≤ wr.heap.size by have := hw1.size; omega)
      have hsd := hsr.drop k (by omega)
      have hfr := fun W : World => slice_from (P := Tryd.prog) W 22 5 1 Tryd.underlying22 Tryd.sizeOf5 g off b.length cap k (by omega) (by omega)
      have hld : (b.drop k).length = b.length - k := List.length_drop
      have KL := Gives.first (refLine_any (some ⟨g, off + k * 1, none⟩) (cap - k) (b.drop k) wr wr.heap.size (Nat.le_refl _) hsd)
      rw [hld, Nat.mul_one] at KL
      have KL := hide KL
      obtain ⟨Lv, Lcap, rfl, hLn, hsu⟩ := HST.out.slAt2 logCells_len
      have HSU := hide (And.intro hLn hsu)
      have HW1 := hide hw1
      have hkk : (k : Int) < (b.length : Int) := by omega
      have hlog := log_short HR.out.ok
      have HCELL := hide hcell
      clear hcell hw1 hsr hsd hld hsu hLn
      rcases hf : (b.drop k).findIdx? (fun c => c == 10) with _ | m
      · have HF := hide (show Ends b k L 7 from ⟨HR.out, Or.inr ⟨hlt, by unfold stepE; rw [hf]⟩⟩)
        rw [line_none hf] at KL
        clear hf
        go_wp2_with fail
        refine KL.out.mono ?_
        rintro e w1 ⟨rfl, y, rfl⟩
        go_wp2
        go_returns
        exact ⟨_, _, _, _, rfl, HF.out, HST.out.more y.below⟩
      · rw [line_some hf] at KL
        have hmb : k + (m + 1) ≤ b.length := by have := (find10 hf).1; rw [List.length_drop] at this; omega
        have HFD := hide hf
        clear hf
        have hmk : ((m : Int) + 1 == 0) = false := by simp; omega
        go_wp2_with fail
        refine KL.out.mono ?_
        rintro e w1 ⟨rfl, y1, rfl⟩
        have hfr2 := fun W : World => slice_both (P := Tryd.prog) W 22 5 1 Tryd.underlying22 Tryd.sizeOf5 g off b.length cap k m ((k : Int) + ((m : Int) + 1) - 1) (by omega) (by omega) (by omega)
        obtain ⟨sb, hsb⟩ : ∃ sb : ByteArray, sb = ⟨((b.drop k).take m).toArray⟩ := ⟨_, rfl⟩
        have hlm0 : ((b.drop k).take m).length = m := by rw [List.length_take, List.length_drop]; omega
        have hsz : sb.size = m := by rw [hsb]; simp [ByteArray.size]; omega
        have hwy : Below w.heap.size w y1.val := HW1.out.trans (y1.below.mono HW1.out.size)
        have hcv := Lib.run_convert_whole (P := Tryd.prog) y1.val 22 5 9 Tryd.underlying22 Tryd.underlying5 Tryd.underlying9 g (off + k * 1) sb (by rw [hsb]; exact bytes_of (((HS.out.to (hwy.mono hB) (show B ≤ y1.val.heap.size by have := hwy.size; omega)).drop k (by omega)).take m)) (cap - k)
        rw [hsz] at hcv
        simp only [Nat.mul_one] at hcv hfr2
        have HBS := hide (show bs sb = (b.drop k).take m by rw [hsb]; exact bs_toArray _)
        have KRD := hide (refRead_any sb (by omega) y1.val)
        have HWY := hide hwy
        have hwr1 : IntKind.i64.wrap ((k : Int) + ((m : Int) + 1)) = (k : Int) + ((m : Int) + 1) := IntWalk.i64_in _ (by omega)
        clear hsb hwy hlm0
        go_wp2_with fail
        refine KRD.out.mono ?_
        rintro e w2 ⟨x, s, ok, rfl, hrd, hb2⟩
        rw [HBS.out] at hrd
        have HEN := hide (entry_of_read HFD.out hrd)
        obtain ⟨V, hV, hVs, hVb, hVh⟩ := boxed w2 (.cells #[.int .i64 x.day, .string x.rope, .int .i64 x.kind, .int .i64 x.runs] 24)
        have hcV := fun y : After V.heap.size V => LogD.boxed hVh (by omega) y
        have hrV : Below wr.heap.size wr V := y1.below.trans ((hb2.trans (hVb.mono hb2.size)).mono y1.below.size)
        have HRV := hide hrV
        have HWV := hide (HW1.out.trans (hrV.mono HW1.out.size) : Below w.heap.size w V)
        have HV := hide hV
        clear hrd hV hVs hVb hVh hb2 hcv hfr2 hwr1 hrV
        cases ok
        · have HF := hide (show Ends b k L 7 from ⟨HR.out, Or.inr ⟨hlt, step_no HEN.out⟩⟩)
          go_wp2_with fail
          rw [← HV.out]
          go_wp2
          go_returns
          exact ⟨_, _, _, _, rfl, HF.out, HST.out.more HRV.out⟩
        · obtain ⟨m2, hm2, hmb2, he, hline, hstep⟩ := step_yes (l := L) HEN.out (by omega)
          obtain rfl : m2 = m := by omega
          have hsh := entryE_shape he
          have HSTEP := hide hstep
          have hxs := hsh.2.1
          have hlm1 : ((b.drop k).take (m2 + 1)).length = m2 + 1 := by rw [List.length_take, List.length_drop]; omega
          have hhl : (headE x).length ≤ m2 := by
            have := congrArg List.length hline
            rw [hlm1, List.length_append, List.length_append, List.length_singleton] at this; omega
          have hhl0 : 0 < (headE x).length := by obtain ⟨t, ht⟩ := head_last x; rw [ht]; simp
          have hpre : b.take (k + (headE x).length) = b.take k ++ headE x := by
            rw [List.take_add]
            congr 1
            have h2 : (b.drop k).take (headE x).length = ((b.drop k).take (m2 + 1)).take (headE x).length := by rw [List.take_take, Nat.min_eq_left (by omega)]
            rw [h2, hline, List.take_left']
            rfl
          have hat : ∀ e, 0 < e → e ≤ m2 → b[k + e - 1]? = ((b.drop k).take (m2 + 1))[e - 1]? := fun e he0 he1 => by
            rw [List.getElem?_take_of_lt (by omega), List.getElem?_drop, show k + (e - 1) = k + e - 1 by omega]
          have HB1 := hide (fun (p : Nat) (c : UInt8) (h1 : k + (headE x).length < p + 1) (h2 : p + 1 ≤ k + m2) (hc : b[p]? = some c) => (tail_byte (t := (b.drop k).take (m2 + 1)) (e := p + 1 - k) hsh.2.2.1 hline (by omega) (by rw [← hat (p + 1 - k) (by omega) (by omega), show k + (p + 1 - k) - 1 = p by omega]; exact hc) : c ≠ 32))
          have HB2 := hide (show b[k + (headE x).length - 1]? = some 32 by rw [hat _ hhl0 hhl]; exact head_byte hline)
          obtain ⟨H, hH⟩ : ∃ H, H = (headE x).length := ⟨_, rfl⟩
          rw [← hH] at hhl hhl0 hpre HB1 HB2
          have HPRE := hide hpre
          have HXS := hide hxs
          clear hline hsh hstep he hH hpre hat hlm1 hxs hm2 hmb2
          go_wp2_with fail
          rw [← HV.out]
          go_loopw [11] (fun v wq => ∃ p : Nat, v = .int .i64 ((p : Int) + 1) ∧ k + H ≤ p + 1 ∧ p + 1 ≤ k + m2 ∧ ∃ y : After V.heap.size V, wq = y.val) (fun v _ => ((intOf v).toNat - (k + H)))
          case atStart => exact ⟨k + m2 - 1, congrArg (Value.int IntKind.i64) (by omega), by omega, by omega, After.refl _ _, rfl⟩
          case round =>
            obtain ⟨p, rfl, hp1, hp2, y, rfl⟩ := hrel
            have hpb : p < b.length := by omega
            have hx : b[p]? = some b[p] := List.getElem?_eq_getElem hpb
            have hby := byteElem (B := w.heap.size) hx (by omega) HCELL.out ⟨y.val, HWV.out.trans (y.below.mono HWV.out.size)⟩
            simp only at hby
            have hpi0 : (0 : Int) ≤ (p : Int) := by omega
            have hpi : (p : Int) < (b.length : Int) := by omega
            rcases (show p + 1 = k + H ∨ k + H < p + 1 by omega) with hpe | hpe
            · have hc32 : b[p] = 32 := by
                have h := HB2.out
                rw [show k + H - 1 = p by omega, hx] at h
                injection h
              have hq : ((b[p].toNat : Int) != 32) = false := by rw [hc32]; rfl
              have hto := fun W : World => slice_to (P := Tryd.prog) W 22 5 1 Tryd.underlying22 Tryd.sizeOf5 (some ⟨g, off, none⟩) b.length cap (p + 1) (by omega)
              have hpl : (b.take (p + 1)).length = p + 1 := by rw [List.length_take]; omega
              have hyw : Below w.heap.size w y.val := HWV.out.trans (y.below.mono HWV.out.size)
              have KS0 := Gives.after (x := y) (Nat.le_refl _) (refSum_any (some ⟨g, off, none⟩) cap (b.take (p + 1)) y.val y.val.heap.size (Nat.le_refl _) ((HS.out.to (hyw.mono hB) (show B ≤ y.val.heap.size by have := hyw.size; omega)).take (p + 1)))
              rw [hpl, hpe, HPRE.out] at KS0
              rw [show ((k + H : Nat) : Nat) = p + 1 by omega] at KS0
              have KS := hide KS0
              obtain ⟨SV, hSV⟩ : ∃ SV : Int, SV = (sumE (b.take k ++ headE x) : Int) := ⟨_, rfl⟩
              rw [← hSV] at KS HSTEP
              have HSTEP2 := hide HSTEP.out
              push_cast at hto
              clear hc32 hx hpl hyw hSV HSTEP KS0 hpe
              go_wp2_with fail
              refine KS.out.mono ?_
              rintro e w3 ⟨rfl, y3, rfl⟩
              by_cases hsum : SV = s
              · have hqs : (SV != s) = false := by simp [hsum]
                obtain ⟨lg, hlg⟩ : ∃ lg, lg = logOk (L ++ [x]) := ⟨_, rfl⟩
                have HF := hide (show stepE b k L = if lg = true then .next x (m2 + 1) else .stop 1 by rw [HSTEP2.out, if_pos hsum, hlg])
                have hcz := hcV y3
                clear hsum HSTEP2
                have HSY := hide (fun (u : World) (hu : Below V.heap.size V u) => (⟨wr.heap.size, HSU.out.2.below (HRV.out.trans (hu.mono HRV.out.size))⟩ : ∃ B, SlAt u B 4 LogD.cells ⟨Lv, Lcap, L⟩))
                have HO3 := hide (show ((y3.val.alloc (.cells #[.int .i64 x.day, .string x.rope, .int .i64 x.kind, .int .i64 x.runs] 24)).alloc (.cells #[] 24)).drew.ownsRow V.heap.size 24 4 (.slice (some ⟨y3.val.heap.size + 1, 0, none⟩) 0 0) 0 [] by
                  have h := World.ownsRow_made (base := V.heap.size) (e := 24) (size := 4) (y3.val.alloc (.cells #[.int .i64 x.day, .string x.rope, .int .i64 x.kind, .int .i64 x.runs] 24)) #[] 0 (by have := y3.size; simp; omega) (Nat.zero_le _) rfl
                  rw [show (y3.val.alloc (.cells #[.int .i64 x.day, .string x.rope, .int .i64 x.kind, .int .i64 x.runs] 24)).heap.size = y3.val.heap.size + 1 by simp] at h
                  exact h.drew)
                go_upto_region 15 with fail
                go_cut [12] (fun u wx => Hid (OwnSt 24 4 LogD.cells V u (L ++ [x]) wx))
                case first =>
                  go_region_held3 (fun w' => w'.cell? ⟨w2.heap.size, 0, none⟩ = some (.int .i64 x.day) ∧ w'.cell? ⟨w2.heap.size, 0 + 1, none⟩ = some (.string x.rope) ∧ w'.cell? ⟨w2.heap.size, 0 + 2, none⟩ = some (.int .i64 x.kind) ∧ w'.cell? ⟨w2.heap.size, 0 + 3, none⟩ = some (.int .i64 x.runs))
                    (first | exact hcV ⟨_, y3.below.drew⟩ | exact hcV ⟨_, ((y3.below.alloc y3.size _).drew)⟩ | exact hcV ⟨_, (((y3.below.alloc y3.size _).alloc (by have := y3.size; simp; omega) _).drew)⟩ | exact hcV ⟨_, hst6.bel⟩ | exact hcV ⟨_, hst5.bel⟩ | exact hcV ⟨_, hst5.bel.alloc hst5.bel.size _⟩)
                    (first
                      | (refine step_sl (cells := LogD.cells) (size := 4) _ (by rfl) (.tmp 62) (.tmp 63) 34 (by rfl) V.heap.size 24 i0 _ 40 Tryd.underlying34 HI.out.1 HI.out.2.1 HI.out.2.2.1 HI.out.2.2.2 rfl (by omega) _ 0 [] (by rfl) ((World.ownsRow_made y3.val #[] 0 y3.size (Nat.zero_le _) rfl).drew) Lv Lcap L HSU.out.1 logCells_len (HSY.out _ ((y3.below.alloc y3.size _).drew)) (by rfl) (log_one L) (by unfold maxLen; omega) (by omega) (by have := y3.size; simp; omega) ?_; intro v5 w5 hown5 hgr5; have hst5 := OwnSt.append (ls := L) (show OwnSt 24 4 LogD.cells V _ [] _ from ⟨(World.ownsRow_made y3.val #[] 0 y3.size (Nat.zero_le _) rfl).drew, ((y3.below.alloc y3.size _).drew)⟩) (Below.refl _ _) hown5 hgr5; rw [List.nil_append] at hst5)
                      | (refine step_sl (cells := LogD.cells) (size := 4) _ (by rfl) (.tmp 62) (.tmp 63) 34 (by rfl) V.heap.size 24 i0 _ 40 Tryd.underlying34 HI.out.1 HI.out.2.1 HI.out.2.2.1 HI.out.2.2.2 rfl (by omega) _ 0 [] (by rfl) (((World.ownsRow_made y3.val #[] 0 y3.size (Nat.zero_le _) rfl).alloc _).drew) Lv Lcap L HSU.out.1 logCells_len (HSY.out _ (((y3.below.alloc y3.size _).alloc (by have := y3.size; simp; omega) _).drew)) (by rfl) (log_one L) (by unfold maxLen; omega) (by omega) (by have := y3.size; simp; omega) ?_; intro v5 w5 hown5 hgr5; have hst5 := OwnSt.append (ls := L) (show OwnSt 24 4 LogD.cells V _ [] _ from ⟨((World.ownsRow_made y3.val #[] 0 y3.size (Nat.zero_le _) rfl).alloc _).drew, (((y3.below.alloc y3.size _).alloc (by have := y3.size; simp; omega) _).drew)⟩) (Below.refl _ _) hown5 hgr5; rw [List.nil_append] at hst5; have hxb := grown_block (k := y3.val.heap.size + 1) (o := (.cells #[.int .i64 x.day, .string x.rope, .int .i64 x.kind, .int .i64 x.runs] 24)) (g := y3.val.heap.size) hgr5 (by have h := heap_alloc_new (y3.val.alloc (.cells #[] 24)) (.cells #[.int .i64 x.day, .string x.rope, .int .i64 x.kind, .int .i64 x.runs] 24); rw [show (y3.val.alloc (.cells #[] 24)).heap.size = y3.val.heap.size + 1 by simp] at h; exact h) rfl (by omega))
                      | (refine step_sl (cells := LogD.cells) (size := 4) _ (by rfl) (.tmp 62) (.tmp 63) 34 (by rfl) V.heap.size 24 i0 _ 40 Tryd.underlying34 HI.out.1 HI.out.2.1 HI.out.2.2.1 HI.out.2.2.2 rfl (by omega) (.slice (some ⟨y3.val.heap.size + 1, 0, none⟩) 0 0) 0 [] (by rfl) (HO3.out) Lv Lcap L HSU.out.1 logCells_len (HSY.out _ (((y3.below.alloc y3.size _).alloc (by have := y3.size; simp; omega) _).drew)) (by rfl) (log_one L) (by unfold maxLen; omega) (by omega) (by have := y3.size; simp; omega) ?_; intro v5 w5 hown5 hgr5; have hst5 := OwnSt.append (ls := L) (show OwnSt 24 4 LogD.cells V (.slice (some ⟨y3.val.heap.size + 1, 0, none⟩) 0 0) [] _ from ⟨HO3.out, (((y3.below.alloc y3.size _).alloc (by have := y3.size; simp; omega) _).drew)⟩) (Below.refl _ _) hown5 hgr5; rw [List.nil_append] at hst5; have hxb := grown_block (k := y3.val.heap.size) (o := (.cells #[.int .i64 x.day, .string x.rope, .int .i64 x.kind, .int .i64 x.runs] 24)) (g := y3.val.heap.size + 1) hgr5 (by have h := heap_alloc_new y3.val (.cells #[.int .i64 x.day, .string x.rope, .int .i64 x.kind, .int .i64 x.runs] 24); exact (Lib.alloc_old _ _ _ (by simp)).trans h) (by simp [Value.ownBlock]) (by omega))
                      | (refine step_append_lies _ (by rfl) (.tmp 64) (.tmp 66) 34 (by rfl) V.heap.size 24 i0 _ 4 40 Tryd.underlying34 HI.out.1 HI.out.2.1 HI.out.2.2.1 HI.out.2.2.2 rfl (by omega) v5 L.length (L.flatMap LogD.cells) (by rfl) (hst5.own.alloc _) ⟨w5.heap.size, 0, none⟩ 1 1 x.cells (by rfl) rfl (World.news_of_block (cs := #[.int .i64 x.day, .string x.rope, .int .i64 x.kind, .int .i64 x.runs]) (t := 24) (fr := (0, 0)) (heap_alloc_new w5 _)) (fun u hu => log_one [x] u (by simpa using hu)) (by omega) (by unfold maxLen; omega) (by omega) (by have := hst5.bel.size; first | omega | (simp; omega)) _ rfl ?_; intro g6 cap6 w6 hown6 hgr6 hg6 hlt6; have hst6 := OwnSt.append (ls := [x]) hst5 ((Below.refl _ _).alloc (Nat.le_refl _) _) (by simpa using hown6) hgr6)
                      | (refine step_append_lies _ (by rfl) (.tmp 64) (.tmp 66) 34 (by rfl) V.heap.size 24 i0 _ 4 40 Tryd.underlying34 HI.out.1 HI.out.2.1 HI.out.2.2.1 HI.out.2.2.2 rfl (by omega) v5 L.length (L.flatMap LogD.cells) (by rfl) (hst5.own) ⟨y3.val.heap.size + 1, 0, none⟩ 1 1 x.cells (by rfl) rfl (World.news_of_block (cs := #[.int .i64 x.day, .string x.rope, .int .i64 x.kind, .int .i64 x.runs]) (t := 24) (fr := (0, 0)) (hxb)) (fun u hu => log_one [x] u (by simpa using hu)) (by omega) (by unfold maxLen; omega) (by omega) (by have := hst5.bel.size; first | omega | (simp; omega)) _ rfl ?_; intro g6 cap6 w6 hown6 hgr6 hg6 hlt6; have hst6 := OwnSt.append (ls := [x]) hst5 (Below.refl _ _) (by simpa using hown6) hgr6)
                      | (refine step_append_lies _ (by rfl) (.tmp 64) (.tmp 66) 34 (by rfl) V.heap.size 24 i0 _ 4 40 Tryd.underlying34 HI.out.1 HI.out.2.1 HI.out.2.2.1 HI.out.2.2.2 rfl (by omega) v5 L.length (L.flatMap LogD.cells) (by rfl) (hst5.own) ⟨y3.val.heap.size, 0, none⟩ 1 1 x.cells (by rfl) rfl (World.news_of_block (cs := #[.int .i64 x.day, .string x.rope, .int .i64 x.kind, .int .i64 x.runs]) (t := 24) (fr := (0, 0)) (hxb)) (fun u hu => log_one [x] u (by simpa using hu)) (by omega) (by unfold maxLen; omega) (by omega) (by have := hst5.bel.size; first | omega | (simp; omega)) _ rfl ?_; intro g6 cap6 w6 hown6 hgr6 hg6 hlt6; have hst6 := OwnSt.append (ls := [x]) hst5 (Below.refl _ _) (by simpa using hown6) hgr6)
                      | fail)
                  all_goals
                    go_wp2_with fail
                    go_meet
                    exact hide hst6
                case rest =>
                  have hVw := HWV.out
                  have HC := hide (hcut.out.from hVw)
                  have HZ := hide (HST.out.more (HRV.out.trans (hcut.out.bel.mono HRV.out.size)))
                  have hall : ∀ y ∈ L ++ [x], y.ok := fun y hy => by
                    rcases List.mem_append.1 hy with h | h
                    · exact ok_of_log HR.out.ok y h
                    · rw [List.mem_singleton.1 h]; exact ok_of_small HXS.out
                  obtain ⟨Ml, hMl⟩ : ∃ Ml, Ml = L ++ [x] := ⟨_, rfl⟩
                  rw [← hMl] at HC hall hlg
                  obtain ⟨A5, cap5, rfl, hs5⟩ := HC.out.slAt logCells_len
                  have KV0 := Gives.first (refValidL_any A5 cap5 Ml hall wc wc.heap.size (Nat.le_refl _) hs5)
                  rw [← hlg] at KV0
                  have KV := hide KV0
                  have HML := hide hMl
                  clear KV0 hs5 hall hVw hcut hMl hlg hcV hcz KS hto
                  go_wp2_with fail
                  refine KV.out.mono ?_
                  rintro e w7 ⟨rfl, y7, rfl⟩
                  have HC7 := hide (HC.out.more y7.below)
                  have HZ7 := hide (HZ.out.more y7.below)
                  cases lg
                  · have HE := hide (show Ends b k L 1 from ⟨HR.out, Or.inr ⟨hlt, by rw [HF.out]; rfl⟩⟩)
                    go_wp2
                    go_returns
                    exact ⟨_, _, _, _, rfl, HE.out, HZ7.out⟩
                  · have HN := hide (show Reach b (k + (m2 + 1)) Ml by rw [HML.out]; exact Reach.next HR.out hlt (by rw [HF.out]; rfl))
                    go_wp2
                    exact ⟨⟨k + (m2 + 1), Ml, by go_num, by omega, HN, HC7⟩, by simp [intOf]; omega⟩
              · have hqs : (SV != s) = true := by simpa using hsum
                have HF := hide (show Ends b k L 18 from ⟨HR.out, Or.inr ⟨hlt, by rw [HSTEP2.out, if_neg hsum]⟩⟩)
                have HZ := hide (HST.out.more (HRV.out.trans (y3.below.mono HRV.out.size)))
                clear hsum HSTEP2
                go_wp2
                go_returns
                exact ⟨_, _, _, _, rfl, HF.out, HZ.out⟩
            · have hne := HB1.out p b[p] hpe (by omega) hx
              have hq : ((b[p].toNat : Int) != 32) = true := by
                rw [bne_iff_ne]
                intro e
                exact hne (UInt8.toNat_inj.1 (by have : b[p].toNat = 32 := by omega
                                                 rw [this]; rfl))
              clear hne hx
              obtain ⟨q, rfl⟩ : ∃ q, p = q + 1 := ⟨p - 1, by omega⟩
              go_wp2
              exact ⟨⟨q, by go_num, by omega, by omega, _, rfl⟩, by simp [intOf]; omega⟩
    · have hkl : k = b.length := by omega
      have HE := hide (show Ends b k L 0 from ⟨HR.out, Or.inl ⟨hkl, rfl⟩⟩)
      subst hkl
      go_wp2
      go_returns
      exact ⟨_, _, _, _, rfl, HE.out, HST.out⟩
end Go.Proofs.YtemlaliackblkaaDoor
