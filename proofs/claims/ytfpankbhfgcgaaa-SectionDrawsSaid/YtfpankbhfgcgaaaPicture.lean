/- loftblockref33.Picture: what a cell of the reference's plan shows. -/
import Derived.Test.YtfpankbhfgcgaaaRefPic
namespace Go.Proofs.Ytfpankbhfgcgaaa
open Go.RowKit

structure Drawable (s : SetD) : Prop where
  d0 : 0 ≤ s.depth
  d1 : s.depth ≤ 1048576
  lines : ∀ p ∈ s.lines.l, 0 ≤ p ∧ p ≤ 1048576
  placed : Placed s
def picFrom (scale r c : Int) : Nat → List SetD → Nat
  | b, [] => b
  | b, s :: l => if s.lines.l.any (seenLine s.depth scale r c) then 3 else if s.items.l.any (seenItem s.depth scale r c) then picFrom scale r c 2 l else if b = 0 ∧ seenPipe s scale r c = true then picFrom scale r c 1 l else picFrom scale r c b l
def glyph : Nat → ByteArray
  | 0 => ⟨#[46]⟩
  | 1 => ⟨#[45]⟩
  | 2 => ⟨#[35]⟩
  | _ => ⟨#[111]⟩
theorem picFrom_drop {scale r c : Int} {b k : Nat} {l : List SetD} {s : SetD} (h : l[k]? = some s) : picFrom scale r c b (l.drop k) = if s.lines.l.any (seenLine s.depth scale r c) then 3 else if s.items.l.any (seenItem s.depth scale r c) then picFrom scale r c 2 (l.drop (k + 1)) else if b = 0 ∧ seenPipe s scale r c = true then picFrom scale r c 1 (l.drop (k + 1)) else picFrom scale r c b (l.drop (k + 1)) := by
  obtain ⟨hk, e⟩ := List.getElem?_eq_some_iff.1 h
  rw [List.drop_eq_getElem_cons hk, e, picFrom]
set_option maxHeartbeats 2000000 in
theorem picture_any (h : HouseD) (hz : ∀ s ∈ h.sets.l, Drawable s) (scale r c : Int) (hs1 : 1 ≤ scale) (hs2 : scale ≤ 1048576) (hc1 : 0 ≤ c) (hc2 : c ≤ 1048576) (w : World) (B : Nat) (hB : B ≤ w.heap.size) (hat : HouseD.at_ w B h) :
    Calls Try.prog 37 #[.agg #[.string h.name, .int .i64 h.height, .slice h.sets.A h.sets.l.length h.sets.cap, .slice h.roofs.A h.roofs.l.length h.roofs.cap], .int .i64 scale, .int .i64 r, .int .i64 c] w (Gives w (.string (glyph (picFrom scale r c 0 h.sets.l)))) := by
  obtain ⟨W, hW, hWs, hWb, hWh⟩ := boxed w (.cells #[.string h.name, .int .i64 h.height, .slice h.sets.A h.sets.l.length h.sets.cap, .slice h.roofs.A h.roofs.l.length h.roofs.cap] 25)
  have hc := fun y : After W.heap.size W => HouseD.boxed hWh (by omega) y
  have hbd : ∀ y : After W.heap.size W, Below w.heap.size w y.val := fun y => hWb.trans (y.below.mono (by omega))
  have hatW : HouseD.at_ W W.heap.size h := hat.to (hWb.mono hB) (by omega)
  have k1 : ∀ s ∈ h.sets.l, ∀ v : World, Below W.heap.size W v → Calls Try.prog 58 #[.agg #[.string s.name, .int .i64 s.depth, .int .i64 s.low, .int .i64 s.high, .int .i64 s.length, .slice s.lines.A s.lines.l.length s.lines.cap, .int .i64 s.pipe, .int .i64 s.arbor, .int .i64 s.purchase, .int .i64 s.most, .int .i64 s.brake, .slice s.items.A s.items.l.length s.items.cap, .slice s.bricks.A s.bricks.l.length s.bricks.cap], .int .i64 scale, .int .i64 r, .int .i64 c] v (Gives v (.bool (s.lines.l.any (seenLine s.depth scale r c)))) := fun s hs v hv =>
    refLine_any s (hz s hs).lines (hz s hs).d0 (hz s hs).d1 scale r c hs1 hs2 v W.heap.size hv.size ((hatW.each s hs).to hv (Nat.le_refl _))
  have k2 : ∀ s ∈ h.sets.l, ∀ v : World, Below W.heap.size W v → Calls Try.prog 59 #[.agg #[.string s.name, .int .i64 s.depth, .int .i64 s.low, .int .i64 s.high, .int .i64 s.length, .slice s.lines.A s.lines.l.length s.lines.cap, .int .i64 s.pipe, .int .i64 s.arbor, .int .i64 s.purchase, .int .i64 s.most, .int .i64 s.brake, .slice s.items.A s.items.l.length s.items.cap, .slice s.bricks.A s.bricks.l.length s.bricks.cap], .int .i64 scale, .int .i64 r, .int .i64 c] v (Gives v (.bool (s.items.l.any (seenItem s.depth scale r c)))) := fun s hs v hv =>
    refItem_any s (hz s hs).placed (hz s hs).d0 (hz s hs).d1 scale r c hs1 hs2 hc1 hc2 v W.heap.size hv.size ((hatW.each s hs).to hv (Nat.le_refl _))
  have k3 : ∀ s ∈ h.sets.l, ∀ v : World, Calls Try.prog 60 #[.agg #[.string s.name, .int .i64 s.depth, .int .i64 s.low, .int .i64 s.high, .int .i64 s.length, .slice s.lines.A s.lines.l.length s.lines.cap, .int .i64 s.pipe, .int .i64 s.arbor, .int .i64 s.purchase, .int .i64 s.most, .int .i64 s.brake, .slice s.items.A s.items.l.length s.items.cap, .slice s.bricks.A s.bricks.l.length s.bricks.cap], .int .i64 scale, .int .i64 r, .int .i64 c] v (Gives v (.bool (seenPipe s scale r c))) := fun s hs v =>
    refPipe_any s (hz s hs).d0 (hz s hs).d1 scale r c hs1 hs2 hc1 hc2 v
  have hlc : h.sets.l.length ≤ h.sets.cap := hat.sets.1
  have hm : h.sets.cap ≤ 9223372036854775807 := hat.sets.2.1
  have HSL := hide hatW.sets
  have K1 := hide k1
  have K2 := hide k2
  have K3 := hide k3
  have HW := hide hW
  have HBD := hide hbd
  clear hW hWs hWh hWb hbd hat hatW k1 k2 k3 hz
  obtain ⟨name, height, ⟨A, cap, l⟩, roofs⟩ := h
  simp only at *
  go_enter Try.func37, Try.ntmps37
  go_wp2
  rw [← HW.out]
  go_loopw [9, 10, 11] (fun q v u wr => ∃ k b : Nat, v = .int .i64 k ∧ k ≤ l.length ∧ b ≤ 2 ∧ q = .string (glyph b) ∧ Hid (picFrom scale r c 0 l = picFrom scale r c b (l.drop k)) ∧ ∃ x : After W.heap.size W, wr = x.val) (fun _ v _ _ => l.length - (intOf v).toNat)
  case atStart => exact ⟨0, 0, rfl, Nat.zero_le _, Nat.zero_le _, rfl, rfl, After.refl _ _, rfl⟩
  case round =>
    obtain ⟨k, g, rfl, hk, hg, rfl, hall, x, rfl⟩ := hrel
    by_cases hlt : k < l.length
    · obtain ⟨b, off, hA, hb, hcell⟩ := HSL.out.2.2 (show 0 < l.length by omega)
      simp only at hA
      subst hA
      have hx : l[k]? = some l[k] := List.getElem?_eq_getElem hlt
      have he := fun x : After W.heap.size W => SetD.elem hx hb hcell x
      have HM := hide (List.getElem_mem hlt)
      have HN := hide (hall.out.trans (picFrom_drop hx))
      clear hcell hx
      obtain ⟨W', hW', hWs', hWb', hWh'⟩ := boxed x.val (.cells #[.string l[k].name, .int .i64 l[k].depth, .int .i64 l[k].low, .int .i64 l[k].high, .int .i64 l[k].length, .slice l[k].lines.A l[k].lines.l.length l[k].lines.cap, .int .i64 l[k].pipe, .int .i64 l[k].arbor, .int .i64 l[k].purchase, .int .i64 l[k].most, .int .i64 l[k].brake, .slice l[k].items.A l[k].items.l.length l[k].items.cap, .slice l[k].bricks.A l[k].bricks.l.length l[k].bricks.cap] 51)
      have hcS := fun y : After W'.heap.size W' => SetD.boxed hWh' (by omega) y
      have hb2 : ∀ y : After W'.heap.size W', Below W.heap.size W y.val := fun y => x.below.trans ((hWb'.mono x.size).trans (y.below.mono (by have := x.size; omega)))
      have HW' := hide hW'
      have HB2 := hide hb2
      clear hW' hWs' hWh' hWb' hb2
      cases e1 : l[k].lines.l.any (seenLine l[k].depth scale r c)
      · cases e2 : l[k].items.l.any (seenItem l[k].depth scale r c)
        · obtain rfl | rfl | rfl : g = 0 ∨ g = 1 ∨ g = 2 := by omega
          · cases e3 : seenPipe l[k] scale r c
            · have HN' := hide (HN.out.trans (by simp [e1, e2, e3]) : picFrom scale r c 0 l = picFrom scale r c 0 (l.drop (k + 1)))
              have eg : glyph 0 = ⟨#[46]⟩ := rfl
              rw [eg]
              go_wp2_with (first
                | (go_at_call 58; rw [← HW'.out]; refine (Gives.first (K1.out l[k] HM.out W' (HB2.out (After.refl _ W')))).mono ?_; rintro e w' ⟨rfl, y, rfl⟩)
                | (go_at_call 59; refine (Gives.after (Nat.le_refl _) (K2.out l[k] HM.out _ (HB2.out _))).mono ?_; rintro e w' ⟨rfl, y, rfl⟩)
                | (go_at_call 60; refine (Gives.after (Nat.le_refl _) (K3.out l[k] HM.out _)).mono ?_; rintro e w' ⟨rfl, y, rfl⟩))
              exact ⟨⟨k + 1, 0, by go_num, by omega, by omega, rfl, HN'.out, After.exists_iff (HB2.out _)⟩, by simp [intOf]; omega⟩
            · have HN' := hide (HN.out.trans (by simp [e1, e2, e3]) : picFrom scale r c 0 l = picFrom scale r c 1 (l.drop (k + 1)))
              have eg : glyph 0 = ⟨#[46]⟩ := rfl
              rw [eg]
              go_wp2_with (first
                | (go_at_call 58; rw [← HW'.out]; refine (Gives.first (K1.out l[k] HM.out W' (HB2.out (After.refl _ W')))).mono ?_; rintro e w' ⟨rfl, y, rfl⟩)
                | (go_at_call 59; refine (Gives.after (Nat.le_refl _) (K2.out l[k] HM.out _ (HB2.out _))).mono ?_; rintro e w' ⟨rfl, y, rfl⟩)
                | (go_at_call 60; refine (Gives.after (Nat.le_refl _) (K3.out l[k] HM.out _)).mono ?_; rintro e w' ⟨rfl, y, rfl⟩))
              exact ⟨⟨k + 1, 1, by go_num, by omega, by omega, rfl, HN'.out, After.exists_iff (HB2.out _)⟩, by simp [intOf]; omega⟩
          · have HN' := hide (HN.out.trans (by simp [e1, e2]) : picFrom scale r c 0 l = picFrom scale r c 1 (l.drop (k + 1)))
            have eg : glyph 1 = ⟨#[45]⟩ := rfl
            rw [eg]
            go_wp2_with (first
              | (go_at_call 58; rw [← HW'.out]; refine (Gives.first (K1.out l[k] HM.out W' (HB2.out (After.refl _ W')))).mono ?_; rintro e w' ⟨rfl, y, rfl⟩)
              | (go_at_call 59; refine (Gives.after (Nat.le_refl _) (K2.out l[k] HM.out _ (HB2.out _))).mono ?_; rintro e w' ⟨rfl, y, rfl⟩)
              | (go_at_call 60; refine (Gives.after (Nat.le_refl _) (K3.out l[k] HM.out _)).mono ?_; rintro e w' ⟨rfl, y, rfl⟩))
            exact ⟨⟨k + 1, 1, by go_num, by omega, by omega, rfl, HN'.out, After.exists_iff (HB2.out _)⟩, by simp [intOf]; omega⟩
          · have HN' := hide (HN.out.trans (by simp [e1, e2]) : picFrom scale r c 0 l = picFrom scale r c 2 (l.drop (k + 1)))
            have eg : glyph 2 = ⟨#[35]⟩ := rfl
            rw [eg]
            go_wp2_with (first
              | (go_at_call 58; rw [← HW'.out]; refine (Gives.first (K1.out l[k] HM.out W' (HB2.out (After.refl _ W')))).mono ?_; rintro e w' ⟨rfl, y, rfl⟩)
              | (go_at_call 59; refine (Gives.after (Nat.le_refl _) (K2.out l[k] HM.out _ (HB2.out _))).mono ?_; rintro e w' ⟨rfl, y, rfl⟩)
              | (go_at_call 60; refine (Gives.after (Nat.le_refl _) (K3.out l[k] HM.out _)).mono ?_; rintro e w' ⟨rfl, y, rfl⟩))
            exact ⟨⟨k + 1, 2, by go_num, by omega, by omega, rfl, HN'.out, After.exists_iff (HB2.out _)⟩, by simp [intOf]; omega⟩
        · obtain ⟨q, hq⟩ : ∃ q, q = glyph g := ⟨_, rfl⟩
          rw [← hq]
          have HN' := hide (HN.out.trans (by simp [e1, e2]) : picFrom scale r c 0 l = picFrom scale r c 2 (l.drop (k + 1)))
          clear hq
          go_wp2_with (first
            | (go_at_call 58; rw [← HW'.out]; refine (Gives.first (K1.out l[k] HM.out W' (HB2.out (After.refl _ W')))).mono ?_; rintro e w' ⟨rfl, y, rfl⟩)
            | (go_at_call 59; refine (Gives.after (Nat.le_refl _) (K2.out l[k] HM.out _ (HB2.out _))).mono ?_; rintro e w' ⟨rfl, y, rfl⟩)
            | (go_at_call 60; refine (Gives.after (Nat.le_refl _) (K3.out l[k] HM.out _)).mono ?_; rintro e w' ⟨rfl, y, rfl⟩))
          exact ⟨⟨k + 1, 2, by go_num, by omega, by omega, rfl, HN'.out, After.exists_iff (HB2.out _)⟩, by simp [intOf]; omega⟩
      · have HN' := hide (HN.out.trans (by simp [e1]) : picFrom scale r c 0 l = 3)
        obtain ⟨q, hq⟩ : ∃ q, q = glyph g := ⟨_, rfl⟩
        rw [← hq]
        clear hq
        go_wp2_with (first
          | (go_at_call 58; rw [← HW'.out]; refine (Gives.first (K1.out l[k] HM.out W' (HB2.out (After.refl _ W')))).mono ?_; rintro e w' ⟨rfl, y, rfl⟩)
          | (go_at_call 59; refine (Gives.after (Nat.le_refl _) (K2.out l[k] HM.out _ (HB2.out _))).mono ?_; rintro e w' ⟨rfl, y, rfl⟩)
          | (go_at_call 60; refine (Gives.after (Nat.le_refl _) (K3.out l[k] HM.out _)).mono ?_; rintro e w' ⟨rfl, y, rfl⟩))
        go_ret
        exact Gives.mk (by rw [HN'.out]; rfl) (HBD.out ⟨_, HB2.out _⟩)
    · obtain rfl : k = l.length := by omega
      go_wp2
      go_ret
      exact Gives.mk (by rw [hall.out]; simp [picFrom]) (HBD.out _)
end Go.Proofs.Ytfpankbhfgcgaaa
