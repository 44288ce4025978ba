/- gridplan.At: the name of the first set whose pipe covers a cell, or the error number; loftblocklaw33.awake. -/
import Derived.Test.YtliehhnnfpkciaaGreatDoorPlanEx
import Derived.Test.YtliehhnnfpkciaaGreatDoorRefPic
namespace Go.Proofs.YtliehhnnfpkciaaGreatDoor
open Go.RowKit

def atE (l : List SetD) (scale r c : Int) : Value := match l.find? (fun s => seenPipe s scale r c) with
  | some s => .tuple #[.string s.name, .int .i64 0]
  | none => .tuple #[.string ⟨#[]⟩, .int .i64 12]
theorem find_some {α : Type} {p : α → Bool} : ∀ {l : List α} {k : Nat} {x : α}, l[k]? = some x → p x = true → (∀ j y, j < k → l[j]? = some y → p y = false) → l.find? p = some x
  | y :: l, 0, x, h, hp, _ => by simp at h; subst h; simp [hp]
  | y :: l, k + 1, x, h, hp, hn => by
    rw [List.find?_cons_of_neg (by rw [hn 0 y (by omega) rfl]; simp)]
    exact find_some (k := k) (by simpa using h) hp fun j z hj hz => hn (j + 1) z (by omega) (by simpa using hz)
theorem find_none {α : Type} {p : α → Bool} {l : List α} (hn : ∀ j y, j < l.length → l[j]? = some y → p y = false) : l.find? p = none := by
  rw [List.find?_eq_none]
  intro x hx
  obtain ⟨j, hj, e⟩ := List.getElem_of_mem hx
  rw [hn j x hj (by rw [List.getElem?_eq_getElem hj, e])]
  simp
set_option maxHeartbeats 2000000 in
theorem at_good (h : HouseD) (hok : h.ok) (scale r c : Int) (h0 : givenE h scale = 0) (hr0 : 0 ≤ r) (hr1 : r < rowsTo h.sets.l scale) (hc0 : 0 ≤ c) (hc1 : c < colsTo h.sets.l scale) (hc2 : c ≤ 1048576) (w : World) (B : Nat) (hB : B ≤ w.heap.size) (hat : HouseD.at_ w B h) :
    Calls Tryz.prog 13 #[.agg #[.string h.name, .int .i64 h.height, .slice h.sets.A h.sets.l.length h.sets.cap, .slice h.roofs.A h.roofs.l.length h.roofs.cap], .int .i64 scale, .int .i64 r, .int .i64 c] w (Gives w (atE h.sets.l scale r c)) := by
  obtain ⟨hh, hs1, hs2⟩ := givenE_zero h0
  have hz := sized_of_ok hh
  obtain ⟨W, hW, hWs, hWb, hWh⟩ := boxed w (.cells #[.string h.name, .int .i64 h.height, .slice h.sets.A h.sets.l.length h.sets.cap, .slice h.roofs.A h.roofs.l.length h.roofs.cap] 25)
  have hc := fun y : After W.heap.size W => HouseD.boxed hWh (by omega) y
  have hbd : ∀ y : After W.heap.size W, Below w.heap.size w y.val := fun y => hWb.trans (y.below.mono (by omega))
  have hatW : HouseD.at_ W W.heap.size h := hat.to (hWb.mono hB) (by omega)
  have hg := given_any h hok scale W W.heap.size (Nat.le_refl _) hatW
  rw [h0] at hg
  have hsz : ∀ y : After W.heap.size W, Calls Tryz.prog 23 #[.agg #[.string h.name, .int .i64 h.height, .slice h.sets.A h.sets.l.length h.sets.cap, .slice h.roofs.A h.roofs.l.length h.roofs.cap], .int .i64 scale] y.val fun e w'' => e = .returned (.tuple #[.int .i64 (rowsTo h.sets.l scale), .int .i64 (colsTo h.sets.l scale)]) ∧ ∃ z : After W.heap.size W, w'' = z.val := fun y =>
    Gives.after (Nat.le_refl _) (size_any h hz scale hs1 hs2 y.val W.heap.size y.size (hatW.to y.below (Nat.le_refl _)))
  have m1 : 0 ≤ c * scale := Int.mul_nonneg hc0 (by omega)
  have m2 : c * scale ≤ 1048576 * 1048576 := Int.mul_le_mul hc2 hs2 (by omega) (by omega)
  have hlc : h.sets.l.length ≤ h.sets.cap := hat.sets.1
  have hm : h.sets.cap ≤ 9223372036854775807 := hat.sets.2.1
  have HSL := hide hatW.sets
  have HG := hide hg
  have HS := hide hsz
  have HZ := hide hz
  have HW := hide hW
  have HBD := hide hbd
  clear hW hWs hWh hWb hbd hat hatW hok hg hsz hz hh h0
  generalize rowsTo h.sets.l scale = R at *
  generalize colsTo h.sets.l scale = C at *
  obtain ⟨name, height, ⟨A, cap, l⟩, roofs⟩ := h
  simp only at *
  go_enter Tryz.func13, Tryz.ntmps13
  go_wp2_with (first
    | (go_at_call 22; rw [← HW.out]; refine (Gives.first HG.out).mono ?_; rintro e w' ⟨rfl, y, rfl⟩)
    | (go_at_call 23; refine (HS.out _).mono ?_; rintro e w' ⟨rfl, y, rfl⟩))
  go_loopw [14, 46] (fun _ v wr => ∃ k : Nat, v = .int .i64 k ∧ k ≤ l.length ∧ Hid (∀ j y, j < k → l[j]? = some y → seenPipe y scale r c = false) ∧ ∃ x : After W.heap.size W, wr = x.val) (fun _ v _ => l.length - (intOf v).toNat)
  case atStart => exact ⟨0, rfl, Nat.zero_le _, fun j y hj => absurd hj (by omega), _, rfl⟩
  case round =>
    obtain ⟨k, rfl, hk, hall, x, rfl⟩ := hrel
    by_cases hlt : k < l.length
    · obtain ⟨b, off, hA, hb, hcell⟩ := HSL.out.2.2 (show 0 < l.length by omega)
      simp only at hA
      subst hA
      have hx : l[k]? = some l[k] := List.getElem?_eq_getElem hlt
      have he := fun x : After W.heap.size W => SetD.elem hx hb hcell x
      obtain ⟨d0, d1, l0, l1⟩ := HZ.out l[k] (List.getElem_mem hlt)
      obtain ⟨q0, q1⟩ := quo_bound d0 d1 hs1
      have HX := hide hx
      clear hcell hx
      by_cases g1 : l[k].depth / scale = r
      · by_cases g2 : c * scale ≤ l[k].length
        · have hp := hide (show seenPipe l[k] scale r c = true by simp [seenPipe, g1, g2])
          go_wp2
          go_ret2
          exact Gives.mk (by rw [atE, find_some HX.out hp.out hall.out]; rfl) (HBD.out ⟨_, x.below.alloc x.size _⟩)
        · have hp := hide (show seenPipe l[k] scale r c = false by simp [seenPipe, g2])
          go_wp2
          exact ⟨⟨k + 1, by go_num, by omega, none_next hall.out HX.out hp.out, After.exists_iff (x.below.alloc x.size _)⟩, by simp [intOf]; omega⟩
      · have hp := hide (show seenPipe l[k] scale r c = false by simp [seenPipe, g1])
        go_wp2
        exact ⟨⟨k + 1, by go_num, by omega, none_next hall.out HX.out hp.out, After.exists_iff (x.below.alloc x.size _)⟩, by simp [intOf]; omega⟩
    · go_wp2
      go_ret2
      exact Gives.mk (by rw [atE, find_none fun j y hj hy => hall.out j y (by omega) hy]; rfl) (HBD.out _)
set_option maxHeartbeats 1000000 in
theorem awake33 (w : World) : Calls Tryz.prog 5 #[] w (Gives w (.bool true)) := by
  have k1 : ∀ v : World, Calls Tryz.prog 20 #[] v fun e w' => e = .returned (.agg #[.string (exLaw33 v.heap.size).name, .int .i64 (exLaw33 v.heap.size).height, .slice (exLaw33 v.heap.size).sets.A (exLaw33 v.heap.size).sets.l.length (exLaw33 v.heap.size).sets.cap, .slice (exLaw33 v.heap.size).roofs.A (exLaw33 v.heap.size).roofs.l.length (exLaw33 v.heap.size).roofs.cap]) ∧ Below v.heap.size v w' ∧ HouseD.at_ w' w'.heap.size (exLaw33 v.heap.size) := ex33_any
  have k2 : ∀ (n : Nat) (v : World), HouseD.at_ v v.heap.size (exLaw33 n) → Calls Tryz.prog 8 #[.agg #[.string (exLaw33 n).name, .int .i64 (exLaw33 n).height, .slice (exLaw33 n).sets.A (exLaw33 n).sets.l.length (exLaw33 n).sets.cap, .slice (exLaw33 n).roofs.A (exLaw33 n).roofs.l.length (exLaw33 n).roofs.cap], .int .i64 1000] v (Gives v (.tuple #[.string ⟨#[46, 46, 46, 46, 46, 10, 111, 35, 45, 45, 111, 10]⟩, .int .i64 0])) := fun n v hv => by
    have := draw_good (exLaw33 n) (exLaw33_ok n) 1000 (givenE_ok (exLaw33_house n) (by omega) (by omega)) 2 5 (by kernel_rfl) (by kernel_rfl) (by omega) (by omega) v v.heap.size (Nat.le_refl _) hv
    rw [exLaw33_text n] at this
    exact this
  have k3 : ∀ (n : Nat) (v : World), HouseD.at_ v v.heap.size (exLaw33 n) → Calls Tryz.prog 13 #[.agg #[.string (exLaw33 n).name, .int .i64 (exLaw33 n).height, .slice (exLaw33 n).sets.A (exLaw33 n).sets.l.length (exLaw33 n).sets.cap, .slice (exLaw33 n).roofs.A (exLaw33 n).roofs.l.length (exLaw33 n).roofs.cap], .int .i64 1000, .int .i64 1, .int .i64 4] v (Gives v (.tuple #[.string ⟨#[97]⟩, .int .i64 0])) := fun n v hv =>
    at_good (exLaw33 n) (exLaw33_ok n) 1000 1 4 (givenE_ok (exLaw33_house n) (by omega) (by omega)) (by omega) (by rw [show rowsTo (exLaw33 n).sets.l 1000 = 2 by kernel_rfl]; omega) (by omega) (by rw [show colsTo (exLaw33 n).sets.l 1000 = 5 by kernel_rfl]; omega) (by omega) v v.heap.size (Nat.le_refl _) hv
  go_enter Tryz.func5, Tryz.ntmps5
  go_wp2_with fail
  refine (k1 _).mono ?_
  rintro e w1 ⟨rfl, b1, a1⟩
  go_wp2_with fail
  refine (k2 _ _ a1).mono ?_
  rintro e w2 ⟨rfl, b2⟩
  go_wp2_with fail
  refine (k1 _).mono ?_
  rintro e w3 ⟨rfl, b3, a3⟩
  go_wp2_with fail
  refine (k3 _ _ a3).mono ?_
  rintro e w4 ⟨rfl, b4⟩
  have HB := hide (show Below w.heap.size w w4 from b1.trans ((b2.mono b1.size).trans ((b3.mono (Nat.le_trans b1.size b2.size)).trans (b4.mono (Nat.le_trans b1.size (Nat.le_trans b2.size b3.size))))))
  clear b1 b2 b3 b4 a1 a3 k1 k2 k3
  go_wp2
  go_ret
  exact Gives.mk (by rfl) HB.out
end Go.Proofs.YtliehhnnfpkciaaGreatDoor
