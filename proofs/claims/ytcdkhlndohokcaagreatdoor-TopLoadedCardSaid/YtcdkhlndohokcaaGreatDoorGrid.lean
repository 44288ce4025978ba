/- Beams of the building: grid.Valid and loftblockref19.Valid. -/
import Derived.Test.YtcdkhlndohokcaaGreatDoorFind
import Derived.Test.YtcdkhlndohokcaaGreatDoorNames
namespace Go.Proofs.YtcdkhlndohokcaaGreatDoor
open Go.RowKit

theorem SlAt.take {α : Type} {w : World} {B size : Nat} {cells : α → List Value} {A : Option Addr} {cap : Nat} {l : List α} (h : SlAt w B size cells ⟨A, cap, l⟩) (k : Nat) : SlAt w B size cells ⟨A, cap, l.take k⟩ := by
  have h1 : l.length ≤ cap := h.1
  refine ⟨by simp only [List.length_take]; omega, h.2.1, fun h0 => ?_⟩
  simp only [List.length_take] at h0
  obtain ⟨b', off', e, hb', hcc⟩ := h.2.2 (show 0 < l.length by omega)
  refine ⟨b', off', e, hb', fun i r hr j u hu => hcc i r ?_ j u hu⟩
  simp only [List.getElem?_take] at hr ⊢
  split at hr <;> simp_all

def betweenB (n lo hi : Int) : Bool := decide (lo ≤ n) && decide (n ≤ hi)
set_option maxHeartbeats 400000 in
theorem betweenBatten_any (a lo hi : Int) (w : World) : Calls Tryz.prog 58 #[.int .i64 a, .int .i64 lo, .int .i64 hi] w (Gives w (.bool (betweenB a lo hi))) := by
  go_enter Tryz.func58, Tryz.ntmps58
  go_wp2
  all_goals
    go_ret
    exact Gives.mk (congrArg Value.bool (by rw [Bool.eq_iff_iff]; simp [betweenB]; try omega)) (Below.refl _ _)
set_option maxHeartbeats 400000 in
theorem within_any (a : Int) (w : World) : Calls Tryz.prog 91 #[.int .i64 a] w (Gives w (.bool (betweenB a 0 1048576))) := by
  go_enter Tryz.func91, Tryz.ntmps91
  go_wp2
  all_goals
    go_ret
    exact Gives.mk (congrArg Value.bool (by rw [Bool.eq_iff_iff]; simp [betweenB]; try omega)) (Below.refl _ _)
set_option maxHeartbeats 400000 in
theorem gridName_any (s : ByteArray) (w : World) (hs : s.size ≤ maxLen) : Calls Tryz.prog 90 #[.string s] w (Gives w (.bool (isName s))) := by
  go_enter Tryz.func90, Tryz.ntmps90
  go_wp2_with (go_at_call 57; refine (Gives.first (isName_any _ _ hs)).mono ?_; rintro e w' ⟨rfl, x, rfl⟩)
  go_ret
  exact Gives.mk rfl x.below

def roofFine (b : RoofD) : Bool := isName b.name && decide (0 ≤ b.fro) && decide (b.fro ≤ b.til) && decide (b.til ≤ 1048576) && decide (0 ≤ b.most) && decide (b.most ≤ 67108864)
def roofAt (l : List RoofD) (i : Nat) (b : RoofD) : Bool := roofFine b && !(l.take i).any (fun x => sameName x.name b.name)
def roofsOk (l : List RoofD) : Bool := decide (l.length ≤ 20) && allIdx (roofAt l) l
theorem roofsOk_yes {l : List RoofD} (h : (l.length : Int) ≤ 20) (hu : UpTo (roofAt l) l l.length) : roofsOk l = true := by
  rw [roofsOk, decide_eq_true (by omega), hu.all (Nat.le_refl _)]; rfl
theorem roofsOk_long {l : List RoofD} (h : 20 < (l.length : Int)) : roofsOk l = false := by rw [roofsOk, decide_eq_false (by omega)]; rfl
theorem roofsOk_no {l : List RoofD} {k : Nat} {y : RoofD} (hy : l[k]? = some y) (h : roofAt l k y = false) : roofsOk l = false := by rw [roofsOk, allIdx_no hy h, Bool.and_false]
theorem roofFine_iff {b : RoofD} : roofFine b = true ↔ isName b.name = true ∧ betweenB b.fro 0 1048576 = true ∧ betweenB b.til 0 1048576 = true ∧ b.fro ≤ b.til ∧ 0 ≤ b.most ∧ b.most ≤ 67108864 := by
  simp only [roofFine, betweenB, Bool.and_eq_true, decide_eq_true_eq]
  constructor
  · rintro ⟨⟨⟨⟨⟨h0, h1⟩, h2⟩, h3⟩, h4⟩, h5⟩; exact ⟨h0, ⟨h1, by omega⟩, ⟨by omega, h3⟩, h2, h4, h5⟩
  · rintro ⟨h0, ⟨h1, _⟩, ⟨_, h3⟩, h2, h4, h5⟩; exact ⟨⟨⟨⟨⟨h0, h1⟩, h2⟩, h3⟩, h4⟩, h5⟩
theorem roofFine_iff' {b : RoofD} : roofFine b = true ↔ isName b.name = true ∧ betweenB b.fro 0 b.til = true ∧ betweenB b.til 0 1048576 = true ∧ betweenB b.most 0 67108864 = true := by
  simp only [roofFine, betweenB, Bool.and_eq_true, decide_eq_true_eq]
  constructor
  · rintro ⟨⟨⟨⟨⟨h0, h1⟩, h2⟩, h3⟩, h4⟩, h5⟩; exact ⟨h0, ⟨h1, h2⟩, ⟨by omega, h3⟩, h4, h5⟩
  · rintro ⟨h0, ⟨h1, h2⟩, ⟨_, h3⟩, h4, h5⟩; exact ⟨⟨⟨⟨⟨h0, h1⟩, h2⟩, h3⟩, h4⟩, h5⟩

theorem enters_gridValid1 : ∀ args w, (callFunc 93 args).run Tryz.prog w = .ok (.enter 93 args) w := entersOf Tryz.func93 (by kernel_rfl) rfl
set_option maxHeartbeats 400000 in
theorem gridValid1_any (s : RoofD) (nm : ByteArray) (nb : Nat) (w : World) (hn : nb < w.heap.size) (hc : w.cell? ⟨nb, 0, none⟩ = some (.string nm)) :
    Calls Tryz.prog 93 #[.agg #[.string s.name, .int .i64 s.fro, .int .i64 s.til, .int .i64 s.most], .pointer (some ⟨nb, 0, none⟩)] w (Gives w (.bool (sameName s.name nm))) := by
  have hc' : ∀ o : Obj, (w.alloc o).cell? ⟨nb, 0, none⟩ = some (.string nm) := fun o => by rw [World.cell?_alloc_lt w o ⟨nb, 0, none⟩ hn]; exact hc
  go_enter Tryz.func93, Tryz.ntmps93
  go_wp2
  go_ret
  exact Gives.mk rfl ((Below.refl _ _).alloc (Nat.le_refl _) _)
set_option maxHeartbeats 1000000 in
theorem gridValid_any (A : Option Addr) (cap : Nat) (l : List RoofD) (hok : ∀ r ∈ l, r.ok) (w : World) (B : Nat) (hB : B ≤ w.heap.size) (hs : SlAt w B 4 RoofD.cells ⟨A, cap, l⟩) :
    Calls Tryz.prog 66 #[.slice A l.length cap] w (Gives w (.bool (roofsOk l))) := by
  have hm : cap ≤ 9223372036854775807 := hs.2.1
  have hlc : l.length ≤ cap := hs.1
  have HS := hide hs
  have HOK := hide hok
  clear hs hok
  go_enter Tryz.func66, Tryz.ntmps66
  by_cases hlen : 20 < (l.length : Int)
  · go_wp2
    go_ret
    exact Gives.mk (congrArg Value.bool (roofsOk_long hlen).symm) (Below.refl _ _)
  · go_wp2
    go_loopw [10] (fun v wr => ∃ k : Nat, v = .int .i64 k ∧ k ≤ l.length ∧ Hid (UpTo (roofAt l) l k) ∧ ∃ x : After w.heap.size w, wr = x.val) (fun v _ => l.length - (intOf v).toNat)
    case atStart => exact ⟨0, rfl, Nat.zero_le _, UpTo.zero _ _, After.refl _ _, rfl⟩
    case round =>
      obtain ⟨k, rfl, hk, hall, x, rfl⟩ := hrel
      by_cases hlt : k < l.length
      · obtain ⟨b, off, hA, hb, hcell⟩ := HS.out.2.2 (show 0 < l.length by omega)
        simp only at hA
        subst hA
        have hx : l[k]? = some l[k] := List.getElem?_eq_getElem hlt
        have hnm := (HOK.out l[k] (List.getElem_mem hlt)).name
        have he := fun x : After w.heap.size w => RoofD.elem hx (show b < w.heap.size by omega) hcell x
        have HX := hide hx
        clear hcell hx
        obtain ⟨W, hW, hWs, hWb, hWh⟩ := boxed x.val (.cells #[.string l[k].name, .int .i64 l[k].fro, .int .i64 l[k].til, .int .i64 l[k].most] 94)
        have hc := fun y : After W.heap.size W => RoofD.boxed hWh (by omega) y
        have hbd : ∀ y : After W.heap.size W, Below w.heap.size w y.val := fun y => x.below.trans ((hWb.mono x.size).trans (y.below.mono (by have := x.size; omega)))
        have hcap : ∀ y : After W.heap.size W, ∀ z : After y.val.heap.size y.val, z.val.cell? ⟨x.val.heap.size, 0, none⟩ = some (.string l[k].name) := fun y z => (z.below.cell (show x.val.heap.size < y.val.heap.size by have := y.size; omega)).trans (hc y).1
        have hlt' : ∀ y : After W.heap.size W, x.val.heap.size < y.val.heap.size := fun y => by have := y.size; omega
        have hsl : ∀ y : After W.heap.size W, SlAt y.val y.val.heap.size 4 RoofD.cells ⟨some ⟨b, off, none⟩, cap, l.take k⟩ := fun y => (HS.out.to ((hbd y).mono hB) (Nat.le_trans hB (hbd y).size)).take k
        have HWs := hide hWs
        have HW := hide hW
        have HCAP := hide hcap
        have HLT := hide hlt'
        have HSL := hide hsl
        have HBD := hide hbd
        clear hW hWs hWh hcap hlt' hsl hbd
        cases hf : roofFine l[k]
        · go_wp2_with (first
            | (go_at_call 90; rw [← HW.out]; refine (Gives.first (gridName_any _ _ hnm)).mono ?_; rintro e w' ⟨rfl, y, rfl⟩)
            | (go_at_call 91; refine (Gives.after (Nat.le_refl _) (within_any _ _)).mono ?_; rintro e w' ⟨rfl, y, rfl⟩))
          all_goals first
            | (go_ret; exact Gives.mk (congrArg Value.bool (roofsOk_no HX.out (by simp [roofAt, hf])).symm) (HBD.out _))
            | exact absurd (roofFine_iff.2 ⟨‹_›, ‹_›, ‹_›, by omega, by omega, by omega⟩) (by simp [hf])
        · obtain ⟨h1, h2, h3, h4, h5, h6⟩ := roofFine_iff.1 hf
          cases hd : (l.take k).any (fun r => sameName r.name l[k].name)
          all_goals
            go_wp2_with (first
              | (go_at_call 90; rw [← HW.out]; refine (Gives.first (gridName_any _ _ hnm)).mono ?_; rintro e w' ⟨rfl, y, rfl⟩)
              | (go_at_call 91; refine (Gives.after (Nat.le_refl _) (within_any _ _)).mono ?_; rintro e w' ⟨rfl, y, rfl⟩)
              | (go_at_call 92
                 have c := containsRoof_any (some ⟨b, off, none⟩) cap (l.take k) (fun r => sameName r.name l[k].name) 93 #[.pointer (some ⟨x.val.heap.size, 0, none⟩)] enters_gridValid1 y.val y.val.heap.size (Nat.le_refl _) (HSL.out y)
                   (fun z e _ => by rw [oneOne]; exact gridValid1_any e _ _ z.val (Nat.lt_of_lt_of_le (HLT.out y) z.size) (HCAP.out y z))
                 rw [show (l.take k).length = k by rw [List.length_take]; omega] at c
                 refine (Gives.after (Nat.le_refl _) c).mono ?_
                 clear c
                 rintro e w' ⟨rfl, y, rfl⟩))
          · exact ⟨⟨k + 1, by go_num, by omega, hall.out.next HX.out (by simp [roofAt, hf, hd]), ⟨_, HBD.out _⟩, rfl⟩, by simp [intOf]; omega⟩
          · go_ret
            exact Gives.mk (congrArg Value.bool (roofsOk_no HX.out (by simp [roofAt, hf, hd])).symm) (HBD.out _)
      · go_wp2
        go_ret
        exact Gives.mk (congrArg Value.bool (roofsOk_yes (by omega) (by have : k = l.length := by omega
                                                                        subst this; exact hall.out)).symm) x.below
end Go.Proofs.YtcdkhlndohokcaaGreatDoor
