/- reeving.Hauled; slices.Equal at ints. -/
import Derived.Test.YtgamhdbcejkllaaGreatDoorReeveParts
import Derived.Test.YtgamhdbcejkllaaGreatDoorReeveLib
namespace Go.Proofs.YtgamhdbcejkllaaGreatDoor
open Go.RowKit

def haulF (rl : List RopeD) (k : Nat) (c : Nat) : Int := match rl[c]? with | some r => if c < k ∧ r.hauled = true then 1 else 0 | none => 0
theorem haulF_next {rl : List RopeD} {k : Nat} {r : RopeD} (h : rl[k]? = some r) (c : Nat) : haulF rl (k + 1) c = if c = k ∧ r.hauled = true then 1 else haulF rl k c := by
  unfold haulF
  by_cases e : c = k
  · subst e
    rw [h]
    cases hr : r.hauled <;> simp [hr]
  · cases hc : rl[c]? with
    | none => simp [e]
    | some x =>
      by_cases e2 : c < k
      · simp [e, e2, Nat.lt_succ_of_lt e2]
      · simp [e, e2, show ¬ c < k + 1 by omega]
set_option maxRecDepth 100000 in
set_option maxHeartbeats 4000000 in
theorem hauled_bad (s : SysD) (hok : s.ok) (hv : sysOk s = false) (w : World) (B : Nat) (hB : B ≤ w.heap.size) (hat : SysD.at_ w B s) :
    Calls Tryz.prog 14 #[.agg #[.slice s.blocks.A s.blocks.l.length s.blocks.cap, .slice s.ropes.A s.ropes.l.length s.ropes.cap]] w (Gives w (.tuple #[.slice none 0 0, .int .i64 1])) := by
  obtain ⟨W, hW, hWs, hWb, hWh⟩ := boxed w (.cells #[.slice s.blocks.A s.blocks.l.length s.blocks.cap, .slice s.ropes.A s.ropes.l.length s.ropes.cap] 25)
  have hc := fun y : After W.heap.size W => SysD.boxed hWh (by omega) y
  have KV := hide (Gives.first (validS_any s hok W W.heap.size (Nat.le_refl _) (hat.to (hWb.mono hB) (by omega))))
  have HW := hide hW
  have HBD := hide fun y : After W.heap.size W => hWb.trans (y.below.mono (by omega))
  rw [hv] at KV
  clear hW hWs hWh hWb hat
  go_enter Tryz.func14, Tryz.ntmps14
  go_wp2_with (go_at_call 15; rw [← HW.out]; refine KV.out.mono ?_; rintro e w' ⟨rfl, y, rfl⟩)
  go_returns
  exact Gives.mk rfl (HBD.out _)
set_option maxRecDepth 100000 in
set_option maxHeartbeats 4000000 in
theorem hauled_good (s : SysD) (hok : s.ok) (hv : sysOk s = true) (w : World) (B : Nat) (hB : B ≤ w.heap.size) (hat : SysD.at_ w B s) :
    Calls Tryz.prog 14 #[.agg #[.slice s.blocks.A s.blocks.l.length s.blocks.cap, .slice s.ropes.A s.ropes.l.length s.ropes.cap]] w fun e w' => ∃ n0, w.heap.size ≤ n0 ∧ n0 < w'.heap.size ∧ e = .returned (.tuple #[.slice (some ⟨n0, 0, none⟩) s.ropes.l.length s.ropes.l.length, .int .i64 0]) ∧ w'.rowIs n0 3 s.ropes.l.length (fun c => .int .i64 (haulF s.ropes.l s.ropes.l.length c)) ∧ Below w.heap.size w w' := by
  obtain ⟨⟨hR1, hR6, hC1, hC6⟩, _, _⟩ := sysOk_parts hv
  obtain ⟨W, hW, hWs, hWb, hWh⟩ := boxed w (.cells #[.slice s.blocks.A s.blocks.l.length s.blocks.cap, .slice s.ropes.A s.ropes.l.length s.ropes.cap] 25)
  have hc := fun y : After W.heap.size W => SysD.boxed hWh (by omega) y
  have hatW : SysD.at_ W W.heap.size s := hat.to (hWb.mono hB) (by omega)
  have KV := hide (Gives.first (validS_any s hok W W.heap.size (Nat.le_refl _) hatW))
  have hmk2 := fun v : World => run_make_row' (P := Tryz.prog) 45 3 (.int .i64 0) 8 Tryz.underlying45 infoInts rfl .i64 .i64 s.ropes.l.length (by omega) (by omega) v
  have hcM := fun (y : After W.heap.size W) o => hc ⟨_, y.below.alloc y.size o⟩
  simp only at hcM
  have hlcr : s.ropes.l.length ≤ s.ropes.cap := hat.ropes.1
  have hmr : s.ropes.cap ≤ 9223372036854775807 := hat.ropes.2.1
  have HSR := hide hatW.ropes
  have HW := hide hW
  have HWs := hide hWs
  have HWb := hide hWb
  rw [hv] at KV
  clear hW hWs hWh hWb hat hatW hv hok
  obtain ⟨⟨A, cap, l⟩, ⟨A', cap', l'⟩⟩ := s
  simp only at *
  go_enter Tryz.func14, Tryz.ntmps14
  go_wp2_with (go_at_call 15; rw [← HW.out]; refine KV.out.mono ?_; rintro e w' ⟨rfl, y, rfl⟩)
  obtain ⟨n0, hn0⟩ : ∃ n0, n0 = y.val.heap.size := ⟨_, rfl⟩
  have hys := y.size
  have hR0 := World.rowIs_made y.val (.int .i64 0) l'.length 3
  have HR0 := hide ((hR0.congr fun c _ => by simp only [haulF]; cases l'[c]? <;> simp) : (y.val.alloc (.cells (madeCells #[.int .i64 0] l'.length) 3)).rowIs y.val.heap.size 3 l'.length (fun c => .int .i64 (haulF l' 0 c)))
  have HB0 := hide (y.below.alloc hys (.cells (madeCells #[.int .i64 0] l'.length) 3))
  have hz0 : (y.val.alloc (.cells (madeCells #[.int .i64 0] l'.length) 3)).heap.size = y.val.heap.size + 1 := by simp
  rw [← hn0] at HR0 hz0 ⊢
  have hWn : W.heap.size ≤ n0 := by omega
  clear hR0 hcM hn0 hys
  generalize y.val.alloc (.cells (madeCells #[.int .i64 0] l'.length) 3) = U at *
  go_loopw [5, 6, 17] (fun _ _ v wr => ∃ k : Nat, v = .int .i64 k ∧ k ≤ l'.length ∧ Hid (wr.rowIs n0 3 l'.length (fun c => .int .i64 (haulF l' k c))) ∧ n0 < wr.heap.size ∧ Hid (Below W.heap.size W wr)) (fun _ _ v _ => l'.length - (intOf v).toNat)
  case atStart => exact ⟨0, rfl, Nat.zero_le _, HR0, by omega, HB0⟩
  case round =>
    obtain ⟨k, rfl, hk, HR, hnz, HB⟩ := hrel
    by_cases hlt : k < l'.length
    · obtain ⟨b, off, hA, hb, hcell⟩ := HSR.out.2.2 (show 0 < l'.length by omega)
      simp only at hA
      subst hA
      have hx : l'[k]? = some l'[k] := List.getElem?_eq_getElem hlt
      have he := RopeD.elem hx hb hcell ⟨_, HB.out⟩
      simp only at he
      have HNX := hide (haulF_next hx)
      obtain ⟨V, hV, hVs, hVb, hVh⟩ := boxed wr (.cells #[.string l'[k].name, .slice l'[k].holds.A l'[k].holds.l.length l'[k].holds.cap, .bool l'[k].hauled] 53)
      have HRV := hide (HR.out.of_block (hVb.block n0 hnz))
      have HBV := hide (HB.out.trans (hVb.mono HB.out.size) : Below W.heap.size W V)
      have hcW := HR.out.cell hlt
      have hfW := HR.out.frozen k
      have hcV := HRV.out.cell hlt
      have hfV := HRV.out.frozen k
      have hnV : n0 < V.heap.size := by omega
      rw [hV] at hcV hfV
      have HV := hide hV
      clear hcell hx hV hVs hVb hVh
      rcases Bool.eq_false_or_eq_true l'[k].hauled with hu | hu
      · have HU := hide hu
        go_wp2
        refine ⟨⟨k + 1, by go_num, by omega, hide (((HR.out.set k _).alloc _).congr fun c _ => ?_), by simp [World.setCell]; omega, hide ((HB.out.setCell (p := ⟨n0, k, none⟩) hWn _).alloc (by have := HB.out.size; simpa [World.setCell] using this) _)⟩, by simp [intOf]; omega⟩
        rw [HNX.out, HU.out]
        by_cases e : c = k <;> simp [e]
      · have HU := hide hu
        go_wp2
        refine ⟨⟨k + 1, by go_num, by omega, hide ((HR.out.alloc _).congr fun c _ => ?_), by simp; omega, hide (HB.out.alloc HB.out.size _)⟩, by simp [intOf]; omega⟩
        rw [HNX.out, HU.out]
        simp
    · have hkl : k = l'.length := by omega
      subst hkl
      go_wp2
      go_returns
      exact ⟨n0, by have := HWs.out; omega, hnz, rfl, HR.out, HWb.out.trans (HB.out.mono (by have := HWs.out; omega))⟩
/-- slices.Equal at two slices of ints whose cells are known -/
theorem equalInts {w : World} {b1 o1 n c b2 o2 m d : Nat} (xs ys : List Int) (hx : n = xs.length) (hy : m = ys.length) (hn : n ≤ 9223372036854775807) (hm : m ≤ 9223372036854775807)
    (h1 : ∀ j x, xs[j]? = some x → w.cell? ⟨b1, o1 + j, none⟩ = some (.int .i64 x)) (h2 : ∀ j x, ys[j]? = some x → w.cell? ⟨b2, o2 + j, none⟩ = some (.int .i64 x)) :
    Calls Tryz.prog 16 #[.slice (some ⟨b1, o1, none⟩) n c, .slice (some ⟨b2, o2, none⟩) m d] w (Gives w (.bool (xs == ys))) := by
  refine (Tryz.slices_Equal_int b1 o1 n c b2 o2 m d xs ys w (by omega) (by omega) hn hm (fun j hj => h1 j _ (by rw [List.getD, List.getElem?_eq_getElem hj]; rfl)) (fun j hj => h2 j _ (by rw [List.getD, List.getElem?_eq_getElem hj]; rfl))).mono ?_
  rintro e w' ⟨he, q, rfl⟩
  rw [hx, hy, List.take_length, List.take_length] at he
  exact ⟨he, ⟨rfl, rfl, rfl, Nat.le_refl _, fun _ _ => rfl⟩⟩
end Go.Proofs.YtgamhdbcejkllaaGreatDoor
