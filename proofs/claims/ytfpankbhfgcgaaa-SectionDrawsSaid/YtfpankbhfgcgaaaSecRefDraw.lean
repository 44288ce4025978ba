/- loftblockref32.Draw: the reference's drawing of the section, byte for byte. -/
import Derived.Test.YtfpankbhfgcgaaaSecAt
import Derived.WalkKit
import Derived.Laws.IdiomStrings
namespace Go.Proofs.Ytfpankbhfgcgaaa
open Go.RowKit

theorem infoRowByte : (Try.prog.info? 5).map (fun i => (i.zero, i.size, i.bytes)) = some (some (.int .u8 0), 1, 1) := by kernel_rfl
def byteVals (l : List UInt8) : List Value := l.map fun b => .int .u8 (b.toNat : Int)
theorem byteVals_append (x y : List UInt8) : byteVals (x ++ y) = byteVals x ++ byteVals y := by simp [byteVals]
theorem ownsRow_owner {w : World} {base : Nat} {e : TypeId} {size : Nat} {v : Value} {n : Nat} {xs : List Value} (h : w.ownsRow base e size v n xs) : ∀ k, v.ownBlock = some k → base ≤ k := by
  intro k hk
  rcases h.2 with ⟨rfl, _⟩ | ⟨g, cap, cur, rfl, hg, _⟩
  · simp [Value.ownBlock] at hk
  · simp [Value.ownBlock] at hk; omega
/-- a row of bytes: the slice, its bytes -/
def ByteRow (base : Nat) (v : Value) (l : List UInt8) (w : World) : Prop := w.ownsRow base 5 1 v l.length (byteVals l)
theorem ByteRow.next {base : Nat} {v' : Value} {l : List UInt8} {b : UInt8} {w' : World} {x : Int} (hx : (b.toNat : Int) = x) (h : w'.ownsRow base 5 1 v' (l.length + 1) (byteVals l ++ [.int .u8 x])) : ByteRow base v' (l ++ [b]) w' := by
  subst hx
  unfold ByteRow
  rw [byteVals_append, List.length_append]
  exact h
theorem ByteRow.string {base : Nat} {v : Value} {l : List UInt8} {w : World} (hl : 0 < l.length) (h : ByteRow base v l w) : (convert 60 9 v).run Try.prog w = .ok (.string ⟨l.toArray⟩) w := by
  unfold ByteRow at h
  rcases h.2 with ⟨_, hn⟩ | ⟨g, cap, cur, hv, _⟩
  · omega
  · subst hv
    refine run_convert_bytes_back w _ _ 5 ⟨g, 0, none⟩ cap l Try.underlying60 Try.underlying5 Try.underlying9 fun j hj => ?_
    exact World.ownsRow.cells h rfl j _ (by simp [byteVals, hj])
set_option maxHeartbeats 4000000 in
set_option maxRecDepth 100000 in
theorem refSecDraw_any (h : HouseD) (hh : houseOk h = true) (trims : Sl Int) (ht : trimsE h.sets.l trims.l = 0) (scale : Int) (hs1 : 1 ≤ scale) (hs2 : scale ≤ 1048576) (R C : Nat) (hR : secRows h scale = (R : Int)) (hC : secCols h scale = (C : Int)) (hR1 : 1 ≤ R) (hR4 : R ≤ 400) (hC4 : C ≤ 400) (w : World) (B : Nat) (hB : B ≤ w.heap.size) (hat : HouseD.at_ w B h) (hatT : SlAt w B 1 intCells trims) :
    Calls Try.prog 21 #[.agg #[.string h.name, .int .i64 h.height, .slice h.sets.A h.sets.l.length h.sets.cap, .slice h.roofs.A h.roofs.l.length h.roofs.cap], .slice trims.A trims.l.length trims.cap, .int .i64 scale] w (Gives w (.string ⟨(secText h.sets.l trims.l scale (h.height / scale) C R).toArray⟩)) := by
  obtain ⟨W, hW, hWs, hWb, hWh⟩ := boxed w (.cells #[.string h.name, .int .i64 h.height, .slice h.sets.A h.sets.l.length h.sets.cap, .slice h.roofs.A h.roofs.l.length h.roofs.cap] 25)
  have hc := fun y : After W.heap.size W => HouseD.boxed hWh (by omega) y
  have hbd : ∀ y : After W.heap.size W, Below w.heap.size w y.val := fun y => hWb.trans (y.below.mono (by omega))
  have hatW : HouseD.at_ W W.heap.size h := hat.to (hWb.mono hB) (by omega)
  have hatTW : SlAt W W.heap.size 1 intCells trims := hatT.to (hWb.mono hB) (by omega)
  have hsz : Calls Try.prog 25 #[.agg #[.string h.name, .int .i64 h.height, .slice h.sets.A h.sets.l.length h.sets.cap, .slice h.roofs.A h.roofs.l.length h.roofs.cap], .int .i64 scale] W fun e w'' => e = .returned (.tuple #[.int .i64 (R : Int), .int .i64 (C : Int)]) ∧ ∃ z : After W.heap.size W, w'' = z.val := by
    have := Gives.first (refSecSize_any h hh scale hs1 hs2 W W.heap.size (Nat.le_refl _) hatW)
    rw [hR, hC] at this
    exact this
  have hpic : ∀ (y : After W.heap.size W) (r c : Nat), r ≤ 400 → c ≤ 400 → Calls Try.prog 45 #[.agg #[.string h.name, .int .i64 h.height, .slice h.sets.A h.sets.l.length h.sets.cap, .slice h.roofs.A h.roofs.l.length h.roofs.cap], .slice trims.A trims.l.length trims.cap, .int .i64 scale, .int .i64 (r : Int), .int .i64 (c : Int)] y.val (Gives y.val (.int .u8 (secCell h.sets.l trims.l scale (h.height / scale) r c))) := fun y r c h1 h2 =>
    refAt_any h hh trims ht scale hs1 hs2 r c h1 h2 y.val W.heap.size y.size (hatW.to y.below (Nat.le_refl _)) (hatTW.to y.below (Nat.le_refl _))
  have HS := hide hsz
  have HPC := hide hpic
  have HW := hide hW
  have HBD := hide hbd
  clear hW hWs hWh hWb hbd hat hatW hatT hatTW hsz hpic hh ht hR hC
  obtain ⟨name, height, ⟨A, cap, l⟩, roofs⟩ := h
  obtain ⟨TA, tcap, tr⟩ := trims
  simp only at *
  generalize height / scale = H at *
  obtain ⟨i8, hi8, hz8, hs8, hb8⟩ := info_parts infoRowByte
  have HI := hide (And.intro hi8 (And.intro hz8 (And.intro hs8 hb8)))
  clear hi8 hz8 hs8 hb8
  go_enter Try.func21, Try.ntmps21
  go_wp2_with (go_at_call 25; rw [← HW.out]; refine HS.out.mono ?_; rintro e w' ⟨rfl, y, rfl⟩)
  go_loopw [9, 10, 11] (fun s v _ wr => ∃ i : Nat, v = .int .i64 i ∧ i ≤ R ∧ Hid (ByteRow W.heap.size s (secText l tr scale H C i) wr) ∧ ∃ x : After W.heap.size W, wr = x.val) (fun _ v _ _ => R - (intOf v).toNat)
  case atStart => exact ⟨0, rfl, Nat.zero_le _, hide ⟨by simp [byteVals, secText], Or.inl ⟨rfl, rfl⟩⟩, y, rfl⟩
  case round =>
    obtain ⟨i, rfl, hi, hrow, x, rfl⟩ := hrel
    by_cases hit : i < R
    · go_wp2
      have HR := hrow
      go_loopw [9, 11] (fun s v wr => ∃ j : Nat, v = .int .i64 j ∧ j ≤ C ∧ Hid (ByteRow W.heap.size s (secText l tr scale H C i ++ secRow l tr scale H i j) wr) ∧ ∃ x : After W.heap.size W, wr = x.val) (fun _ v _ => C - (intOf v).toNat)
      case atStart => exact ⟨0, rfl, Nat.zero_le _, hide (by simpa [secRow] using HR.out), x, rfl⟩
      case round =>
        clear HR hrow
        obtain ⟨j, rfl, hj, hrow2, x, rfl⟩ := hrel
        by_cases hjt : j < C
        · have HBY := hide (secByte_toNat l tr scale H i j)
          have KA := hide (HPC.out x i j (by omega) (by omega))
          have hln : (secText l tr scale H C i ++ secRow l tr scale H i j).length ≤ 400000 := by
            rw [List.length_append, secText_length, secRow_length]
            have : i * (C + 1) ≤ 400 * 401 := Nat.mul_le_mul (by omega) (by omega)
            omega
          have HLE := hide hln
          clear hln
          generalize secCell l tr scale H i j = cv at *
          go_wp2_with (first
            | (go_at_call 45; refine KA.out.mono ?_; rintro e w' ⟨rfl, hb⟩; have HB := hide hb; clear hb)
            | (at_builtin; refine wpList_append_own _ rfl _ _ 60 rfl W.heap.size 5 i8 (.int .u8 0) 1 1 Try.underlying60 HI.out.1 HI.out.2.1 HI.out.2.2.1 HI.out.2.2.2 rfl (by decide) _ _ _ rfl ((ownsRow_below hrow2.out HB.out).alloc _) ⟨w'.heap.size, 0, none⟩ 1 1 [.int .u8 cv] rfl rfl (World.news_of_block (heap_alloc_new w' _)) (fun u hu => by simp at hu; subst hu; rfl) (by have := HLE.out; unfold maxLen; omega) (by have := HLE.out; omega) (by have := x.size; have := HB.out.size; simp; omega) ?_; intro v4 w4 hown hgr _))
          have HBL := hide (show Below W.heap.size W w4 from Below.grown ((x.below.trans (HB.out.mono x.size)).alloc (by have := x.size; have := HB.out.size; omega) _) hgr (by have := x.size; have := HB.out.size; simp; omega) (ownsRow_owner hrow2.out))
          have HNX := hide (show ByteRow W.heap.size v4 (secText l tr scale H C i ++ secRow l tr scale H i (j + 1)) w4 by rw [secRow_next, ← List.append_assoc]; exact ByteRow.next HBY.out hown)
          clear hown hgr
          exact ⟨⟨j + 1, by go_num, by omega, HNX, ⟨w4, HBL.out⟩, rfl⟩, by simp [intOf]; omega⟩
        · have ejC : j = C := by omega
          subst ejC
          have hln : (secText l tr scale H j i ++ secRow l tr scale H i j).length ≤ 400000 := by
            rw [List.length_append, secText_length, secRow_length]
            have : i * (j + 1) ≤ 400 * 401 := Nat.mul_le_mul (by omega) (by omega)
            omega
          have HLE := hide hln
          clear hln
          go_wp2_with (at_builtin; refine wpList_append_own _ rfl _ _ 60 rfl W.heap.size 5 i8 (.int .u8 0) 1 1 Try.underlying60 HI.out.1 HI.out.2.1 HI.out.2.2.1 HI.out.2.2.2 rfl (by decide) _ _ _ rfl (hrow2.out.alloc _) ⟨x.val.heap.size, 0, none⟩ 1 1 [.int .u8 10] rfl rfl (World.news_of_block (heap_alloc_new x.val _)) (fun u hu => by simp at hu; subst hu; rfl) (by have := HLE.out; unfold maxLen; omega) (by have := HLE.out; omega) (by have := x.size; simp; omega) ?_; intro v4 w4 hown hgr _)
          have HBL := hide (show Below W.heap.size W w4 from Below.grown (x.below.alloc x.size _) hgr (by have := x.size; simp; omega) (ownsRow_owner hrow2.out))
          have HNX := hide (show ByteRow W.heap.size v4 (secText l tr scale H j (i + 1)) w4 from ByteRow.next (b := 10) rfl hown)
          clear hown hgr
          exact ⟨⟨i + 1, by go_num, by omega, HNX, ⟨w4, HBL.out⟩, rfl⟩, by simp [intOf]; omega⟩
    · have eir : i = R := by omega
      subst eir
      have hcv := ByteRow.string (by rw [secText_length]; have : 1 * 1 ≤ i * (C + 1) := Nat.mul_le_mul hR1 (by omega); omega) hrow.out
      go_wp2
      go_ret
      exact Gives.mk rfl (HBD.out _)
end Go.Proofs.Ytfpankbhfgcgaaa
