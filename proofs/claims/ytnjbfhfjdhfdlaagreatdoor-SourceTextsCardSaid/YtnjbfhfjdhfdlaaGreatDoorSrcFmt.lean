/- source.Text of a house that is not valid, or a sheet that cannot be written: nothing, and an error. A valid house and a writable sheet are fit to be read back, and their text is not long: in plain Lean. source.Names: the names of line sets and cues of a source. source.Text of any house and sheet; what is read of a text of a house and a sheet; source.Format. -/
import Derived.Test.YtnjbfhfjdhfdlaaGreatDoorSrcAt
import Derived.Test.YtnjbfhfjdhfdlaaGreatDoorSrcParse
import Derived.Test.YtnjbfhfjdhfdlaaGreatDoorSrcSetLn
import Derived.Test.YtnjbfhfjdhfdlaaGreatDoorSrcTextW
import Derived.Test.YtnjbfhfjdhfdlaaGreatDoorSrcRepl
namespace Go.Proofs.YtnjbfhfjdhfdlaaGreatDoor
open Go Go.RowKit

set_option maxRecDepth 100000 in
set_option maxHeartbeats 4000000 in
theorem text_none (h : HouseD) (s : SheetD) (hok : h.ok) (sok : s.ok) (hn : (houseOk h && sheetB s) = false) (hmv : ∀ q ∈ s.cues.l, q.moves.l.length ≤ 1000000) (w : World) (B : Nat) (hB : B ≤ w.heap.size) (hat : HouseD.at_ w B h) (sat : SheetD.at_ w B s) :
    Calls Tryz.prog 10 #[.agg #[.string h.name, .int .i64 h.height, .slice h.sets.A h.sets.l.length h.sets.cap, .slice h.roofs.A h.roofs.l.length h.roofs.cap], .agg #[.slice s.cues.A s.cues.l.length s.cues.cap, .slice s.apart.A s.apart.l.length s.apart.cap]] w (Gives w (.tuple #[.string ⟨#[]⟩, .int .i64 1])) := by
  obtain ⟨W1, hW1, hs1, hb1, hh1⟩ := boxed w (.cells #[.string h.name, .int .i64 h.height, .slice h.sets.A h.sets.l.length h.sets.cap, .slice h.roofs.A h.roofs.l.length h.roofs.cap] 25)
  obtain ⟨W, hW2, hs2, hb2, hh2⟩ := boxed W1 (.cells #[.slice s.cues.A s.cues.l.length s.cues.cap, .slice s.apart.A s.apart.l.length s.apart.cap] 29)
  have hb : Below w.heap.size w W := hb1.trans (hb2.mono (by omega))
  have hh1' := (hb2.block _ (by omega)).trans hh1
  rw [hs1] at hh2
  have hc := fun y : After W.heap.size W => And.intro (HouseD.boxed hh1' (by omega) y) (SheetD.boxed hh2 (by omega) y)
  have hc0 := hc (After.refl _ _)
  simp only [After.refl] at hc0
  have hbd : ∀ y : After W.heap.size W, Below w.heap.size w y.val := fun y => hb.trans (y.below.mono (by omega))
  have hatW := hat.to (hb.mono hB) (show B ≤ W.heap.size by omega)
  have satW := sat.to (hb.mono hB) (show B ≤ W.heap.size by omega)
  have KV := hide (Gives.first (houseValid_any h hok W W.heap.size (Nat.le_refl _) hatW))
  have KW := hide (fun y : After W.heap.size W => Gives.after (x := y) (Nat.le_refl _) (writable_any s sok y.val W.heap.size y.size (satW.to y.below (Nat.le_refl _)) hmv))
  have HBD := hide hbd
  have HW := hide (show (w.alloc (.cells #[.string h.name, .int .i64 h.height, .slice h.sets.A h.sets.l.length h.sets.cap, .slice h.roofs.A h.roofs.l.length h.roofs.cap] 25)).alloc (.cells #[.slice s.cues.A s.cues.l.length s.cues.cap, .slice s.apart.A s.apart.l.length s.apart.cap] 29) = W by rw [← hW1, ← hW2])
  clear hW1 hW2 hb1 hb2 hh1 hh2 hh1' hat sat hatW satW hb hbd hok sok hmv
  cases hv : houseOk h
  · rw [hv] at KV
    clear hv hn KW
    go_enter Tryz.func10, Tryz.ntmps10
    go_upto_region 1 with fail
    rw [HW.out]
    go_wp2_with (go_at_call 14; refine KV.out.mono ?_; rintro e w' ⟨rfl, y, rfl⟩)
    go_ret2
    exact Gives.mk rfl (HBD.out y)
  · have sv : sheetB s = false := by rw [hv] at hn; simpa using hn
    rw [hv] at KV
    rw [sv] at KW
    clear hv sv hn
    go_enter Tryz.func10, Tryz.ntmps10
    go_upto_region 1 with fail
    rw [HW.out]
    go_wp2_with (first
      | (go_at_call 14; refine KV.out.mono ?_; rintro e w' ⟨rfl, y, rfl⟩; have hcy := hc y)
      | (go_at_call 12; refine (KW.out y).mono ?_; rintro e w' ⟨rfl, y2, rfl⟩))
    go_ret2
    exact Gives.mk rfl (HBD.out y2)
end Go.Proofs.YtnjbfhfjdhfdlaaGreatDoor
namespace Go.Proofs.YtnjbfhfjdhfdlaaGreatDoor
open Go Go.RowKit Go.Lib

theorem nDigits_most : ∀ (k u : Nat), u < 10 ^ (k + 1) → nDigits u ≤ k + 1
  | 0, u, h => by rw [nDigits_small (by omega)]; omega
  | k + 1, u, h => by
    by_cases h10 : u < 10
    · rw [nDigits_small h10]; omega
    · rw [nDigits_big h10]
      have h2 := nDigits_most k (u / 10) (by rw [Nat.pow_succ] at h; omega)
      omega
theorem shortN_of {n : Int} (h : -1000000000000000 < n ∧ n < 1000000000000000) : shortN n := by
  unfold shortN
  rw [decDigits_length]
  exact nDigits_most 14 n.natAbs (by omega)
theorem shortN_mid {n a b : Int} (h1 : a ≤ n) (h2 : n ≤ b) (ha : -1000000000000000 < a := by omega) (hb : b < 1000000000000000 := by omega) : shortN n := shortN_of ⟨by omega, by omega⟩
theorem shortN_len {n : Int} (h : shortN n) : (itoa n).length ≤ 16 := by
  unfold shortN at h
  by_cases hneg : n < 0
  · rw [itoaNeg hneg, List.length_cons]; omega
  · obtain ⟨m, rfl⟩ : ∃ m : Nat, n = m := ⟨n.toNat, by omega⟩
    rw [itoaNat]; simp only [Int.natAbs_natCast] at h; omega
theorem allIdx_mem {α : Type} {p : Nat → α → Bool} {l : List α} (h : allIdx p l = true) : ∀ x ∈ l, ∃ i, p i x = true := by
  intro x hx
  obtain ⟨j, hj, e⟩ := List.getElem_of_mem hx
  exact ⟨j, allIdx_iff.1 h j x (by rw [List.getElem?_eq_getElem hj, e])⟩
theorem set_fit {s : SetP} (h : setOk s.d = true) : s.fit ∧ s.lines.length ≤ 10 ∧ s.items.length ≤ 40 ∧ s.bricks.length ≤ 8 := by
  simp only [setOk, setFirst, setSecond, linesOk, itemsOk, bricksOk, betweenB, Bool.and_eq_true, decide_eq_true_eq] at h
  simp only [SetP.d] at h
  obtain ⟨⟨⟨⟨⟨⟨⟨⟨⟨h1, h2⟩, h3⟩, h4⟩, h5⟩, h6⟩, ⟨h7, h7'⟩, h8⟩, ⟨⟨⟨⟨h9, h10⟩, h11⟩, h12⟩, h13⟩⟩, h14, h15⟩, ⟨h16, h17⟩, h18⟩ := h
  refine ⟨⟨h1, ?_, ?_, ?_, ?_, ?_⟩, by omega, by omega, by omega⟩
  · intro n hn
    simp only [List.mem_cons, List.not_mem_nil, or_false] at hn
    rcases hn with rfl | rfl | rfl | rfl | rfl | rfl | rfl | rfl | rfl <;> exact shortN_of ⟨by omega, by omega⟩
  · intro e
    rw [e] at h7
    simp at h7
  · intro n hn
    obtain ⟨i, hi⟩ := allIdx_mem h8 n hn
    simp only [lineAt, betweenB, Bool.and_eq_true, decide_eq_true_eq] at hi
    exact shortN_of ⟨by omega, by omega⟩
  · intro x hx
    obtain ⟨i, hi⟩ := allIdx_mem h15 x hx
    simp only [itemAt, Bool.and_eq_true] at hi
    obtain ⟨a0, a1, a2, a3, a4, a5, a6⟩ := itemFine_iff.1 hi.1
    simp only [betweenB, Bool.and_eq_true, decide_eq_true_eq] at a1 a2 a3 a4 a5 a6
    refine ⟨a0, fun n hn => ?_⟩
    simp only [List.mem_cons, List.not_mem_nil, or_false] at hn
    rcases hn with rfl | rfl | rfl | rfl | rfl | rfl <;> exact shortN_of ⟨by omega, by omega⟩
  · intro x hx
    obtain ⟨i, hi⟩ := allIdx_mem h17 x hx
    simp only [brickAt, brickFine, betweenB, Bool.and_eq_true, decide_eq_true_eq] at hi
    refine ⟨hi.1.1.1, fun n hn => ?_⟩
    simp only [List.mem_cons, List.not_mem_nil, or_false] at hn
    rcases hn with rfl | rfl <;> exact shortN_of ⟨by omega, by omega⟩
theorem house_fit {h : HouseP} (hv : houseOkP h = true) : h.fit ∧ h.roofs.length ≤ 20 ∧ h.sets.length ≤ 60 ∧ ∀ s ∈ h.sets, s.fit ∧ s.lines.length ≤ 10 ∧ s.items.length ≤ 40 ∧ s.bricks.length ≤ 8 := by
  rw [houseOkP, houseOk, Bool.and_eq_true] at hv
  obtain ⟨h1, h2, h3, h4, h5⟩ := houseHead_iff.1 hv.1
  have hs : ∀ s ∈ h.sets, setOk s.d = true := fun s hs => by
    obtain ⟨i, hi⟩ := allIdx_mem hv.2 s.d (List.mem_map.2 ⟨s, hs, rfl⟩)
    simp only [setAt, Bool.and_eq_true] at hi
    exact hi.1.1
  have h6 : h.roofs.length ≤ 20 ∧ allIdx (roofAt h.roofs) h.roofs = true := by
    rw [roofsOk, Bool.and_eq_true, decide_eq_true_eq] at h5
    exact h5
  have h4' : (h.sets.map SetP.d).length ≤ 60 := by
    have : ((h.sets.map SetP.d).length : Int) ≤ 60 := h4
    omega
  rw [List.length_map] at h4'
  refine ⟨⟨h1, shortN_mid (show (1 : Int) ≤ h.height from h2) (show h.height ≤ 1048576 from h3), fun x hx => ?_, fun s hs' => (set_fit (hs s hs')).1⟩, h6.1, h4', fun s hs' => set_fit (hs s hs')⟩
  obtain ⟨i, hi⟩ := allIdx_mem h6.2 x hx
  simp only [roofAt, roofFine, Bool.and_eq_true, decide_eq_true_eq] at hi
  refine ⟨hi.1.1.1.1.1.1, fun n hn => ?_⟩
  simp only [List.mem_cons, List.not_mem_nil, or_false] at hn
  rcases hn with rfl | rfl | rfl <;> exact shortN_of ⟨by omega, by omega⟩
theorem short_all {l : List Int} (h : l.all shortB = true) : ∀ n ∈ l, shortN n := fun n hn => by
  have h1 := List.all_eq_true.1 h n hn
  simp only [shortB, Bool.and_eq_true, decide_eq_true_eq] at h1
  exact shortN_of h1
theorem nil_of_list {b : ByteArray} (h : b.toList = []) : b = ⟨#[]⟩ := by
  have h2 : bs b = [] := h
  have h3 := bs_length b
  rw [h2] at h3
  have h4 : b.data.size = 0 := h3.symm
  obtain ⟨d⟩ := b
  simp only at h4
  rw [Array.eq_empty_of_size_eq_zero h4]
theorem cue_fit {q : CueP} (h : cueB q = true) : q.fit := by
  simp only [cueB, cueHeadB, afterB, Bool.and_eq_true, Bool.or_eq_true, beq_iff_eq] at h
  obtain ⟨⟨⟨h1, h2⟩, h3⟩, h4⟩ := h
  refine ⟨h1, ?_, short_all h3, fun m hm => ?_⟩
  · rcases h2 with ⟨a, b⟩ | ⟨a, b⟩
    · exact Or.inl ⟨a, nil_of_list b⟩
    · exact Or.inr ⟨a, b⟩
  · have h5 := List.all_eq_true.1 h4 m hm
    rw [moveB, Bool.and_eq_true] at h5
    exact ⟨h5.1, short_all h5.2⟩
theorem le_sum : ∀ {l : List Nat} {x : Nat}, x ∈ l → x ≤ l.sum
  | a :: l, x, h => by
    rw [List.sum_cons]
    rcases List.mem_cons.1 h with rfl | h
    · omega
    · have := le_sum h; omega
theorem sheet_fit {c : SheetP} (h : sheetOkP c = true) : c.fit ∧ c.cues.length ≤ 60 ∧ c.apart.length ≤ 1000 ∧ ∀ q ∈ c.cues, q.moves.length ≤ 100 := by
  simp only [sheetOkP, Bool.and_eq_true, decide_eq_true_eq] at h
  obtain ⟨⟨⟨⟨h1, h2⟩, h3⟩, h4⟩, h5⟩ := h
  refine ⟨⟨fun q hq => cue_fit (List.all_eq_true.1 h3 q hq), fun x hx => ?_⟩, h1, h2, fun q hq => ?_⟩
  · have h6 := List.all_eq_true.1 h5 x hx
    rw [pairB, Bool.and_eq_true] at h6
    exact h6
  · have h6 : q.moves.length ≤ (c.cues.map fun q => q.moves.length).sum := le_sum (List.mem_map.2 ⟨q, hq, rfl⟩)
    omega

/-! ### how long the text is -/
theorem join_len : ∀ (l : List (List UInt8)), (∀ w ∈ l, w.length ≤ 20) → (joinW l).length ≤ 21 * l.length
  | [], _ => by simp [joinW]
  | [w], h => by
    have := h w (by simp)
    simp only [joinW, List.length_cons, List.length_nil]; omega
  | w :: v :: l, h => by
    have h1 := h w (by simp)
    have h2 := join_len (v :: l) (fun x hx => h x (by simp [hx]))
    simp only [joinW, List.length_append, List.length_cons] at h2 ⊢
    omega
def Wd.le : Wd → Prop
  | .wd l => l.length ≤ 20
  | .num n => shortN n
theorem line_len {ws : List Wd} (h : ∀ w ∈ ws, w.le) (hl : ws.length ≤ 21) : (lineT ws).length ≤ 442 := by
  have h1 := join_len (ws.map wb) (fun x hx => by
    obtain ⟨w, hw, rfl⟩ := List.mem_map.1 hx
    have h2 := h w hw
    cases w with
    | wd l => exact h2
    | num n => exact Nat.le_trans (shortN_len h2) (by decide))
  rw [List.length_map] at h1
  unfold lineT
  rw [List.length_append, List.length_singleton]
  omega
theorem flat_len {α β : Type} {f : α → List β} {K : Nat} : ∀ (l : List α), (∀ x ∈ l, (f x).length ≤ K) → (l.flatMap f).length ≤ l.length * K
  | [], _ => by simp
  | x :: l, h => by
    have h1 := h x (by simp)
    have h2 := flat_len l (fun y hy => h y (by simp [hy]))
    rw [List.flatMap_cons, List.length_append, List.length_cons, Nat.add_mul]
    omega
theorem name_le {b : ByteArray} (h : isName b = true) : (nameW b).le := by
  have : isNameL (bs b) = true := h
  simp only [isNameL, Bool.and_eq_true, decide_eq_true_eq] at this
  exact this.1.1.2
theorem line_le {ws : List Wd} {ns : List Int} (h : ∀ w ∈ ws, w.le) (hn : ∀ n ∈ ns, shortN n) (hl : ws.length + ns.length ≤ 21) : (lineT (ws ++ nums ns)).length ≤ 442 :=
  line_len (fun w hw => by
    rcases List.mem_append.1 hw with hw | hw
    · exact h w hw
    · obtain ⟨n, hn', rfl⟩ := List.mem_map.1 hw
      exact hn n hn') (by rw [List.length_append, nums, List.length_map]; exact hl)
theorem two_le {a : List UInt8} {b : ByteArray} (ha : a.length ≤ 20) (hb : isName b = true) : ∀ w ∈ [Wd.wd a, nameW b], w.le := fun w hw => by
  simp only [List.mem_cons, List.not_mem_nil, or_false] at hw
  rcases hw with rfl | rfl
  · exact ha
  · exact name_le hb
theorem text_len {h : HouseP} {c : SheetP} (hv : houseOkP h = true) (sv : sheetOkP c = true) : (textP h c).length ≤ 5000000 := by
  obtain ⟨hf, hr, hs, hse⟩ := house_fit hv
  obtain ⟨cf, hc, ha, hm⟩ := sheet_fit sv
  have hN : (linesP h c).length ≤ 10021 := by
    have e1 : (h.sets.flatMap setLns).length ≤ h.sets.length * 49 := flat_len _ (fun s hs' => by
      obtain ⟨_, _, h2, h3⟩ := hse s hs'
      simp only [setLns, List.length_cons, List.length_append, List.length_map]; omega)
    have e2 : (c.cues.flatMap cueLns).length ≤ c.cues.length * 101 := flat_len _ (fun q hq => by
      have := hm q hq
      simp only [cueLns, List.length_cons, List.length_map]; omega)
    simp only [linesP, List.length_cons, List.length_append, List.length_map]
    omega
  have hL : ∀ l ∈ linesP h c, (lineT l).length ≤ 442 := by
    intro l hl
    simp only [linesP, List.mem_cons, List.mem_append, List.mem_map, List.mem_flatMap, setLns, cueLns] at hl
    rcases hl with rfl | ((⟨x, hx, rfl⟩ | ⟨s, hs', rfl | ⟨x, hx, rfl⟩ | ⟨x, hx, rfl⟩⟩) | ⟨q, hq, rfl | ⟨m, hm', rfl⟩⟩) | ⟨x, hx, rfl⟩
    · exact line_le (ns := [h.height]) (two_le (by decide) hf.name) (fun n hn => by rw [List.mem_singleton.1 hn]; exact hf.height) (by simp)
    · exact line_le (ns := [x.fro, x.til, x.most]) (two_le (by decide) (hf.roofs x hx).1) (hf.roofs x hx).2 (by simp)
    · obtain ⟨sf, sl, -⟩ := hse s hs'
      exact line_le (ns := [s.depth, s.low, s.high, s.length, s.pipe, s.arbor, s.purchase, s.most, s.brake] ++ s.lines) (two_le (by decide) sf.name) (fun n hn => by
        rcases List.mem_append.1 hn with hn | hn
        · exact sf.nums n hn
        · exact sf.lines n hn) (by simp; omega)
    · exact line_le (ns := [x.place, x.width, x.weight, x.hang, x.front, x.back]) (two_le (by decide) ((hf.sets s hs').items x hx).1) ((hf.sets s hs').items x hx).2 (by simp)
    · exact line_le (ns := [x.weight, x.count]) (two_le (by decide) ((hf.sets s hs').bricks x hx).1) ((hf.sets s hs').bricks x hx).2 (by simp)
    · have qf := cf.cues q hq
      have e : cueLn q = (.wd wCue :: nameW q.name :: linkW q) ++ nums [q.delay, q.crew, q.power] := rfl
      have hk : (∀ w ∈ linkW q, w.le) ∧ (linkW q).length ≤ 2 := by
        unfold linkW
        rcases qf.link with ⟨h1, h2⟩ | ⟨h1 | h1, h2⟩
        · rw [if_pos h1]
          exact ⟨fun w hw => by rw [List.mem_singleton.1 hw]; exact (by decide : wManual.length ≤ 20), by simp⟩
        · rw [if_neg (by omega), if_pos h1]
          exact ⟨two_le (by decide) h2, by simp⟩
        · rw [if_neg (by omega), if_neg (by omega)]
          exact ⟨two_le (by decide) h2, by simp⟩
      rw [e]
      refine line_le (fun w hw => ?_) qf.nums (by simp only [List.length_cons, List.length_nil]; omega)
      simp only [List.mem_cons] at hw
      rcases hw with rfl | rfl | hw
      · exact (by decide : wCue.length ≤ 20)
      · exact name_le qf.name
      · exact hk.1 w hw
    · exact line_le (ns := [m.to, m.speed, m.rise, m.fall]) (two_le (by decide) ((cf.cues q hq).moves m hm').1) ((cf.cues q hq).moves m hm').2 (by simp)
    · have h2 := cf.apart x hx
      exact line_len (fun w hw => by
        simp only [apartLn, List.mem_cons, List.not_mem_nil, or_false] at hw
        rcases hw with rfl | rfl | rfl
        · exact (by decide : wApart.length ≤ 20)
        · exact name_le h2.1
        · exact name_le h2.2) (by simp [apartLn])
  have h1 := flat_len (linesP h c) hL
  unfold textP
  omega
end Go.Proofs.YtnjbfhfjdhfdlaaGreatDoor
namespace Go.Proofs.YtnjbfhfjdhfdlaaGreatDoor
open Go Go.RowKit

def strCell (s : ByteArray) : List Value := [.string s]
/-- what Names gives: names of sets and of cues, a place, an error's number -/
def srcN : TRes → (List ByteArray × List ByteArray) × (Int × Int) × Int
  | .bad a c => (([], []), (a, c), 7)
  | .good L => match readR L with
    | .error q => (([], []), q, 7)
    | .ok (x, _) => ((x.1.sets.map (·.name), x.2.cues.map (·.name)), (0, 0), 0)
def NamesPost (w : World) (x : (List ByteArray × List ByteArray) × (Int × Int) × Int) (e : Ending) (w' : World) : Prop :=
  Below w.heap.size w w' ∧ ∃ (S C : Sl ByteArray), e = .returned (.tuple #[.slice S.A S.l.length S.cap, .slice C.A C.l.length C.cap, .agg #[.int .i64 x.2.1.1, .int .i64 x.2.1.2], .int .i64 x.2.2]) ∧
    SlAt w' w'.heap.size 1 strCell S ∧ SlAt w' w'.heap.size 1 strCell C ∧ S.l = x.1.1 ∧ C.l = x.1.2
/-- a row of names that is being made -/
def NSt (W : World) (v : Value) (l : List ByteArray) (x : World) : Prop := x.ownsRow W.heap.size 9 1 v l.length (l.map Value.string) ∧ Below W.heap.size W x
theorem NSt.start (W : World) : NSt W (.slice none 0 0) [] W := ⟨own_nil _ _ _ _, Below.refl _ _⟩
theorem strs_flat : ∀ l : List ByteArray, l.flatMap strCell = l.map Value.string
  | [] => rfl
  | x :: l => by rw [List.flatMap_cons, strs_flat l]; rfl
theorem NSt.sl {W x : World} {v : Value} {l : List ByteArray} (h : NSt W v l x) : ∃ S : Sl ByteArray, v = .slice S.A S.l.length S.cap ∧ S.l = l ∧ SlAt x x.heap.size 1 strCell S := by
  rcases h.1.2 with ⟨e, h0⟩ | ⟨g, c, cur, e, _⟩
  · have hl : l = [] := List.eq_nil_of_length_eq_zero h0
    subst hl
    exact ⟨⟨none, 0, []⟩, e, rfl, slAt_nil⟩
  · refine ⟨⟨some ⟨g, 0, none⟩, c, l⟩, e, rfl, slAt_own (base := W.heap.size) (e := 9) (fun _ => rfl) ?_⟩
    rw [strs_flat]
    have h1 := h.1
    rw [e] at h1
    exact h1
theorem NSt.to {W x y : World} {v : Value} {l : List ByteArray} (h : NSt W v l x) (hb : Below x.heap.size x y) : NSt W v l y := ⟨own_below h.1 hb, h.2.trans (hb.mono h.2.size)⟩
theorem NSt.grow {W x y : World} {v : Value} {l : List ByteArray} {g cap : Nat} {n : ByteArray} (h : NSt W v l x) (hown : y.ownsRow W.heap.size 9 1 (.slice (some ⟨g, 0, none⟩) (l.length + 1) cap) (l.length + 1) (l.map Value.string ++ [.string n])) (hg : x.grownBy y v.ownBlock) :
    NSt W (.slice (some ⟨g, 0, none⟩) (l.length + 1) cap) (l ++ [n]) y := by
  refine ⟨?_, Below.grown h.2 hg h.2.size (own_owner h.1)⟩
  rw [List.map_append, List.length_append]
  exact hown
theorem own_put {x : World} {base : Nat} {e : TypeId} {size : Nat} {v : Value} {n : Nat} {xs : List Value} (h : x.ownsRow base e size v n xs) {b i : Nat} {u : Value} (hb : b < base) : (x.setCell ⟨b, i, none⟩ u).ownsRow base e size v n xs :=
  own_block h (fun g hg => Below.heap_setCell _ _ _ _ (by have := own_owner h g hg; simp only; omega))
theorem own_sl {x : World} {base : Nat} {S : Sl ByteArray} {l : List ByteArray} (hl : S.l = l) (h : x.ownsRow base 9 1 (.slice S.A S.l.length S.cap) l.length (l.map Value.string)) : SlAt x x.heap.size 1 strCell S := by
  subst hl
  exact slAt_own (base := base) (e := 9) (fun _ => rfl) (by rw [strs_flat]; exact h)
theorem namesS : (Tryz.prog.info? 9).map (fun i => (i.zero, i.size, i.bytes)) = some (some (.string ⟨#[]⟩), 1, 16) := by kernel_rfl
set_option maxRecDepth 100000 in
set_option maxHeartbeats 8000000 in
theorem names_any (s : ByteArray) (hs : s.size ≤ 262144) (w : World) (ht : TabsS w) : Calls Tryz.prog 17 #[.string s] w (NamesPost w (srcN (toks (bs s)))) := by
  obtain ⟨b, hb⟩ : ∃ b, b = w.heap.size := ⟨_, rfl⟩
  obtain ⟨U, hU, hUs, hUb, hUh⟩ := boxed w (.cells #[.int .i64 0, .int .i64 0] 40)
  rw [← hb] at hUs hUb hUh
  have HT := hide (read_any s hs U (ht.below (hb ▸ hUb)))
  obtain ⟨x1, hx1⟩ : ∃ x, x = toks (bs s) := ⟨_, rfl⟩
  rw [← hx1] at HT ⊢
  have HU := hide (show w.alloc (.cells #[.int .i64 0, .int .i64 0] 40) = U from hU.symm)
  have HB := hide hb
  have HUB := hide hUb
  clear hU hb ht hx1
  go_enter Tryz.func17, Tryz.ntmps17
  go_upto_region 1 with fail
  rw [HU.out, ← HB.out]
  go_wp2_with fail
  refine HT.out.mono ?_
  rintro e w1 ⟨hb1, hx⟩
  have hsz : b + 1 ≤ w1.heap.size := by rw [← hUs]; exact hb1.size
  have hC1 : w1.heap[b]? = some (.cells #[.int .i64 0, .int .i64 0] 40 (0, 0)) := (hb1.block b (by omega)).trans hUh
  have hbw1 : Below b w w1 := HUB.out.trans (hb1.mono (show b ≤ U.heap.size by omega))
  have HBW := hide hbw1
  have hcase : (∃ q : Int × Int, srcN x1 = (([], []), q, 7) ∧ e = .returned (.tuple #[.pointer none, .agg #[.int .i64 q.1, .int .i64 q.2], .int .i64 7])) ∨
      ∃ (x : HouseP × SheetP) (rb n : Nat) (tv : Value) (L : List TokD), srcN x1 = ((x.1.sets.map (·.name), x.2.cues.map (·.name)), (0, 0), 0) ∧ n ≤ 1000000 ∧ U.heap.size ≤ rb ∧ e = .returned (.tuple #[.pointer (some ⟨rb, 0, none⟩), .agg #[.int .i64 0, .int .i64 0], .int .i64 0]) ∧ RSt rb tv L n x.1 x.2 w1 := by
    cases x1 with
    | bad a c => exact Or.inl ⟨(a, c), rfl, hx⟩
    | good L =>
      cases hr : readR L with
      | error q =>
        simp only [hr] at hx
        exact Or.inl ⟨q, by simp only [srcN, hr], hx⟩
      | ok v =>
        obtain ⟨x, r⟩ := v
        simp only [hr] at hx
        obtain ⟨rb, n, tv, h0, h1, h2, h3⟩ := hx
        exact Or.inr ⟨x, rb, n, tv, L, by simp only [srcN, hr], h0, h1, h2, h3⟩
  clear hx hb1 hbw1 HT
  rcases hcase with ⟨⟨q0, q1⟩, hE, rfl⟩ | ⟨x, rb, n, tv, L, hE, hn6, hrb, rfl, hst⟩
  · have HE := hide hE
    clear hE
    go_upto_region 2 with fail
    obtain ⟨V, hV, hVs, hVb, hVh⟩ := boxed w1 (.cells #[.int .i64 q0, .int .i64 q1] 40)
    have aB : V.heap[b]? = some (.cells #[.int .i64 0, .int .i64 0] 40 (0, 0)) := (hVb.block b (by omega)).trans hC1
    have HBV := hide (show Below b w V from HBW.out.trans (hVb.mono (by omega)))
    have aG := two_cells hVh
    have aF0 : V.frozen? ⟨b, 0, none⟩ = false := block_unfrozen aB 0
    have aB1 : (V.setCell ⟨b, 0, none⟩ (.int .i64 q0)).heap[b]? = some (.cells #[.int .i64 q0, .int .i64 0] 40 (0, 0)) := block_set aB _
    have aF1 : (V.setCell ⟨b, 0, none⟩ (.int .i64 q0)).frozen? ⟨b, 1, none⟩ = false := block_unfrozen aB1 1
    have aB2 : ((V.setCell ⟨b, 0, none⟩ (.int .i64 q0)).setCell ⟨b, 1, none⟩ (.int .i64 q1)).heap[b]? = some (.cells #[.int .i64 q0, .int .i64 q1] 40 (0, 0)) := block_set aB1 _
    have aC := two_cells aB
    have aC1 := two_cells aB1
    have aC2 := two_cells aB2
    have hgs : w1.heap.size < V.heap.size := by omega
    have hbs : b < V.heap.size := by omega
    have HBF := hide ((HBV.out.setCell (p := ⟨b, 0, none⟩) (Nat.le_refl _) (.int .i64 q0)).setCell (p := ⟨b, 1, none⟩) (Nat.le_refl _) (.int .i64 q1))
    have HV := hide hV
    clear aB aB1 aB2 hVh hC1 hVb hV
    rw [← HV.out]
    go_wp2_with fail
    go_region
    all_goals
      go_simp
      go_wp2_with fail
      refine bodyPost_ret (v := .tuple #[.slice none 0 0, .slice none 0 0, .agg #[.int .i64 q0, .int .i64 q1], .int .i64 7]) (by simp [results, Tryz.results17, go_sem, aC2]) rfl ?_
      rw [HE.out]
      exact ⟨HB.out ▸ HBF.out.drew, ⟨none, 0, []⟩, ⟨none, 0, []⟩, rfl, slAt_nil, slAt_nil, rfl, rfl⟩
  · obtain ⟨S, R, C, A, hin, hS, hR, hC, hA⟩ := hst
    have hbx : w1.heap[rb]? = some (.cells #[tv, .int .i64 n, .string x.1.name, .int .i64 x.1.height, .slice S.A S.l.length S.cap, .slice R.A R.l.length R.cap, .slice C.A C.l.length C.cap, .slice A.A A.l.length A.cap] 100 (0, 0)) := hin.rd.box
    have hrbs := hin.rd.lt
    have hSn : S.l.length ≤ 1000000 := Nat.le_trans (hin.cnt ⟨63, 13, S.val, S.l.length, S.l.flatMap SetD.cells⟩ (by unfold memRows; simp)) hn6
    have hCn : C.l.length ≤ 1000000 := Nat.le_trans (hin.cnt ⟨80, 7, C.val, C.l.length, C.l.flatMap CueD.cells⟩ (by unfold memRows; simp)) hn6
    have hatH := rows_house hin.rows x.1.name x.1.height
    have hatS := rows_sheet hin.rows
    have hE2 : srcN x1 = ((S.l.map (·.name), C.l.map (·.name)), (0, 0), 0) := by
      rw [hE, ← hS, ← hC, List.map_map, List.map_map]; rfl
    have HE := hide hE2
    obtain ⟨hnm, hht⟩ : ∃ a : ByteArray × Int, a = (x.1.name, x.1.height) := ⟨_, rfl⟩
    obtain ⟨W, hW, hWs, hWb, hWh⟩ := boxed w1 (.cells #[.int .i64 0, .int .i64 0] 40)
    have hbx' := (hWb.block rb (by omega)).trans hbx
    have hC1' := (hWb.block b (by omega)).trans hC1
    have hatHW := hatH.to hWb (show w1.heap.size ≤ W.heap.size by omega)
    have hatSW := hatS.to hWb (show w1.heap.size ≤ W.heap.size by omega)
    have HAT := hide hatHW.sets
    have SAT := hide hatSW.cues
    have HBW2 := hide (show Below b w W from HBW.out.trans (hWb.mono (by omega)))
    have hcR := fun y : After W.heap.size W => And.intro (y.cells hbx' (by omega) 4 _ rfl) (y.cells hbx' (by omega) 6 _ rfl)
    have HC1 := hide hC1'
    have HW := hide hW
    have hm1 : S.cap ≤ 9223372036854775807 := hatHW.sets.2.1
    have hm2 : S.l.length ≤ S.cap := hatHW.sets.1
    have hm3 : C.cap ≤ 9223372036854775807 := hatSW.cues.2.1
    have hm4 : C.l.length ≤ C.cap := hatSW.cues.1
    obtain ⟨i8, hi8, hz8, hs8, hb8⟩ := info_parts namesS
    have HI := hide (And.intro hi8 (And.intro hz8 (And.intro hs8 hb8)))
    clear hE hE2 hS hR hC hA hin hatH hatS hatHW hatSW hbx hbx' hC1 hC1' hW hWh hnm hht hi8 hz8 hs8 hb8 hrb hrbs
    obtain ⟨sA, sc, sl⟩ := S
    obtain ⟨cA, cc, cl⟩ := C
    simp only at *
    have hc0 := hcR (After.refl _ _)
    simp only [After.refl] at hc0
    go_upto_region 2 with fail
    rw [← HW.out]
    go_wp2_with fail
    go_loopw [9, 31] (fun v9 v wr => ∃ k : Nat, v = .int .i64 k ∧ k ≤ sl.length ∧ Hid (NSt W v9 ((sl.take k).map (·.name)) wr)) (fun _ v _ => sl.length - (intOf v).toNat)
    case atStart => exact ⟨0, rfl, Nat.zero_le _, hide (NSt.start W)⟩
    case round =>
      obtain ⟨k, rfl, hk, hst⟩ := hrel
      have hcw := hcR ⟨wr, hst.out.2⟩
      simp only at hcw
      by_cases hlt : k < sl.length
      · obtain ⟨qb, qo, hA, hqb, hcell⟩ := HAT.out.2.2 (show 0 < sl.length by omega)
        simp only at hA
        subst hA
        obtain ⟨q, hq⟩ : ∃ q, sl[k]? = some q := ⟨sl[k], List.getElem?_eq_getElem hlt⟩
        have he := SetD.elem hq hqb hcell ⟨wr, hst.out.2⟩
        simp only at he
        have hlen : ((sl.take k).map (·.name)).length = k := by rw [List.length_map, List.length_take]; omega
        have hnext : (sl.take k).map (·.name) ++ [q.name] = (sl.take (k + 1)).map (·.name) := by
          rw [List.take_add_one, hq]; simp
        obtain ⟨V, hV, hVs, hVb, hVh⟩ := boxed wr (.cells #[.string q.name, .int .i64 q.depth, .int .i64 q.low, .int .i64 q.high, .int .i64 q.length, .slice q.lines.A q.lines.l.length q.lines.cap, .int .i64 q.pipe, .int .i64 q.arbor, .int .i64 q.purchase, .int .i64 q.most, .int .i64 q.brake, .slice q.items.A q.items.l.length q.items.cap, .slice q.bricks.A q.bricks.l.length q.bricks.cap] 63)
        have hcV := SetD.boxed (B := V.heap.size) hVh (by omega) (After.refl _ _)
        simp only [After.refl] at hcV
        have hsV := hst.out.to hVb
        have hXb : Below V.heap.size V (V.alloc (.cells #[.string q.name] 9 (0, 0))) := (Below.refl _ _).alloc (Nat.le_refl _) _
        have hsX := hsV.to hXb
        have hwV := hsV.2.size
        have HSX := hide hsX
        have HNX := hide hnext
        have HLN := hide hlen
        have HV := hide hV
        have hnb := heap_alloc_new V (.cells #[.string q.name] 9 (0, 0))
        rw [hVs] at hnb
        have HNB := hide hnb
        have hown := hsX.1
        rw [hlen] at hown
        have HOWN := hide hown
        clear hcell hq hV hVb hVh hsV hXb hsX hnext hlen hown hnb
        go_upto_region 8 with fail
        rw [← HV.out]
        go_wp2_with (at_builtin; refine Hid.out ?_)
        refine Lib.hid ?_
        refine wpList_append_lies _ rfl _ _ 45 rfl W.heap.size 9 i8 (.string ⟨#[]⟩) 1 16 Tryz.underlying45 HI.out.1 HI.out.2.1 HI.out.2.2.1 HI.out.2.2.2 rfl (by decide) _ k _ rfl HOWN.out ⟨wr.heap.size + 1, 0, none⟩ 1 1 [.string q.name] rfl rfl (World.news_of_block HNB.out) (fun u hu => by simp at hu; subst hu; rfl) (by omega) (by unfold maxLen; omega) (by omega) (by simp; omega) (V.heap.size + 1) (by simp) ?_
        intro g4 cap4 w4 hown4 hgr4 hg4 _
        have hs4 : NSt W (.slice (some ⟨g4, 0, none⟩) (k + 1) cap4) ((sl.take (k + 1)).map (·.name)) w4 := by
          have h := HSX.out.grow (g := g4) (cap := cap4) (n := q.name) (by rw [HLN.out]; exact hown4) hgr4
          rw [HLN.out, HNX.out] at h
          exact h
        have HS4 := hide hs4
        clear hs4 hown4 hgr4 hg4
        go_wp2_with fail
        exact ⟨⟨k + 1, by go_num, by omega, HS4⟩, by simp [intOf]; omega⟩
      · have hst2 : NSt W u9 (sl.map (·.name)) wr := by
          have h := hst.out
          rwa [List.take_of_length_le (by omega)] at h
        obtain ⟨Y, rfl⟩ : ∃ Y, Y = wr := ⟨_, rfl⟩
        have HSS := hide hst2
        have hcY := hst2.2
        have HWW := hide hst2.2
        have hbs := hst2.2.size
        have SAT2 := hide (SAT.out.to hst2.2 hbs)
        clear hst hst2 hcY
        go_wp2_with fail
        go_loopw [10, 47] (fun v10 v wx => ∃ k : Nat, v = .int .i64 k ∧ k ≤ cl.length ∧ Hid (NSt Y v10 ((cl.take k).map (·.name)) wx)) (fun _ v _ => cl.length - (intOf v).toNat)
        case atStart => exact ⟨0, rfl, Nat.zero_le _, hide (NSt.start _)⟩
        case round =>
          obtain ⟨k2, rfl, hk2, hst⟩ := hrel
          by_cases hlt2 : k2 < cl.length
          · obtain ⟨qb, qo, hA, hqb, hcell⟩ := SAT2.out.2.2 (show 0 < cl.length by omega)
            simp only at hA
            subst hA
            obtain ⟨q, hq⟩ : ∃ q, cl[k2]? = some q := ⟨cl[k2], List.getElem?_eq_getElem hlt2⟩
            have he := CueD.elem hq hqb hcell ⟨wr, hst.out.2⟩
            simp only at he
            have hlen : ((cl.take k2).map (·.name)).length = k2 := by rw [List.length_map, List.length_take]; omega
            have hnext : (cl.take k2).map (·.name) ++ [q.name] = (cl.take (k2 + 1)).map (·.name) := by
              rw [List.take_add_one, hq]; simp
            obtain ⟨V, hV, hVs, hVb, hVh⟩ := boxed wr (.cells #[.string q.name, .string q.after, .int .i64 q.link, .int .i64 q.delay, .slice q.moves.A q.moves.l.length q.moves.cap, .int .i64 q.crew, .int .i64 q.power] 80)
            have hcV := CueD.boxed (B := V.heap.size) hVh (by omega) (After.refl _ _)
            simp only [After.refl] at hcV
            have hsV := hst.out.to hVb
            have hXb : Below V.heap.size V (V.alloc (.cells #[.string q.name] 9 (0, 0))) := (Below.refl _ _).alloc (Nat.le_refl _) _
            have hsX := hsV.to hXb
            have hwV := hsV.2.size
            have HSX := hide hsX
            have HNX := hide hnext
            have HLN := hide hlen
            have HV := hide hV
            have hnb := heap_alloc_new V (.cells #[.string q.name] 9 (0, 0))
            rw [hVs] at hnb
            have HNB := hide hnb
            have hown := hsX.1
            rw [hlen] at hown
            have HOWN := hide hown
            clear hcell hq hV hVb hVh hsV hXb hsX hnext hlen hown hnb
            go_upto_region 13 with fail
            rw [← HV.out]
            go_wp2_with (at_builtin; refine Hid.out ?_)
            refine Lib.hid ?_
            refine wpList_append_lies _ rfl _ _ 45 rfl Y.heap.size 9 i8 (.string ⟨#[]⟩) 1 16 Tryz.underlying45 HI.out.1 HI.out.2.1 HI.out.2.2.1 HI.out.2.2.2 rfl (by decide) _ k2 _ rfl HOWN.out ⟨wr.heap.size + 1, 0, none⟩ 1 1 [.string q.name] rfl rfl (World.news_of_block HNB.out) (fun u hu => by simp at hu; subst hu; rfl) (by omega) (by unfold maxLen; omega) (by omega) (by simp; omega) (V.heap.size + 1) (by simp) ?_
            intro g4 cap4 w4 hown4 hgr4 hg4 _
            have hs4 : NSt Y (.slice (some ⟨g4, 0, none⟩) (k2 + 1) cap4) ((cl.take (k2 + 1)).map (·.name)) w4 := by
              have h := HSX.out.grow (g := g4) (cap := cap4) (n := q.name) (by rw [HLN.out]; exact hown4) hgr4
              rw [HLN.out, HNX.out] at h
              exact h
            have HS4 := hide hs4
            clear hs4 hown4 hgr4 hg4
            go_wp2_with fail
            exact ⟨⟨k2 + 1, by go_num, by omega, HS4⟩, by simp [intOf]; omega⟩
          · have hst3 : NSt Y u10 (cl.map (·.name)) wr := by
              have h := hst.out
              rwa [List.take_of_length_le (by omega)] at h
            have hY := hst3.2
            have hst4 := HSS.out.to hY
            have hb3 : Below W.heap.size W wr := HWW.out.trans (hY.mono hbs)
            have hbw := hb3.size
            have aB : wr.heap[b]? = some (.cells #[.int .i64 0, .int .i64 0] 40 (0, 0)) := (hb3.block b (by omega)).trans HC1.out
            have HBV := hide (show Below b w wr from HBW2.out.trans (hb3.mono (show b ≤ W.heap.size by omega)))
            obtain ⟨S1, rfl, hl1, hat1⟩ := hst4.sl
            obtain ⟨S2, rfl, hl2, hat2⟩ := hst3.sl
            have aF0 : wr.frozen? ⟨b, 0, none⟩ = false := block_unfrozen aB 0
            have aB1 : (wr.setCell ⟨b, 0, none⟩ (.int .i64 0)).heap[b]? = some (.cells #[.int .i64 0, .int .i64 0] 40 (0, 0)) := block_set aB _
            have aF1 : (wr.setCell ⟨b, 0, none⟩ (.int .i64 0)).frozen? ⟨b, 1, none⟩ = false := block_unfrozen aB1 1
            have aB2 : ((wr.setCell ⟨b, 0, none⟩ (.int .i64 0)).setCell ⟨b, 1, none⟩ (.int .i64 0)).heap[b]? = some (.cells #[.int .i64 0, .int .i64 0] 40 (0, 0)) := block_set aB1 _
            have aC := two_cells aB
            have aC1 := two_cells aB1
            have aC2 := two_cells aB2
            have HBF := hide ((HBV.out.setCell (p := ⟨b, 0, none⟩) (Nat.le_refl _) (.int .i64 0)).setCell (p := ⟨b, 1, none⟩) (Nat.le_refl _) (.int .i64 0))
            have HSL := hide (And.intro hst4 (And.intro hst3 (And.intro hl1 hl2)))
            have hbW : b < W.heap.size := by omega
            have HbW := hide hbW
            clear aB aB1 aB2 hb3 hst hst3 hst4 hat1 hat2 hY hl1 hl2
            go_wp2_with fail
            refine bodyPost_ret (v := .tuple #[.slice S1.A S1.l.length S1.cap, .slice S2.A S2.l.length S2.cap, .agg #[.int .i64 0, .int .i64 0], .int .i64 0]) (by simp [results, Tryz.results17, go_sem, aC2]) rfl ?_
            rw [HE.out]
            obtain ⟨k1, k2', k3, k4⟩ := HSL.out
            exact ⟨HB.out ▸ HBF.out, S1, S2, rfl, own_sl k3 (own_put (own_put k1.1 HbW.out) HbW.out), own_sl k4 (own_put (own_put k2'.1 (by have := HWW.out.size; have := HbW.out; omega)) (by have := HWW.out.size; have := HbW.out; omega)), k3, k4⟩
end Go.Proofs.YtnjbfhfjdhfdlaaGreatDoor
namespace Go.Proofs.YtnjbfhfjdhfdlaaGreatDoor
open Go Go.RowKit

/-- what Text gives -/
def textV (h : HouseP) (c : SheetP) : Value := if (houseOkP h && sheetOkP c) = true then textE (textP h c) else .tuple #[.string ⟨#[]⟩, .int .i64 1]
theorem text_full (h : HouseD) (s : SheetD) (hok : h.ok) (sok : s.ok) (hmv : ∀ q ∈ s.cues.l, q.moves.l.length ≤ 1000000) (w : World) (ht : Tabs w) (B : Nat) (hB : B ≤ w.heap.size) (hat : HouseD.at_ w B h) (sat : SheetD.at_ w B s) :
    Calls Tryz.prog 10 #[.agg #[.string h.name, .int .i64 h.height, .slice h.sets.A h.sets.l.length h.sets.cap, .slice h.roofs.A h.roofs.l.length h.roofs.cap], .agg #[.slice s.cues.A s.cues.l.length s.cues.cap, .slice s.apart.A s.apart.l.length s.apart.cap]] w (Gives w (textV h.pl s.pl)) := by
  have e1 := houseOk_plain h
  have e2 := sheetB_plain s
  cases hv : (houseOkP h.pl && sheetOkP s.pl) with
  | true =>
    have hv2 := hv
    rw [Bool.and_eq_true] at hv2
    rw [textV, if_pos hv]
    exact text_any h s hok sok (e1.trans hv2.1) (e2.trans hv2.2) hmv w ht B hB hat sat _ (Nat.le_trans (text_len hv2.1 hv2.2) (by decide)) rfl
  | false =>
    rw [textV, if_neg (by rw [hv]; simp)]
    exact text_none h s hok sok (by rw [e1, e2]; exact hv) hmv w B hB hat sat
theorem srcE_text {h : HouseP} {c : SheetP} (hv : houseOkP h = true) (sv : sheetOkP c = true) : srcE (toks (textP h c)) = ((h, c), (0, 0), 0) := by
  obtain ⟨h1, r, h2⟩ := read_text (house_fit hv).1 (sheet_fit sv).1
  rw [h1]
  simp only [srcE, h2, hv, sv, Bool.and_self, if_true]
theorem srcE_cases (x : TRes) : (∃ h c, srcE x = ((h, c), (0, 0), 0) ∧ houseOkP h = true ∧ sheetOkP c = true) ∨ (∃ p, srcE x = ((zeroH, zeroS), p, 7)) ∨ srcE x = ((zeroH, zeroS), (0, 0), 1) := by
  cases x with
  | bad a c => exact Or.inr (Or.inl ⟨(a, c), rfl⟩)
  | good L =>
    cases hr : readR L with
    | error q => exact Or.inr (Or.inl ⟨q, by simp only [srcE, hr]⟩)
    | ok v =>
      obtain ⟨⟨h, c⟩, r⟩ := v
      have e : srcE (.good L) = if (houseOkP h && sheetOkP c) = true then ((h, c), (0, 0), 0) else ((zeroH, zeroS), (0, 0), 1) := by simp only [srcE, hr]
      rw [e]
      by_cases hk : (houseOkP h && sheetOkP c) = true
      · rw [if_pos hk]
        rw [Bool.and_eq_true] at hk
        exact Or.inl ⟨h, c, rfl, hk⟩
      · rw [if_neg hk]
        exact Or.inr (Or.inr rfl)
/-- what Format gives -/
def fmtE (x : TRes) : Value :=
  if (srcE x).2.2 = 0 then
    if (textP (srcE x).1.1 (srcE x).1.2).length ≤ 262144 then .tuple #[.string ⟨(textP (srcE x).1.1 (srcE x).1.2).toArray⟩, .agg #[.int .i64 0, .int .i64 0], .int .i64 0]
    else .tuple #[.string ⟨#[]⟩, .agg #[.int .i64 0, .int .i64 0], .int .i64 4]
  else .tuple #[.string ⟨#[]⟩, .agg #[.int .i64 (srcE x).2.1.1, .int .i64 (srcE x).2.1.2], .int .i64 (srcE x).2.2]
set_option maxRecDepth 100000 in
set_option maxHeartbeats 8000000 in
theorem format_any (s : ByteArray) (hs : s.size ≤ 262144) (w : World) (ht : TabsS w) : Calls Tryz.prog 16 #[.string s] w (Gives w (fmtE (toks (bs s)))) := by
  obtain ⟨b, hb⟩ : ∃ b, b = w.heap.size := ⟨_, rfl⟩
  obtain ⟨U, hU, hUs, hUb, hUh⟩ := boxed w (.cells #[.int .i64 0, .int .i64 0] 40)
  rw [← hb] at hUs hUb hUh
  have P1 := parse_any s hs U (ht.below (hb ▸ hUb))
  have HTU := hide (ht.below (hb ▸ hUb))
  obtain ⟨z, hz⟩ : ∃ z, z = toks (bs s) := ⟨_, rfl⟩
  rw [← hz] at P1 ⊢
  have hcs := srcE_cases z
  obtain ⟨V0, hV0⟩ : ∃ V0, V0 = fmtE z := ⟨_, rfl⟩
  rw [← hV0]
  have HV0 := hide hV0
  have HP1 := hide P1
  have HU := hide (show w.alloc (.cells #[.int .i64 0, .int .i64 0] 40) = U from hU.symm)
  have HB := hide hb
  have HUB := hide hUb
  clear hU P1 hz hb hV0 ht
  go_enter Tryz.func16, Tryz.ntmps16
  go_upto_region 1 with fail
  rw [HU.out, ← HB.out]
  go_wp2_with fail
  refine HP1.out.mono ?_
  rintro e w1 ⟨hb1, a1, s1, rfl, hA1, hS1, hp1, hq1, hok, sok, hmv⟩
  have hsz : b + 1 ≤ w1.heap.size := by rw [← hUs]; exact hb1.size
  have hC1 : w1.heap[b]? = some (.cells #[.int .i64 0, .int .i64 0] 40 (0, 0)) := (hb1.block b (by omega)).trans hUh
  obtain ⟨V, hV, hVs, hVb, hh1, hh2, hh3⟩ := three_boxed w1 (.cells #[.string a1.name, .int .i64 a1.height, .slice a1.sets.A a1.sets.l.length a1.sets.cap, .slice a1.roofs.A a1.roofs.l.length a1.roofs.cap] 25 (0, 0)) (.cells #[.slice s1.cues.A s1.cues.l.length s1.cues.cap, .slice s1.apart.A s1.apart.l.length s1.apart.cap] 29 (0, 0)) (.cells #[.int .i64 (srcE z).2.1.1, .int .i64 (srcE z).2.1.2] 40 (0, 0))
  have hCV : V.heap[b]? = some (.cells #[.int .i64 0, .int .i64 0] 40 (0, 0)) := (hVb.block b (by omega)).trans hC1
  have HBV := hide (show Below b w V from HUB.out.trans ((hb1.mono (show b ≤ U.heap.size by omega)).trans (hVb.mono (by omega))))
  have hTV := HTU.out.below (hb1.trans (hVb.mono (by have := hb1.size; omega)))
  have hA := hA1.to (hVb.mono (by omega)) (show w1.heap.size ≤ V.heap.size by omega)
  have hS := hS1.to (hVb.mono (by omega)) (show w1.heap.size ≤ V.heap.size by omega)
  have KT := hide (text_full a1 s1 hok sok hmv V hTV.1 V.heap.size (Nat.le_refl _) hA hS)
  rw [hp1, hq1] at KT
  have f1 := HouseD.boxed (h := a1) (B := V.heap.size) hh1 (by omega) (After.refl _ _)
  have f2 := SheetD.boxed (s := s1) (B := V.heap.size) hh2 (by omega) (After.refl _ _)
  simp only [After.refl] at f1 f2
  have HV := hide hV
  clear hV hb1 hA1 hS1 hok sok hmv hTV hA hS hC1 hh1 hh2 hp1 hq1 HP1
  rcases hcs with ⟨ph, pc, hE, hv, sv⟩ | hbad
  · rw [hE] at HV hh3 KT
    simp only [textV, hv, sv, Bool.and_self, if_true] at KT
    have hE0 : fmtE z = if (textP ph pc).length ≤ 262144 then .tuple #[.string ⟨(textP ph pc).toArray⟩, .agg #[.int .i64 0, .int .i64 0], .int .i64 0] else .tuple #[.string ⟨#[]⟩, .agg #[.int .i64 0, .int .i64 0], .int .i64 4] := by
      unfold fmtE; rw [hE]; rfl
    have HE := hide (HV0.out.trans hE0)
    rw [hE]
    clear hE hE0 hv sv
    simp only at hh3 HV ⊢
    go_upto_region 2 with fail
    rw [← HV.out]
    by_cases hl : (textP ph pc).length ≤ 262144
    · have HE2 := hide (HE.out.trans (if_pos hl))
      rw [textE, if_pos hl] at KT
      go_wp2_with fail
      refine KT.out.mono ?_
      rintro e w2 ⟨rfl, hb2⟩
      have aB : w2.heap[b]? = some (.cells #[.int .i64 0, .int .i64 0] 40 (0, 0)) := (hb2.block b (by omega)).trans hCV
      have aF0 : w2.frozen? ⟨b, 0, none⟩ = false := block_unfrozen aB 0
      have aB1 : (w2.setCell ⟨b, 0, none⟩ (.int .i64 0)).heap[b]? = some (.cells #[.int .i64 0, .int .i64 0] 40 (0, 0)) := block_set aB _
      have aF1 : (w2.setCell ⟨b, 0, none⟩ (.int .i64 0)).frozen? ⟨b, 1, none⟩ = false := block_unfrozen aB1 1
      have aB2 : ((w2.setCell ⟨b, 0, none⟩ (.int .i64 0)).setCell ⟨b, 1, none⟩ (.int .i64 0)).heap[b]? = some (.cells #[.int .i64 0, .int .i64 0] 40 (0, 0)) := block_set aB1 _
      have aC := two_cells aB
      have aC1 := two_cells aB1
      have aC2 := two_cells aB2
      have HBF := hide (((HBV.out.trans (hb2.mono (show b ≤ V.heap.size by omega))).setCell (p := ⟨b, 0, none⟩) (Nat.le_refl _) (.int .i64 0)).setCell (p := ⟨b, 1, none⟩) (Nat.le_refl _) (.int .i64 0))
      clear aB aB1 aB2 hb2
      go_wp2_with fail
      refine bodyPost_ret (v := .tuple #[.string ⟨(textP ph pc).toArray⟩, .agg #[.int .i64 0, .int .i64 0], .int .i64 0]) (by simp [results, Tryz.results16, go_sem, aC2]) rfl ?_
      exact Gives.mk HE2.out.symm (HB.out ▸ HBF.out)
    · have HE2 := hide (HE.out.trans (if_neg hl))
      rw [textE, if_neg hl] at KT
      go_wp2_with fail
      refine KT.out.mono ?_
      rintro e w2 ⟨rfl, hb2⟩
      have aB : w2.heap[b]? = some (.cells #[.int .i64 0, .int .i64 0] 40 (0, 0)) := (hb2.block b (by omega)).trans hCV
      have aF0 : w2.frozen? ⟨b, 0, none⟩ = false := block_unfrozen aB 0
      have aB1 : (w2.setCell ⟨b, 0, none⟩ (.int .i64 0)).heap[b]? = some (.cells #[.int .i64 0, .int .i64 0] 40 (0, 0)) := block_set aB _
      have aF1 : (w2.setCell ⟨b, 0, none⟩ (.int .i64 0)).frozen? ⟨b, 1, none⟩ = false := block_unfrozen aB1 1
      have aB2 : ((w2.setCell ⟨b, 0, none⟩ (.int .i64 0)).setCell ⟨b, 1, none⟩ (.int .i64 0)).heap[b]? = some (.cells #[.int .i64 0, .int .i64 0] 40 (0, 0)) := block_set aB1 _
      have aC := two_cells aB
      have aC1 := two_cells aB1
      have aC2 := two_cells aB2
      have HBF := hide (((HBV.out.trans (hb2.mono (show b ≤ V.heap.size by omega))).setCell (p := ⟨b, 0, none⟩) (Nat.le_refl _) (.int .i64 0)).setCell (p := ⟨b, 1, none⟩) (Nat.le_refl _) (.int .i64 0))
      clear aB aB1 aB2 hb2
      go_wp2_with fail
      refine bodyPost_ret (v := .tuple #[.string ⟨#[]⟩, .agg #[.int .i64 0, .int .i64 0], .int .i64 4]) (by simp [results, Tryz.results16, go_sem, aC2]) rfl ?_
      exact Gives.mk HE2.out.symm (HB.out ▸ HBF.out)
  · have hk : ∃ (p0 p1 k : Int), (k = 7 ∨ k = 1) ∧ srcE z = ((zeroH, zeroS), (p0, p1), k) := by
      rcases hbad with ⟨⟨p0, p1⟩, h⟩ | h
      · exact ⟨p0, p1, 7, Or.inl rfl, h⟩
      · exact ⟨0, 0, 1, Or.inr rfl, h⟩
    obtain ⟨p0, p1, k, hk, hE⟩ := hk
    have hE0 : fmtE z = .tuple #[.string ⟨#[]⟩, .agg #[.int .i64 p0, .int .i64 p1], .int .i64 k] := by
      unfold fmtE; rw [hE]; rcases hk with rfl | rfl <;> rfl
    have HE := hide (HV0.out.trans hE0)
    rw [hE] at HV hh3 ⊢
    clear hE hE0 hbad KT f1 f2
    simp only at hh3 HV ⊢
    have aB := hCV
    have aG := two_cells hh3
    have aF0 : V.frozen? ⟨b, 0, none⟩ = false := block_unfrozen aB 0
    have aB1 : (V.setCell ⟨b, 0, none⟩ (.int .i64 p0)).heap[b]? = some (.cells #[.int .i64 p0, .int .i64 0] 40 (0, 0)) := block_set aB _
    have aF1 : (V.setCell ⟨b, 0, none⟩ (.int .i64 p0)).frozen? ⟨b, 1, none⟩ = false := block_unfrozen aB1 1
    have aB2 : ((V.setCell ⟨b, 0, none⟩ (.int .i64 p0)).setCell ⟨b, 1, none⟩ (.int .i64 p1)).heap[b]? = some (.cells #[.int .i64 p0, .int .i64 p1] 40 (0, 0)) := block_set aB1 _
    have aC := two_cells aB
    have aC1 := two_cells aB1
    have aC2 := two_cells aB2
    have hgs : w1.heap.size + 1 + 1 < V.heap.size := by omega
    have hbs : b < V.heap.size := by omega
    have HBF := hide ((HBV.out.setCell (p := ⟨b, 0, none⟩) (Nat.le_refl _) (.int .i64 p0)).setCell (p := ⟨b, 1, none⟩) (Nat.le_refl _) (.int .i64 p1))
    clear aB aB1 aB2 hh3 hCV
    go_upto_region 2 with fail
    rw [← HV.out]
    rcases hk with rfl | rfl
    all_goals
      go_wp2_with fail
      go_region
      all_goals
        go_simp
        go_wp2_with fail
        refine bodyPost_ret (v := fmtE z) (by rw [← HV0.out, HE.out]; simp [results, Tryz.results16, go_sem, aC2]) rfl ?_
        exact Gives.mk HV0.out.symm (HB.out ▸ HBF.out.drew)
end Go.Proofs.YtnjbfhfjdhfdlaaGreatDoor
