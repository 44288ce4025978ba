/- ledger.good. -/
import Derived.Test.YtemlaliackblkaaDoorLedEntry
import Derived.Test.YtemlaliackblkaaDoorLedValid
import Derived.Test.YtemlaliackblkaaDoorLedRec
import Derived.Deep.RegionLaw
import Derived.IntWalk
import Derived.Deep.RegionHeld3
namespace Go.Proofs.YtemlaliackblkaaDoor
open Go.RowKit

section
variable {P : Program}
theorem slice_both (W : World) (t e : TypeId) (size : Nat) (ht : P.underlying t = some (.slice e)) (hz : ∀ w, (Go.sizeOf e).run P w = .ok size w) (b o len cap l n : Nat) (hi : Int) (he : hi = (l : Int) + (n : Int)) (hc : l + n ≤ cap) (hlc : l < cap) :
    (Instr.slice t (.slice (some ⟨b, o, none⟩) len cap) (some (.int .i64 (l : Int))) (some (.int .i64 hi)) none).run P W = .ok (.slice (some ⟨b, o + l * size, none⟩) n (cap - l)) W := by
  subst he
  have ht' : P.underlying t = some (.slice (P.elem t)) := by simp [Program.elem, ht]
  have he : P.elem t = e := by simp [Program.elem, ht]
  have e1 : ((l : Int) + (n : Int)).toNat = l + n := by omega
  rw [run_slice_lh W t _ _ _ ht' .i64 .i64 _ _ (by omega) (by omega) (by omega), he, hz]
  have hne : ¬ cap = l := by omega
  by_cases h0 : l * size = 0
  · simp [Result.andThen, sliced, Addr.add, hne, h0, e1]
  · simp [Result.andThen, sliced, Addr.add, hne, h0, e1]
theorem step_append_guard (w : World) {ops : Array Oper} {o : Oper} {a : Act} {K : Act → World → Prop} {Q : Exit → Act → World → Prop} {E : Prop} (hw : Region.wanted o (yielded ops a.tmps) = true) (s x : Operand) (t : TypeId)
    (ho : o.op = .call { callee := .builtin .append, args := #[s, x], argTypes := #[t, t] })
    (base : Nat) (e : TypeId) (i : TypeInfo) (z : Value) (size bytes : Nat) (ht : P.underlying t = some (.slice e)) (hi : P.info? e = some i) (hz : i.zero = some z)
    (hsize : i.size = size) (hby : i.bytes = bytes) (hzs : z.cells.size = size) (hsz : 0 < size)
    (v : Value) (n : Nat) (xs : List Value) (hs : a.eval s = v) (hown : w.ownsRow base e size v n xs)
    (ad : Addr) (m c : Nat) (news : List Value) (hx : a.eval x = .slice (some ad) m c) (hl : news.length = m * size) (hnews : ∀ j u, news[j]? = some u → w.cell? (ad.add j) = some u) (h1 : ∀ u ∈ news, u.oneCell' = true)
    (hm : 0 < m) (h63 : n + m ≤ maxLen) (hbytes : (n + m) * bytes ≤ 140737488355328) (hbase : base ≤ w.heap.size) (H : Nat) (hH : w.heap.size = H)
    (h : ∀ g cap w', w'.ownsRow base e size (.slice (some ⟨g, 0, none⟩) (n + m) cap) (n + m) (xs ++ news) → w.grownBy w' v.ownBlock → (v.ownBlock = some g ∨ g = H) → g < w'.heap.size → K (a.put o.dst (.slice (some ⟨g, 0, none⟩) (n + m) cap)) w') :
    if Region.wanted o (yielded ops a.tmps) = true then Oper.wp P o a w K Q else E := by
  rw [if_pos hw]
  exact wp_append_lies w s x t ho base e i z size bytes ht hi hz hsize hby hzs hsz v n xs hs hown ad m c news hx hl hnews h1 hm h63 hbytes hbase H hH h
end
theorem ok_of_small {x : LogD} (h : Small x) : x.ok := by
  have h1 := h.day
  have h2 := h.kind
  have h3 := h.runs
  have h4 := h.name
  refine ⟨by unfold I64; omega, ?_, by unfold I64; omega, by unfold I64; omega⟩
  simp only [isName, isNameL, Bool.and_eq_true, decide_eq_true_eq] at h4
  have := h4.1.1.2
  rw [bs_length] at this
  unfold maxLen; omega
theorem ok_of_log {l : List LogD} (h : logOk l = true) : ∀ x ∈ l, x.ok := fun x hx => ok_of_small (small_of_log h x hx)
theorem log_short {l : List LogD} (h : logOk l = true) : l.length ≤ 1000 := by
  simp only [logOk, Bool.and_eq_true, decide_eq_true_eq] at h; exact h.1
/-- what one round of the reading finds -/
theorem step_no {b : List UInt8} {at_ : Nat} {l : List LogD} {x : LogD} {s n : Int} (h : EntryIs (b.drop at_) x s n false) : stepE b at_ l = .stop 7 := by
  unfold EntryIs at h
  unfold stepE
  split at h
  · rename_i hf; rw [hf]
  · rename_i m hf
    rw [hf]
    simp only
    rw [h.1.of_false]
theorem step_yes {b : List UInt8} {at_ : Nat} {l : List LogD} {x : LogD} {s n : Int} (h : EntryIs (b.drop at_) x s n true) (hat : at_ ≤ b.length) :
    ∃ m : Nat, n = (m : Int) + 1 ∧ at_ + (m + 1) ≤ b.length ∧ entryE ((b.drop at_).take m) = some (x, s) ∧ (b.drop at_).take (m + 1) = headE x ++ (Lib.itoa s ++ [10]) ∧
      stepE b at_ l = (if (sumE (b.take at_ ++ headE x) : Int) = s then (if logOk (l ++ [x]) = true then .next x (m + 1) else .stop 1) else .stop 18) := by
  unfold EntryIs at h
  split at h
  · cases h
  · rename_i m hf
    have he := h.1.of_true
    have h1 := find10 hf
    have h2 := (entryE_shape he).1
    refine ⟨m, h.2 rfl, by have := h1.1; rw [List.length_drop] at this; omega, he, ?_, ?_⟩
    · have h10 : (b.drop at_)[m]? = some 10 := by
        rw [h1.2.1, List.getElem?_append_right (by rw [List.length_take]; omega), List.length_take, Nat.min_eq_left (by omega), Nat.sub_self]; rfl
      rw [List.take_add_one, h10, h2]
      simp
    · unfold stepE
      rw [hf]
      simp only
      rw [he]
theorem itoa_inj {a c : Int} (ha : 0 ≤ a) (ha2 : a < 1000000000000000) (hc : 0 ≤ c) (hc2 : c < 1000000000000000) (h : Lib.itoa a = Lib.itoa c) : a = c := by
  have h1 := (intOk_itoa ha ha2).2
  have h2 := (intOk_itoa hc hc2).2
  rw [← h1, ← h2, h]
/-- a record is what it should be exactly if its sum is right -/
theorem rec_same {pre : List UInt8} {x : LogD} {s : Int} (h0 : 0 ≤ s) (h1 : s < 1000000000000000) : ((headE x ++ (Lib.itoa s ++ [10])) == recE pre x) = decide ((sumE (pre ++ headE x) : Int) = s) := by
  rw [Bool.eq_iff_iff, beq_iff_eq, decide_eq_true_eq, recE]
  have hs := sum_small (pre ++ headE x)
  constructor
  · intro h
    have h2 := List.append_cancel_left h
    have h3 := List.append_cancel_right h2
    exact (itoa_inj h0 h1 hs.1 hs.2 h3).symm
  · intro h; rw [h]
set_option maxRecDepth 100000 in
set_option maxHeartbeats 8000000 in
theorem good_any (A : Option Addr) (cap : Nat) (b : List UInt8) (hb : b.length ≤ 1048576) (w : World) (ht : Tabs w) (B : Nat) (hB : B ≤ w.heap.size) (hs : SlAt w B 1 byteCells ⟨A, cap, b⟩) :
    Calls Tryd.prog 37 #[.slice A b.length cap] w fun e w' => ∃ (v : Value) (at_ : Nat) (l : List LogD) (er : Int), e = .returned (.tuple #[v, .int .i64 at_]) ∧ Ends b at_ l er ∧ OwnSt 24 4 LogD.cells w v l w' := by
  obtain ⟨i0, hi, hz0, hz1, hz2⟩ := info_parts infoLog
  have hlc : b.length ≤ cap := hs.1
  have hlm : cap ≤ 9223372036854775807 := hs.2.1
  have HS := hide hs
  have HT := hide ht
  have HI := hide (And.intro hi (And.intro hz0 (And.intro hz1 hz2)))
  clear hs ht hi hz0 hz1 hz2
  go_enter Tryd.func37, Tryd.ntmps37
  go_wp2
  go_loopw [4, 5] (fun u v wr => ∃ (k : Nat) (L : List LogD), v = .int .i64 k ∧ k ≤ b.length ∧ Hid (Reach b k L) ∧ Hid (OwnSt 24 4 LogD.cells w u L wr)) (fun _ v _ => b.length - (intOf v).toNat)
  case atStart => exact ⟨0, [], rfl, Nat.zero_le _, hide Reach.start, hide (OwnSt.start _ _ _ (Below.refl _ _))⟩
  case round =>
    obtain ⟨k, L, rfl, hk, HR, HST⟩ := hrel
    by_cases hlt : k < b.length
    · obtain ⟨g, off, hA, hgB, hcell⟩ := HS.out.2.2 (show 0 < b.length by omega)
      simp only at hA
      subst hA
      have hw1 := HST.out.bel
      have hsr := HS.out.to (hw1.mono hB) (show B ≤ wr.heap.size by have := hw1.size; omega)
      have hsd := hsr.drop k (by omega)
      have hfr := fun W : World => slice_from (P := Tryd.prog) W 22 5 1 Tryd.underlying22 Tryd.sizeOf5 g off b.length cap k (by omega) (by omega)
      have hld : (b.drop k).length = b.length - k := List.length_drop
      have KE := hide (entry_any g (off + k * 1) (cap - k) (b.drop k) (by omega) (by omega) wr (HT.out.below hw1) wr.heap.size (Nat.le_refl _) hsd)
      rw [hld, Nat.mul_one] at KE
      obtain ⟨Lv, Lcap, rfl, hsu⟩ := HST.out.slAt logCells_len
      have HSU := hide hsu
      have HW1 := hide hw1
      have hkk : (k : Int) < (b.length : Int) := by omega
      clear hcell hw1 hsr hsd hld hsu
      go_wp2_with fail
      refine KE.out.mono ?_
      rintro e w1 ⟨x, s, n, ok, rfl, hen, hb1⟩
      have HEN := hide hen
      obtain ⟨V, hV, hVs, hVb, hVh⟩ := boxed w1 (.cells #[.int .i64 x.day, .string x.rope, .int .i64 x.kind, .int .i64 x.runs] 24)
      have hcV := fun y : After V.heap.size V => LogD.boxed hVh (by omega) y
      have HRV := hide (hb1.trans (hVb.mono hb1.size) : Below wr.heap.size wr V)
      have HV := hide hV
      have HVS := hide hVs
      have HVH := hide hVh
      clear hen hV hVs hVb hVh hb1
      go_upto_region 5 with fail
      rw [← HV.out]
      go_cut [48] (fun a wx => ∃ nb : Bool, a = .bool nb ∧ Hid ((nb = true ∧ ∃ er, stepE b k L = .stop er) ∨ (nb = false ∧ ∃ m : Nat, n = (m : Int) + 1 ∧ k + (m + 1) ≤ b.length ∧ stepE b k L = .next x (m + 1))) ∧ ∃ z : After V.heap.size V, wx = z.val)
      case first =>
        cases ok
        · have HF := hide (step_no (l := L) HEN.out)
          refine wp_region_after (After.refl V.heap.size V) (by kernel_rfl) (by kernel_rfl) ?_
          repeat (go_big_quiet_step (fail))
          refine wpQuiet_nil ?_
          intro z
          go_wp2_with fail
          go_meet
          exact ⟨true, rfl, hide (Or.inl ⟨rfl, _, HF.out⟩), _, rfl⟩
        · obtain ⟨m, rfl, hmb, he, hline, hstep⟩ := step_yes (l := L) HEN.out (by omega)
          have hsh := entryE_shape he
          have hxs := hsh.2.1
          have hxr := entry_size he
          have HSTEP := hide hstep
          have hlog := log_short HR.out.ok
          have hke : (b.take k).length = k := by rw [List.length_take]; omega
          have hVB : ∀ u : World, Below V.heap.size V u → Below w.heap.size w u := fun u hu => HW1.out.trans ((HRV.out.trans (hu.mono HRV.out.size)).mono HW1.out.size)
          have HVB := hide hVB
          have hsu := fun (u : World) (hu : Below V.heap.size V u) => HS.out.to ((HVB.out u hu).mono hB) (show B ≤ u.heap.size by have := (HVB.out u hu).size; omega)
          have hfr2 := fun W : World => slice_both (P := Tryd.prog) W 22 5 1 Tryd.underlying22 Tryd.sizeOf5 g off b.length cap k (m + 1) ((k : Int) + ((m : Int) + 1)) (by omega) (by omega) (by omega)
          have hto := fun W : World => slice_to (P := Tryd.prog) W 22 5 1 Tryd.underlying22 Tryd.sizeOf5 (some ⟨g, off, none⟩) b.length cap k (by omega)
          obtain ⟨Rr, hRr⟩ : ∃ Rr, Rr = recE (b.take k) x := ⟨_, rfl⟩
          have hsame := rec_same (pre := b.take k) (x := x) hsh.2.2.1 hsh.2.2.2
          rw [← hline, ← hRr] at hsame
          have KR := hide (fun (u : World) (hu : Below V.heap.size V u) => (record_any (some ⟨g, off, none⟩) cap (b.take k) (fun h => by cases h) (by omega) x (ok_of_small hxs) (by omega) u (HT.out.below (HVB.out u hu)) u.heap.size (Nat.le_refl _) ((hsu u hu).take k)).mono (R' := fun e w2 => ∃ A1 cap1, e = .returned (.slice (some A1) (recE (b.take k) x).length cap1) ∧ Hid (SlAt w2 w2.heap.size 1 byteCells ⟨some A1, cap1, recE (b.take k) x⟩) ∧ Below V.heap.size V w2) fun e w2 ⟨A1, cap1, h1, h2, h3⟩ => ⟨A1, cap1, h1, hide h2, hu.trans (h3.mono hu.size)⟩)
          rw [hke, ← hRr] at KR
          have hlm1 : ((b.drop k).take (m + 1)).length = m + 1 := by rw [List.length_take, List.length_drop]; omega
          have KQ := hide (fun (u : World) (hu : Below V.heap.size V u) A1 cap1 (hs1 : Hid (SlAt u u.heap.size 1 byteCells ⟨some A1, cap1, Rr⟩)) => (equalBytes_any (((hsu u hu).drop k (by omega)).take (m + 1)) hs1.out).mono (R' := fun e w2 => e = .returned (.bool (((b.drop k).take (m + 1)) == Rr)) ∧ Below V.heap.size V w2) fun e w2 ⟨h1, h2⟩ => ⟨h1, hu.trans (h2.mono hu.size)⟩)
          rw [hlm1, hsame] at KQ
          simp only [Nat.mul_one] at KQ hfr2
          obtain ⟨eqb, heqb⟩ : ∃ eqb, eqb = decide ((sumE (b.take k ++ headE x) : Int) = s) := ⟨_, rfl⟩
          rw [← heqb] at KQ
          have hwr : IntKind.i64.wrap ((k : Int) + ((m : Int) + 1)) = (k : Int) + ((m : Int) + 1) := IntWalk.i64_in _ (by omega)
          clear hsame hRr hline hsh hVB he
          cases eqb
          · have HF := hide (show stepE b k L = .stop 18 by rw [HSTEP.out, if_neg (by simpa using heqb.symm)])
            clear heqb hstep hxs
            refine wp_region_held_drew (S := (fun w' => w'.cell? ⟨w1.heap.size, 0, none⟩ = some (.int .i64 x.day) ∧ w'.cell? ⟨w1.heap.size, 0 + 1, none⟩ = some (.string x.rope) ∧ w'.cell? ⟨w1.heap.size, 0 + 2, none⟩ = some (.int .i64 x.kind) ∧ w'.cell? ⟨w1.heap.size, 0 + 3, none⟩ = some (.int .i64 x.runs))) (by kernel_rfl) (hcV ⟨_, (Below.refl _ _).drew⟩) (fun hHeld => ?_)
            refine wpAnyH_take (i := 0) (oi := Oper.mk (some 23) _ _ _ _ (none)) (v := ?_) rfl (by kernel_rfl) (by kernel_rfl) (by kernel_rfl) (fun _ _ _ h => h) (Or.inl ⟨by rfl, ?_⟩) (by assumption) ?_
            rotate_left
            · intro w hSw
              try dsimp only at hSw
              go_simp
              try with_reducible rfl
            try simp only [Act.put, List.setIfInBounds_toArray, List.set_cons_zero, List.set_cons_succ]
            refine wpAnyH_take (i := 1) (oi := Oper.mk (some 24) _ _ _ _ (none)) (v := ?_) rfl (by kernel_rfl) (by kernel_rfl) (by kernel_rfl) (fun _ _ _ h => h) (Or.inl ⟨by rfl, ?_⟩) (by assumption) ?_
            rotate_left
            · intro w hSw
              try dsimp only at hSw
              go_simp
              try with_reducible rfl
            try simp only [Act.put, List.setIfInBounds_toArray, List.set_cons_zero, List.set_cons_succ]
            refine wpAnyH_take (i := 2) (oi := Oper.mk (some 25) _ _ _ _ (none)) (v := ?_) rfl (by kernel_rfl) (by kernel_rfl) (by kernel_rfl) (fun _ _ _ h => h) (Or.inl ⟨by rfl, ?_⟩) (by assumption) ?_
            rotate_left
            · intro w hSw
              try dsimp only at hSw
              go_simp
              try with_reducible rfl
            try simp only [Act.put, List.setIfInBounds_toArray, List.set_cons_zero, List.set_cons_succ]
            refine wpAnyH_take (i := 3) (oi := Oper.mk (some 26) _ _ _ _ (some (2, false))) (v := ?_) rfl (by kernel_rfl) (by kernel_rfl) (by kernel_rfl) (fun _ _ _ h => h) (Or.inl ⟨by rfl, ?_⟩) (by assumption) ?_
            rotate_left
            · intro w hSw
              try dsimp only at hSw
              go_simp
              try with_reducible rfl
            try simp only [Act.put, List.setIfInBounds_toArray, List.set_cons_zero, List.set_cons_succ]
            refine wpAnyH_take (i := 4) (oi := Oper.mk (some 27) _ _ _ _ (some (2, false))) (v := ?_) rfl (by kernel_rfl) (by kernel_rfl) (by kernel_rfl) (fun _ _ _ h => h) (Or.inl ⟨by rfl, ?_⟩) (by assumption) ?_
            rotate_left
            · intro w hSw
              try dsimp only at hSw
              go_simp
              try with_reducible rfl
            try simp only [Act.put, List.setIfInBounds_toArray, List.set_cons_zero, List.set_cons_succ]
            refine wpAnyH_take (i := 5) (oi := Oper.mk (some 28) _ _ _ _ (some (2, false))) (v := ?_) rfl (by kernel_rfl) (by kernel_rfl) (by kernel_rfl) (fun _ _ _ h => h) (Or.inl ⟨by rfl, ?_⟩) (by assumption) ?_
            rotate_left
            · intro w hSw
              try dsimp only at hSw
              go_simp
              try with_reducible rfl
            try simp only [Act.put, List.setIfInBounds_toArray, List.set_cons_zero, List.set_cons_succ]
            refine wpAnyH_take (i := 6) (oi := Oper.mk (some 29) _ _ _ _ (some (2, false))) (v := ?_) rfl (by kernel_rfl) (by kernel_rfl) (by kernel_rfl) (fun _ _ _ h => h) (Or.inl ⟨by rfl, ?_⟩) (by assumption) ?_
            rotate_left
            · intro w hSw
              try dsimp only at hSw
              go_simp
              try with_reducible rfl
            try simp only [Act.put, List.setIfInBounds_toArray, List.set_cons_zero, List.set_cons_succ]
            refine wpAnyH_take (i := 7) (oi := Oper.mk (some 30) _ _ _ _ (some (2, false))) (v := ?_) rfl (by kernel_rfl) (by kernel_rfl) (by kernel_rfl) (fun _ _ _ h => h) (Or.inl ⟨by rfl, ?_⟩) (by assumption) ?_
            rotate_left
            · intro w hSw
              try dsimp only at hSw
              go_simp
              try with_reducible rfl
            try simp only [Act.put, List.setIfInBounds_toArray, List.set_cons_zero, List.set_cons_succ]
            refine wpAnyH_take (i := 8) (oi := Oper.mk (some 31) _ _ _ _ (some (2, false))) (v := ?_) rfl (by kernel_rfl) (by kernel_rfl) (by kernel_rfl) (fun _ _ _ h => h) (Or.inl ⟨by rfl, ?_⟩) (by assumption) ?_
            rotate_left
            · intro w hSw
              try dsimp only at hSw
              go_simp
              try with_reducible rfl
            try simp only [Act.put, List.setIfInBounds_toArray, List.set_cons_zero, List.set_cons_succ]
            refine wpAnyH_take (i := 9) (oi := Oper.mk (some 32) _ _ _ _ (some (2, false))) (v := ?_) rfl (by kernel_rfl) (by kernel_rfl) (by kernel_rfl) (fun _ _ _ h => h) (Or.inl ⟨by rfl, ?_⟩) (by assumption) ?_
            rotate_left
            · intro w hSw
              try dsimp only at hSw
              go_simp
              try with_reducible rfl
            try simp only [Act.put, List.setIfInBounds_toArray, List.set_cons_zero, List.set_cons_succ]
            refine wpAnyH_take (i := 10) (oi := Oper.mk (some 33) _ _ _ _ (some (2, false))) (v := ?_) rfl (by kernel_rfl) (by kernel_rfl) (by kernel_rfl) (fun _ _ _ h => h) (Or.inl ⟨by rfl, ?_⟩) (by assumption) ?_
            rotate_left
            · intro w hSw
              try dsimp only at hSw
              go_simp
              try with_reducible rfl
            try simp only [Act.put, List.setIfInBounds_toArray, List.set_cons_zero, List.set_cons_succ]
            refine wpAnyH_take (i := 11) (oi := Oper.mk (some 34) _ _ _ _ (some (2, false))) (v := ?_) rfl (by kernel_rfl) (by kernel_rfl) (by kernel_rfl) (fun _ _ _ h => h) (Or.inl ⟨by rfl, ?_⟩) (by assumption) ?_
            rotate_left
            · intro w hSw
              try dsimp only at hSw
              go_simp
              try with_reducible rfl
            try simp only [Act.put, List.setIfInBounds_toArray, List.set_cons_zero, List.set_cons_succ]
            refine wpAnyH_take (i := 12) (oi := Oper.mk (some 35) _ _ _ _ (some (2, false))) (v := ?_) rfl (by kernel_rfl) (by kernel_rfl) (by kernel_rfl) (fun _ _ _ h => h) (Or.inl ⟨by rfl, ?_⟩) (by assumption) ?_
            rotate_left
            · intro w hSw
              try dsimp only at hSw
              go_simp
              try with_reducible rfl
            try simp only [Act.put, List.setIfInBounds_toArray, List.set_cons_zero, List.set_cons_succ]
            refine wpAnyH_ready (rs := [13]) (by kernel_rfl) (by simp) ?_
            refine AllReadyH.cons (o := Oper.mk (some 36) _ _ _ _ (some (2, false))) rfl (fun K hK => ?_) AllReadyH.nil
            go_simp
            go_at_call 31; refine (KR.out _ (by first | exact (Below.refl _ _).drew | exact Below.refl _ _)).mono ?_; rintro e w2 ⟨A1, cap1, rfl, hs1, hb2⟩
            go_wp2_with fail
            refine hK.out _ _ (hcV ⟨_, hb2⟩) (fun hHeld => ?_)
            clear hK K
            try simp only [Act.put, List.setIfInBounds_toArray, List.set_cons_zero, List.set_cons_succ]
            refine wpAnyH_ready (rs := [14]) (by kernel_rfl) (by simp) ?_
            refine AllReadyH.cons (o := Oper.mk (some 37) _ _ _ _ (some (2, false))) rfl (fun K hK => ?_) AllReadyH.nil
            go_simp
            go_at_call 13; refine (KQ.out _ hb2 A1 cap1 hs1).mono ?_; rintro e wq ⟨rfl, hbq⟩
            go_wp2_with fail
            refine hK.out _ _ (hcV ⟨_, hbq⟩) (fun hHeld => ?_)
            clear hK K
            try simp only [Act.put, List.setIfInBounds_toArray, List.set_cons_zero, List.set_cons_succ]
            refine wpAnyH_take (i := 15) (oi := Oper.mk (some 38) _ _ _ _ (some (2, false))) (v := ?_) rfl (by kernel_rfl) (by kernel_rfl) (by kernel_rfl) (fun _ _ _ h => h) (Or.inl ⟨by rfl, ?_⟩) (by assumption) ?_
            rotate_left
            · intro w hSw
              try dsimp only at hSw
              go_simp
              try with_reducible rfl
            try simp only [Act.put, List.setIfInBounds_toArray, List.set_cons_zero, List.set_cons_succ]
            refine wpAnyH_take (i := 16) (oi := Oper.mk (some 39) _ _ _ _ (none)) (v := ?_) rfl (by kernel_rfl) (by kernel_rfl) (by kernel_rfl) (fun _ _ _ h => h) (Or.inl ⟨by rfl, ?_⟩) (by assumption) ?_
            rotate_left
            · intro w hSw
              try dsimp only at hSw
              go_simp
              try with_reducible rfl
            try simp only [Act.put, List.setIfInBounds_toArray, List.set_cons_zero, List.set_cons_succ]
            refine wpAnyH_take (i := 17) (oi := Oper.mk (some 40) _ _ _ _ (none)) (v := ?_) rfl (by kernel_rfl) (by kernel_rfl) (by kernel_rfl) (fun _ _ _ h => h) (Or.inl ⟨by rfl, ?_⟩) (by assumption) ?_
            rotate_left
            · intro w hSw
              try dsimp only at hSw
              go_simp
              try with_reducible rfl
            try simp only [Act.put, List.setIfInBounds_toArray, List.set_cons_zero, List.set_cons_succ]
            refine wpAnyH_take (i := 18) (oi := Oper.mk (some 41) _ _ _ _ (some (17, false))) (v := undef) rfl (by kernel_rfl) (by kernel_rfl) (by kernel_rfl) (fun _ _ _ h => h) (Or.inr ⟨by rfl, rfl⟩) (by assumption) ?_
            try simp only [Act.put, List.setIfInBounds_toArray, List.set_cons_zero, List.set_cons_succ]
            refine wpAnyH_take (i := 19) (oi := Oper.mk (some 42) _ _ _ _ (some (17, false))) (v := undef) rfl (by kernel_rfl) (by kernel_rfl) (by kernel_rfl) (fun _ _ _ h => h) (Or.inr ⟨by rfl, rfl⟩) (by assumption) ?_
            try simp only [Act.put, List.setIfInBounds_toArray, List.set_cons_zero, List.set_cons_succ]
            refine wpAnyH_take (i := 20) (oi := Oper.mk (some 43) _ _ _ _ (some (17, false))) (v := undef) rfl (by kernel_rfl) (by kernel_rfl) (by kernel_rfl) (fun _ _ _ h => h) (Or.inr ⟨by rfl, rfl⟩) (by assumption) ?_
            try simp only [Act.put, List.setIfInBounds_toArray, List.set_cons_zero, List.set_cons_succ]
            refine wpAnyH_take (i := 21) (oi := Oper.mk (some 44) _ _ _ _ (some (17, false))) (v := undef) rfl (by kernel_rfl) (by kernel_rfl) (by kernel_rfl) (fun _ _ _ h => h) (Or.inr ⟨by rfl, rfl⟩) (by assumption) ?_
            try simp only [Act.put, List.setIfInBounds_toArray, List.set_cons_zero, List.set_cons_succ]
            refine wpAnyH_take (i := 22) (oi := Oper.mk (some 45) _ _ _ _ (some (17, false))) (v := undef) rfl (by kernel_rfl) (by kernel_rfl) (by kernel_rfl) (fun _ _ _ h => h) (Or.inr ⟨by rfl, rfl⟩) (by assumption) ?_
            try simp only [Act.put, List.setIfInBounds_toArray, List.set_cons_zero, List.set_cons_succ]
            refine wpAnyH_take (i := 23) (oi := Oper.mk (some 46) _ _ _ _ (some (17, false))) (v := undef) rfl (by kernel_rfl) (by kernel_rfl) (by kernel_rfl) (fun _ _ _ h => h) (Or.inr ⟨by rfl, rfl⟩) (by assumption) ?_
            try simp only [Act.put, List.setIfInBounds_toArray, List.set_cons_zero, List.set_cons_succ]
            refine wpAnyH_take (i := 24) (oi := Oper.mk (some 47) _ _ _ _ (some (17, false))) (v := undef) rfl (by kernel_rfl) (by kernel_rfl) (by kernel_rfl) (fun _ _ _ h => h) (Or.inr ⟨by rfl, rfl⟩) (by assumption) ?_
            try simp only [Act.put, List.setIfInBounds_toArray, List.set_cons_zero, List.set_cons_succ]
            refine wpAnyH_take (i := 25) (oi := Oper.mk (some 48) _ _ _ _ (none)) (v := ?_) rfl (by kernel_rfl) (by kernel_rfl) (by kernel_rfl) (fun _ _ _ h => h) (Or.inl ⟨by rfl, ?_⟩) (by assumption) ?_
            rotate_left
            · intro w hSw
              try dsimp only at hSw
              go_simp
              try with_reducible rfl
            try simp only [Act.put, List.setIfInBounds_toArray, List.set_cons_zero, List.set_cons_succ]
            refine wpAnyH_done (by kernel_rfl) ?_ _
            clear hwr
            go_wp2_with fail
            go_meet
            exact ⟨true, rfl, hide (Or.inl ⟨rfl, _, HF.out⟩), ⟨_, hbq⟩, rfl⟩
          · have hsum : (sumE (b.take k ++ headE x) : Int) = s := by simpa using heqb.symm
            obtain ⟨lg, hlg⟩ : ∃ lg, lg = logOk (L ++ [x]) := ⟨_, rfl⟩
            have HF := hide (show stepE b k L = if lg = true then .next x (m + 1) else .stop 1 by rw [HSTEP.out, if_pos hsum, hlg])
            have HWV := hide (fun (u : World) (hu : Below V.heap.size V u) => HRV.out.trans (hu.mono HRV.out.size))
            have KC := hide (fun (u : World) (hu : Below V.heap.size V u) => (cloneL_any Lv Lcap L (by omega) u u.heap.size (HSU.out.to (HWV.out u hu) (HWV.out u hu).size)).mono (R' := fun e w2 => ∃ v2, e = .returned v2 ∧ Hid (OwnSt 24 4 LogD.cells u v2 L w2) ∧ Below V.heap.size V w2) fun e w2 ⟨v2, h1, h2⟩ => ⟨v2, h1, hide h2, hu.trans (h2.bel.mono hu.size)⟩)
            have hall : ∀ y ∈ L ++ [x], y.ok := fun y hy => by
              rcases List.mem_append.1 hy with h | h
              · exact ok_of_log HR.out.ok y h
              · rw [List.mem_singleton.1 h]; exact ok_of_small hxs
            have KV := hide (fun (u u0 : World) (hu : Below V.heap.size V u) (g4 cap4 : Nat) (hst : OwnSt 24 4 LogD.cells u0 (.slice (some ⟨g4, 0, none⟩) (L.length + 1) cap4) (L ++ [x]) u) => (show Calls Tryd.prog 26 #[.slice (some ⟨g4, 0, none⟩) (L.length + 1) cap4] u fun e w2 => e = .returned (.bool lg) ∧ Below V.heap.size V w2 from by
              obtain ⟨A5, cap5, e5, hs5⟩ := hst.slAt logCells_len
              injection e5 with e1 e2 e3
              subst e1 e3
              have := (validL_any (some ⟨g4, 0, none⟩) cap4 (L ++ [x]) hall u u.heap.size (Nat.le_refl _) hs5)
              rw [← e2, ← hlg] at this
              exact this.mono fun e w2 ⟨h1, h2⟩ => ⟨h1, hu.trans (h2.mono hu.size)⟩))
            clear heqb hstep hxs hsum hlg hall
            first
              | go_region_held3 (fun w' => w'.cell? ⟨w1.heap.size, 0, none⟩ = some (.int .i64 x.day) ∧ w'.cell? ⟨w1.heap.size, 0 + 1, none⟩ = some (.string x.rope) ∧ w'.cell? ⟨w1.heap.size, 0 + 2, none⟩ = some (.int .i64 x.kind) ∧ w'.cell? ⟨w1.heap.size, 0 + 3, none⟩ = some (.int .i64 x.runs))
                  (first | exact hcV ⟨_, (Below.refl _ _).drew⟩ | exact hcV ⟨_, hb2⟩ | exact hcV ⟨_, hbq⟩ | exact hcV ⟨_, hbc⟩ | exact hcV ⟨_, hbq.alloc hbq.size _⟩ | exact hcV ⟨_, hbc.alloc hbc.size _⟩ | exact hcV ⟨_, hb4⟩ | exact hcV ⟨_, hb5⟩)
                  (first
                    | (go_at_call 31; refine (KR.out _ (by first | exact (Below.refl _ _).drew | exact Below.refl _ _)).mono ?_; rintro e w2 ⟨A1, cap1, rfl, hs1, hb2⟩)
                    | (go_at_call 13; refine (KQ.out _ hb2 A1 cap1 hs1).mono ?_; rintro e wq ⟨rfl, hbq⟩)
                    | (go_at_call 28; refine (KC.out _ (by first | exact hbq | exact hbq.alloc hbq.size _)).mono ?_; rintro e wc ⟨v2, rfl, hst2, hbc⟩)
                    | (go_at_call 26; refine (KV.out _ _ hb4 g4 cap4 hst4).mono ?_; rintro e w5 ⟨rfl, hb5⟩)
                    | (refine step_append_guard _ (by rfl) (.tmp 42) (.tmp 44) 34 (by rfl) _ 24 i0 _ 4 40 Tryd.underlying34 HI.out.1 HI.out.2.1 HI.out.2.2.1 HI.out.2.2.2 rfl (by omega) v2 L.length (L.flatMap LogD.cells) (by rfl) (hst2.out.own.alloc _) ⟨wc.heap.size, 0, none⟩ 1 1 x.cells (by rfl) rfl (World.news_of_block (cs := #[.int .i64 x.day, .string x.rope, .int .i64 x.kind, .int .i64 x.runs]) (t := 24) (fr := (0, 0)) (heap_alloc_new wc _)) (fun u hu => log_one [x] u (by simpa using hu)) (by omega) (by unfold maxLen; omega) (by omega) (by have := hst2.out.bel.size; simp; omega) (wc.heap.size + 1) (by simp) ?_; intro g4 cap4 w4 hown4 hgr4 hg4 hlt4; have hst4 := OwnSt.append (ls := [x]) hst2.out ((Below.refl _ _).alloc (Nat.le_refl _) _) (by simpa using hown4) hgr4; have hb4 := hbq.trans (hst4.bel.mono hbq.size))
                    | (refine step_append_guard _ (by rfl) (.tmp 42) (.tmp 44) 34 (by rfl) _ 24 i0 _ 4 40 Tryd.underlying34 HI.out.1 HI.out.2.1 HI.out.2.2.1 HI.out.2.2.2 rfl (by omega) v2 L.length (L.flatMap LogD.cells) (by rfl) hst2.out.own ⟨wq.heap.size, 0, none⟩ 1 1 x.cells (by rfl) rfl (World.news_of_block (cs := #[.int .i64 x.day, .string x.rope, .int .i64 x.kind, .int .i64 x.runs]) (t := 24) (fr := (0, 0)) ((hst2.out.bel.block _ (by simp)).trans (heap_alloc_new wq _))) (fun u hu => log_one [x] u (by simpa using hu)) (by omega) (by unfold maxLen; omega) (by omega) hst2.out.bel.size wc.heap.size rfl ?_; intro g4 cap4 w4 hown4 hgr4 hg4 hlt4; have hst4 := OwnSt.append (ls := [x]) hst2.out (Below.refl _ _) (by simpa using hown4) hgr4; have hb4 := (hbq.alloc hbq.size _).trans (hst4.bel.mono (hbq.alloc hbq.size _).size)))
              | fail
            clear hwr
            all_goals
              go_wp2_with fail
              go_meet
              cases lg
              · exact ⟨true, rfl, hide (Or.inl ⟨rfl, _, HF.out⟩), ⟨_, hb5⟩, rfl⟩
              · exact ⟨false, rfl, hide (Or.inr ⟨rfl, m, rfl, hmb, HF.out⟩), ⟨_, hb5⟩, rfl⟩
      case rest =>
        obtain ⟨nb, rfl, hch, z, rfl⟩ := hcut
        have hzb : Below wr.heap.size wr z.val := HRV.out.trans (z.below.mono HRV.out.size)
        have HZ := hide (HST.out.more hzb)
        have hcz := hcV z
        clear hzb
        rcases hch.out with ⟨rfl, er, hst⟩ | ⟨rfl, m, rfl, hmb, hst⟩
        · have HE := hide (show Ends b k L er from ⟨HR.out, Or.inr ⟨hlt, hst⟩⟩)
          clear hst hch
          go_wp2
          go_ret2
          exact ⟨_, _, _, _, rfl, HE.out, HZ.out⟩
        · have HN := hide (Reach.next HR.out hlt hst)
          have hlog := log_short HR.out.ok
          clear hst hch
          go_wp2_with (at_builtin; refine wpList_append_own _ rfl _ _ 34 rfl w.heap.size 24 i0 _ 4 40 Tryd.underlying34 HI.out.1 HI.out.2.1 HI.out.2.2.1 HI.out.2.2.2 rfl (by decide) _ _ _ rfl (HZ.out.own.alloc _) ⟨z.val.heap.size, 0, none⟩ 1 1 x.cells rfl rfl (World.news_of_block (cs := #[.int .i64 x.day, .string x.rope, .int .i64 x.kind, .int .i64 x.runs]) (t := 24) (fr := (0, 0)) (heap_alloc_new z.val _)) (fun u hu => log_one [x] u (by simpa using hu)) (by unfold maxLen; omega) (by omega) (by have := HZ.out.bel.size; simp; omega) ?_)
          intro v' w6 hown6 hgr6 _
          have HN6 := hide (OwnSt.append (ls := [x]) HZ.out ((Below.refl _ _).alloc (Nat.le_refl _) _) (by simpa using hown6) hgr6)
          clear hown6 hgr6
          go_wp2
          exact ⟨⟨k + (m + 1), L ++ [x], by go_num, by omega, HN, HN6⟩, by simp [intOf]; omega⟩
    · have hkl : k = b.length := by omega
      have HE := hide (show Ends b k L 0 from ⟨HR.out, Or.inl ⟨hkl, rfl⟩⟩)
      subst hkl
      go_wp2
      go_ret2
      exact ⟨_, _, _, _, rfl, HE.out, HST.out⟩
end Go.Proofs.YtemlaliackblkaaDoor
