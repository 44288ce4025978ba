/- loftblockref01.figures, Symbol, next: what they compute. -/
import Derived.Test.YtplblogdgbnbdaaDoorDecSym
import Derived.Deep.DeepCutAuto
namespace Go.Proofs.YtplblogdgbnbdaaDoor
open Go.RowKit

theorem dropAt {s : ByteArray} {i : Nat} (h : i < s.size) : (bs s).drop i = s[i] :: (bs s).drop (i + 1) := by
  rw [List.drop_eq_getElem_cons (by rw [bs_length]; exact h)]
  congr 1
  have := bs_get s i h
  rw [List.getElem?_eq_getElem (by rw [bs_length]; exact h)] at this
  exact Option.some.inj this
set_option maxHeartbeats 1000000 in
theorem refFigures_any (s : ByteArray) (i : Nat) (hi : i ≤ s.size) (hs : s.size ≤ 1000000) (w : World) : Calls Tryd.prog 64 #[.string s, .int .i64 i] w (Gives w (.int .i64 (i + digLen ((bs s).drop i)))) := by
  go_enter Tryd.func64, Tryd.ntmps64
  go_wp2
  go_loopw [1] (fun v wr => ∃ k : Nat, v = .int .i64 k ∧ i ≤ k ∧ k ≤ s.size ∧ Hid (DigTo (bs s) i k) ∧ ∃ x : After w.heap.size w, wr = x.val) (fun v _ => s.size - (intOf v).toNat)
  case atStart => exact ⟨i, rfl, Nat.le_refl _, hi, hide (DigTo.start _ _), After.refl _ _, rfl⟩
  case round =>
    obtain ⟨k, rfl, hik, hk, hall, x, rfl⟩ := hrel
    by_cases hlt : k < s.size
    · have hb := bs_get s k hlt
      cases hd : digitB (s[k].toNat : Int)
      · have HE := hide (hall.out.len hik hk (bs_not hlt hd))
        have KD := hide (hd ▸ refDigit_any (s[k].toNat : Int) x.val)
        clear hb hd
        go_wp2_with (go_at_call 39; refine (Gives.after (Nat.le_refl _) KD.out).mono ?_; rintro e w' ⟨rfl, y, rfl⟩)
        go_ret
        exact Gives.mk (congrArg (Value.int .i64) (by have := HE.out; omega)) (After.below _)
      · have HN := hide (hall.out.next hb hd)
        have KD := hide (hd ▸ refDigit_any (s[k].toNat : Int) x.val)
        clear hb hd
        go_wp2_with fail
        refine (Gives.after (Nat.le_refl _) KD.out).mono ?_
        rintro e w' ⟨rfl, y, rfl⟩
        go_wp2
        exact ⟨⟨k + 1, by go_num, by omega, by omega, HN, y, rfl⟩, by simp [intOf]; omega⟩
    · have HE := hide (hall.out.len hik hk (bs_none (by omega)))
      go_wp2
      go_ret
      exact Gives.mk (congrArg (Value.int .i64) (by have := HE.out; omega)) (After.below _)
theorem twoB_cons (c d : UInt8) (l : List UInt8) : twoB (c :: d :: l) = ((((c.toNat : Int) == 62) || ((c.toNat : Int) == 60) || ((c.toNat : Int) == 58)) && ((d.toNat : Int) == 61)) := by
  have e62 := byte_test c 62 (by decide)
  have e60 := byte_test c 60 (by decide)
  have e58 := byte_test c 58 (by decide)
  have e61 := byte_test d 61 (by decide)
  unfold twoB
  simp only [List.isPrefixOf, Bool.and_true]
  rw [Bool.eq_iff_iff]
  simp only [Bool.or_eq_true, Bool.and_eq_true, beq_iff_eq] at *
  have f62 : 62 = c ↔ (c.toNat : Int) = ((62 : Nat) : Int) := eq_comm.trans e62
  have f60 : 60 = c ↔ (c.toNat : Int) = ((60 : Nat) : Int) := eq_comm.trans e60
  have f58 : 58 = c ↔ (c.toNat : Int) = ((58 : Nat) : Int) := eq_comm.trans e58
  have f61 : 61 = d ↔ (d.toNat : Int) = ((61 : Nat) : Int) := eq_comm.trans e61
  rw [f62, f60, f58, f61]
  constructor
  · rintro ((⟨a, b⟩ | ⟨a, b⟩) | ⟨a, b⟩) <;> exact ⟨by omega, by omega⟩
  · rintro ⟨(a | a) | a, b⟩
    · exact Or.inl (Or.inl ⟨by omega, by omega⟩)
    · exact Or.inl (Or.inr ⟨by omega, by omega⟩)
    · exact Or.inr ⟨by omega, by omega⟩
theorem twoB_one (c : UInt8) : twoB [c] = false := by simp [twoB, List.isPrefixOf]
/-- none of the first k bytes of a list -/
def NotIn (l : List UInt8) (c : UInt8) (k : Nat) : Prop := ∀ j, j < k → ∀ d, l[j]? = some d → d ≠ c
theorem NotIn.contains {l : List UInt8} {c : UInt8} {k : Nat} (h : NotIn l c k) (hk : l.length ≤ k) : l.contains c = false := by
  rw [← Bool.not_eq_true]
  intro hc
  rw [List.contains_iff_mem] at hc
  obtain ⟨j, hj, e⟩ := List.getElem_of_mem hc
  exact h j (by omega) _ (by rw [List.getElem?_eq_getElem hj, e]) rfl
theorem symLen_no {l : List UInt8} {c : UInt8} (h2 : twoB (c :: l) = false) (h : alone.contains c = false) : symLen (c :: l) = 0 := by
  unfold symLen oneB
  rw [h2, List.headD_cons, h]
  rfl
theorem symLen_yes {l : List UInt8} {c : UInt8} (h2 : twoB (c :: l) = false) (h : alone.contains c = true) : symLen (c :: l) = 1 := by
  unfold symLen oneB
  rw [h2, List.headD_cons, h]
  rfl
set_option maxHeartbeats 4000000 in
set_option maxRecDepth 100000 in
theorem refSymbol_any (s : ByteArray) (i : Nat) (hi : i < s.size) (hs : s.size ≤ 1000000) (w : World) : Calls Tryd.prog 65 #[.string s, .int .i64 i] w (Gives w (.int .i64 (symLen ((bs s).drop i)))) := by
  obtain ⟨AL, hAL⟩ : ∃ AL : ByteArray, AL = ⟨#[45, 43, 58, 44, 59, 47, 61, 40, 41, 60, 62, 42]⟩ := ⟨_, rfl⟩
  have hbs : bs AL = alone := by rw [hAL, bs_data]; rfl
  have hal : AL.size = 12 := by rw [hAL]; rfl
  have hal1 : AL.size ≤ 12 := by omega
  have hal2 : 12 ≤ AL.size := by omega
  have HAL := hide hAL
  have HBS := hide hbs
  clear hAL hbs hal
  have hd := dropAt hi
  obtain ⟨t2, ht2⟩ : ∃ t2, t2 = twoB ((bs s).drop i) := ⟨_, rfl⟩
  have hone : twoB ((bs s).drop i) = false → ∀ b, alone.contains s[i] = b → symLen ((bs s).drop i) = if b then 1 else 0 := by
    intro h b hb
    rw [hd] at h ⊢
    cases b
    · exact symLen_no h hb
    · exact symLen_yes h hb
  have htwo : twoB ((bs s).drop i) = true → symLen ((bs s).drop i) = 2 := symLen_two
  have hways : (¬ i + 1 < s.size ∧ t2 = false) ∨ (∃ h : i + 1 < s.size, ((s[i + 1].toNat : Int) == 61) = false ∧ t2 = false) ∨
      (∃ h : i + 1 < s.size, ((s[i + 1].toNat : Int) == 61) = true ∧ ((s[i].toNat : Int) == 62) = true ∧ t2 = true) ∨
      (∃ h : i + 1 < s.size, ((s[i + 1].toNat : Int) == 61) = true ∧ ((s[i].toNat : Int) == 62) = false ∧ ((s[i].toNat : Int) == 60) = true ∧ t2 = true) ∨
      (∃ h : i + 1 < s.size, ((s[i + 1].toNat : Int) == 61) = true ∧ ((s[i].toNat : Int) == 62) = false ∧ ((s[i].toNat : Int) == 60) = false ∧ ((s[i].toNat : Int) == 58) = true ∧ t2 = true) ∨
      (∃ h : i + 1 < s.size, ((s[i + 1].toNat : Int) == 61) = true ∧ ((s[i].toNat : Int) == 62) = false ∧ ((s[i].toNat : Int) == 60) = false ∧ ((s[i].toNat : Int) == 58) = false ∧ t2 = false) := by
    by_cases h : i + 1 < s.size
    · rw [hd, dropAt h, twoB_cons] at ht2
      cases h61 : ((s[i + 1].toNat : Int) == 61)
      · exact Or.inr (Or.inl ⟨h, h61, by rw [ht2, h61]; simp⟩)
      · cases h62 : ((s[i].toNat : Int) == 62)
        · cases h60 : ((s[i].toNat : Int) == 60)
          · cases h58 : ((s[i].toNat : Int) == 58)
            · exact Or.inr (Or.inr (Or.inr (Or.inr (Or.inr ⟨h, h61, rfl, rfl, rfl, by rw [ht2, h61, h62, h60, h58]; rfl⟩))))
            · exact Or.inr (Or.inr (Or.inr (Or.inr (Or.inl ⟨h, h61, rfl, rfl, rfl, by rw [ht2, h61, h62, h60, h58]; rfl⟩))))
          · exact Or.inr (Or.inr (Or.inr (Or.inl ⟨h, h61, rfl, rfl, by rw [ht2, h61, h62, h60]; rfl⟩)))
        · exact Or.inr (Or.inr (Or.inl ⟨h, h61, rfl, by rw [ht2, h61, h62]; rfl⟩))
    · refine Or.inl ⟨h, ?_⟩
      rw [ht2, hd, List.drop_of_length_le (by rw [bs_length]; omega), twoB_one]
  rw [← ht2] at hone htwo
  have HWY := hide hways
  have HONE := hide hone
  have HTWO := hide htwo
  clear hways ht2 hd hone htwo
  go_enter Tryd.func65, Tryd.ntmps65
  go_upto_region 1 with fail
  go_cut [36] (fun a wx => a = .bool t2 ∧ w = wx)
  case first =>
    rcases HWY.out with ⟨h, rfl⟩ | ⟨h, h1, rfl⟩ | ⟨h, h1, h2, rfl⟩ | ⟨h, h1, h2, h3, rfl⟩ | ⟨h, h1, h2, h3, h4, rfl⟩ | ⟨h, h1, h2, h3, h4, rfl⟩
    all_goals
      go_wp2_with fail
      go_meet
      exact ⟨rfl, rfl⟩
  case rest =>
    obtain ⟨rfl, rfl⟩ := hcut
    cases t2
    · go_upto_region 3 with fail
      go_cut [5] (fun a wx => a = .string AL ∧ w = wx)
      case first =>
        go_wp2_with fail
        go_meet
        exact ⟨by rw [HAL.out], rfl⟩
      case rest =>
      obtain ⟨rfl, rfl⟩ := hcut
      go_wp2
      go_loopw [6] (fun v wr => ∃ k : Nat, v = .int .i64 k ∧ k ≤ AL.size ∧ Hid (NotIn alone s[i] k) ∧ ∃ x : After w.heap.size w, wr = x.val) (fun v _ => AL.size - (intOf v).toNat)
      case atStart => exact ⟨0, rfl, Nat.zero_le _, hide (fun j hj => by omega), After.refl _ _, rfl⟩
      case round =>
        obtain ⟨k, rfl, hk, hno, x, rfl⟩ := hrel
        by_cases hlt : k < AL.size
        · have hb : alone[k]? = some AL[k] := by rw [← HBS.out]; exact bs_get AL k hlt
          cases hq : ((s[i].toNat : Int) == (AL[k].toNat : Int))
          · have HN := hide (show NotIn alone s[i] (k + 1) from fun j hj d hd => by
              by_cases e : j = k
              · subst e; rw [hb] at hd; injection hd with hd; subst hd
                intro e2; rw [e2] at hq; simp at hq
              · exact hno.out j (by omega) d hd)
            clear hb
            go_wp2
            refine wp_region_after x (by kernel_rfl) (by kernel_rfl) ?_
            repeat (go_big_quiet_step (fail))
            refine wpQuiet_nil ?_
            intro z
            go_wp2
            exact ⟨⟨k + 1, by go_num, by omega, HN, z, rfl⟩, by simp [intOf]; omega⟩
          · have HE := hide (HONE.out (by first | rfl | trivial) true (by
              rw [List.contains_iff_mem]
              rw [beq_iff_eq] at hq
              have : AL[k] = s[i] := UInt8.toNat_inj.1 (by omega)
              exact List.mem_iff_getElem?.2 ⟨k, by rw [hb, this]⟩))
            clear hb
            go_wp2
            refine wp_region_after x (by kernel_rfl) (by kernel_rfl) ?_
            repeat (go_big_quiet_step (fail))
            refine wpQuiet_nil ?_
            intro z
            go_wp2
            go_ret
            exact Gives.mk (congrArg (Value.int .i64) (by rw [HE.out]; rfl)) z.below
        · have HE := hide (HONE.out (by first | rfl | trivial) false (hno.out.contains (by have : alone.length = 12 := rfl; omega)))
          go_wp2
          go_ret
          exact Gives.mk (congrArg (Value.int .i64) (by rw [HE.out]; rfl)) x.below
    · have HE := hide (HTWO.out (by first | rfl | trivial))
      go_wp2
      go_ret
      exact Gives.mk (congrArg (Value.int .i64) (by rw [HE.out]; rfl)) (Below.refl _ _)
end Go.Proofs.YtplblogdgbnbdaaDoor
