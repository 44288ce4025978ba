/- The library's functions that the readers of systems' texts call, in the words of this family. -/
import Derived.Test.YtgamhdbcejkllaaGreatDoorReeveLib
import Derived.Test.YtgamhdbcejkllaaGreatDoorReeveAtoi
import Derived.Lib.AtoiAllCases
import Derived.Lib.SlFresh
import Derived.Lib.SmallJoins
namespace Go.Proofs.YtgamhdbcejkllaaGreatDoor
open Go.RowKit

/-- what the library's variables hold: the powers of ten, some number in MaxLen, some errors -/
def TabsT (w : World) : Prop := Tabs w ∧ (0 < w.heap.size ∧ 2 < w.heap.size ∧ 3 < w.heap.size) ∧
  (∃ m, w.cell? ⟨0, 0, none⟩ = some (.int .i64 m)) ∧ (∃ t p, w.cell? ⟨2, 0, none⟩ = some (.iface t p)) ∧ ∃ t p, w.cell? ⟨3, 0, none⟩ = some (.iface t p)
theorem TabsT.below {w w' : World} (h : TabsT w) (hb : Below w.heap.size w w') : TabsT w' := by
  obtain ⟨h1, ⟨h2, h3, h4⟩, ⟨m, h5⟩, ⟨t, p, h6⟩, t', p', h7⟩ := h
  exact ⟨h1.below hb, ⟨Nat.lt_of_lt_of_le h2 hb.size, Nat.lt_of_lt_of_le h3 hb.size, Nat.lt_of_lt_of_le h4 hb.size⟩, ⟨m, (hb.cell h2).trans h5⟩, ⟨t, p, (hb.cell h3).trans h6⟩, t', p', (hb.cell h4).trans h7⟩
theorem bs_mk (l : List UInt8) : bs ⟨l.toArray⟩ = l := by rw [bs_data]
theorem below_drewN (w : World) (n : Nat) : Below w.heap.size w (w.drewN n) := ⟨rfl, rfl, rfl, Nat.le_refl _, fun _ _ => rfl⟩
/-- strconv.Atoi: a number and nil, or some number and an error -/
theorem atoi_any (s : ByteArray) (hs : s.size ≤ 140737488355328) (w : World) (ht : TabsT w) : Calls Tryz.prog 60 #[.string s] w fun e w' =>
    ∃ v er, e = .returned (.tuple #[.int .i64 v, er]) ∧ Below w.heap.size w w' ∧ ((Lib.atoiAll (bs s) = .ok v ∧ er = .nilIface) ∨ ((∀ n, Lib.atoiAll (bs s) ≠ .ok n) ∧ ∃ t p, er = .iface t p)) := by
  obtain ⟨_, _, _, ⟨t, p, h6⟩, t', p', h7⟩ := ht
  rw [bs_data]
  rcases h : Lib.atoiAll s.data.toList with v | _ | _
  · refine (Tryz.strconv_Atoi_ok s (by omega) v h w).mono ?_
    rintro e w' ⟨rfl, hw⟩
    refine ⟨v, _, rfl, ?_, Or.inl ⟨rfl, rfl⟩⟩
    rcases hw with rfl | ⟨t, rfl⟩
    · exact Below.refl _ _
    · exact Joins.below_bytesWorld _ _ _ _ (Nat.le_refl _)
  · refine (Tryz.strconv_Atoi_syntax s (by omega) h _ w h6 (Or.inr ⟨_, _, rfl⟩)).mono ?_
    rintro e w' ⟨N, rfl, _, _, hb⟩
    exact ⟨_, _, rfl, hb, Or.inr ⟨(fun n hn => (by cases hn)), _, _, rfl⟩⟩
  · refine (Tryz.strconv_Atoi_range s (by omega) h _ w h7 (Or.inr ⟨_, _, rfl⟩)).mono ?_
    rintro e w' ⟨N, rfl, _, _, hb⟩
    exact ⟨_, _, rfl, hb, Or.inr ⟨(fun n hn => (by cases hn)), _, _, rfl⟩⟩
theorem split_any (k : UInt8) (s : ByteArray) (w : World) (ht : TabsT w) (hs : s.size ≤ 4000000000) : Calls Tryz.prog 38 #[.string s, .string ⟨#[k]⟩] w fun e w' =>
    ∃ LB : List ByteArray, LB.map bs = partsOf k (bs s) ∧ e = .returned (.slice (some ⟨w.heap.size, 0, none⟩) LB.length LB.length) ∧ w' = w.alloc (.cells (LB.map Value.string).toArray 9) := by
  obtain ⟨_, _, ⟨m, hm⟩, _⟩ := ht
  refine (Tryz.strings_Split s ⟨#[k]⟩ m w (by omega) hm (by show 1 ≤ (#[k] : Array UInt8).size; simp)).mono ?_
  rintro e w' ⟨he, hw⟩
  have h1 := split_parts k s.size (bs s) (by rw [bs_length]; omega)
  have h2 : Lib.countB s ⟨#[k]⟩ = (bs s).count k := by rw [← h1.1, bs_data]
  have h3 : (Lib.splitB ⟨#[k]⟩ 0 (Lib.countB s ⟨#[k]⟩) s).map bs = partsOf k (bs s) := by
    rw [← h1.2, h2, bs_data s, show ([k] : List UInt8) = (⟨#[k]⟩ : ByteArray).data.toList from rfl, ← Lib.splitB_data ⟨#[k]⟩ 0]
    exact List.map_congr_left fun x _ => bs_data x
  have h4 : (Lib.splitB ⟨#[k]⟩ 0 (Lib.countB s ⟨#[k]⟩) s).length = Lib.countB s ⟨#[k]⟩ + 1 := by
    have := congrArg List.length h3
    rw [List.length_map, partsOf_length] at this
    omega
  exact ⟨_, h3, by rw [he, h4], hw⟩
/-- where a text is cut -/
theorem cut_byte (l : List UInt8) (k : UInt8) : ((∀ c ∈ l, c ≠ k) ∧ Lib.cut l [k] = (l, [], false)) ∨ ∃ a b, l = a ++ k :: b ∧ (∀ c ∈ a, c ≠ k) ∧ Lib.cut l [k] = (a, b, true) := by
  unfold Lib.cut
  rw [Lib.index_one]
  have hge := Lib.indexByte_ge l k
  by_cases h : Lib.indexByte l k = -1
  · refine Or.inl ⟨fun c hc e => ?_, by rw [h]; rfl⟩
    subst e
    obtain ⟨j, hj, e2⟩ := List.getElem_of_mem hc
    exact Lib.indexByte_none h j (by rw [List.getElem?_eq_getElem hj, e2])
  · obtain ⟨o, ho⟩ : ∃ o : Nat, Lib.indexByte l k = o := ⟨(Lib.indexByte l k).toNat, by omega⟩
    obtain ⟨h1, h2⟩ := Lib.indexByte_some ho
    obtain ⟨hlt, e⟩ := List.getElem?_eq_some_iff.1 h1
    refine Or.inr ⟨l.take o, l.drop (o + 1), ?_, fun c hc e2 => ?_, ?_⟩
    · rw [← e, ← List.drop_eq_getElem_cons hlt, List.take_append_drop]
    · subst e2
      obtain ⟨j, hj, e3⟩ := List.getElem_of_mem hc
      rw [List.length_take] at hj
      rw [List.getElem_take] at e3
      exact h2 j (by omega) (by rw [List.getElem?_eq_getElem (by omega), e3])
    · rw [ho, if_pos (by omega)]
      rfl
theorem cut_any (k : UInt8) (s : ByteArray) (w : World) (ht : TabsT w) (hs : s.size < 4294967281) : Calls Tryz.prog 17 #[.string s, .string ⟨#[k]⟩] w fun e w' =>
    ∃ a b t, e = .returned (.tuple #[.string a, .string b, .bool t]) ∧ Below w.heap.size w w' ∧ ((t = true ∧ bs s = bs a ++ k :: bs b ∧ ∀ c ∈ bs a, c ≠ k) ∨ (t = false ∧ a = s ∧ b = ⟨#[]⟩ ∧ ∀ c ∈ bs s, c ≠ k)) := by
  obtain ⟨_, _, ⟨m, hm⟩, _⟩ := ht
  refine (Tryz.strings_Cut s ⟨#[k]⟩ m w hs hm).mono ?_
  rintro e w' ⟨he, n, hw⟩
  refine ⟨_, _, _, he, by rw [hw]; exact below_drewN w n, ?_⟩
  rw [show (⟨#[k]⟩ : ByteArray).data.toList = [k] from rfl]
  rcases cut_byte s.data.toList k with ⟨h1, h2⟩ | ⟨a, b, h1, h2, h3⟩
  · rw [h2]
    refine Or.inr ⟨rfl, rfl, rfl, ?_⟩
    rw [bs_data]; exact h1
  · rw [h3]
    refine Or.inl ⟨rfl, ?_, ?_⟩
    · rw [bs_mk, bs_mk, bs_data]; exact h1
    · rw [bs_mk]; exact h2
end Go.Proofs.YtgamhdbcejkllaaGreatDoor
