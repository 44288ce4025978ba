/- loftblockref10.Pull and Parts; the weights and the hauled ropes as rows of ints. -/
import Derived.Test.YtgamhdbcejkllaaDoorReeveHauled
import Derived.Test.YtgamhdbcejkllaaDoorOwn
import Derived.Maps.AppendAt
import Derived.Deep.RegionLaw
import Derived.Deep.AppendLies
namespace Go.Proofs.YtgamhdbcejkllaaDoor
open Go.RowKit

def pullN (nm : ByteArray) (hs : List HoldD) : Int := (hs.map fun h => if (h.block.toList == nm.toList) = true then h.pulls else 0).sum
theorem pullN_next {nm : ByteArray} {j : Nat} {hs : List HoldD} {h : HoldD} (hj : hs[j]? = some h) : pullN nm (hs.take (j + 1)) = pullN nm (hs.take j) + (if (h.block.toList == nm.toList) = true then h.pulls else 0) := by
  rw [pullN, pullN, List.take_add_one, hj]; simp
theorem pullN_bound (nm : ByteArray) : ∀ (hs : List HoldD), smallPulls hs → -(2 * (hs.length : Int)) ≤ pullN nm hs ∧ pullN nm hs ≤ 2 * (hs.length : Int)
  | [], _ => by simp [pullN]
  | h :: hs, hp => by
    have h1 := pullN_bound nm hs (fun x hx => hp x (by simp [hx]))
    have h2 := hp h (by simp)
    have e : pullN nm (h :: hs) = (if (h.block.toList == nm.toList) = true then h.pulls else 0) + pullN nm hs := by simp [pullN]
    rw [e]
    simp only [List.length_cons]
    split <;> omega
theorem idxFrom_get {α : Type} {p : α → Bool} : ∀ (l : List α) (i k : Nat), idxFrom p i l = ((i + k : Nat) : Int) → ∃ x, l[k]? = some x ∧ p x = true
  | [], _, _, h => by simp [idxFrom] at h; omega
  | z :: l, i, k, h => by
    rw [idxFrom] at h
    cases hz : p z
    · rw [hz] at h
      simp only [Bool.false_eq_true, if_false] at h
      cases k with
      | zero =>
        exfalso
        have key : ∀ (l : List α) (j : Nat), idxFrom p j l = -1 ∨ (j : Int) ≤ idxFrom p j l := by
          intro l
          induction l with
          | nil => intro j; left; rfl
          | cons x l ih =>
            intro j
            rw [idxFrom]
            cases p x
            · rcases ih (j + 1) with h | h
              · left; simpa using h
              · right; simp only [Bool.false_eq_true, if_false]; omega
            · right; simp
        rcases key l (i + 1) with h1 | h1 <;> omega
      | succ k =>
        obtain ⟨x, hx, hp⟩ := idxFrom_get l (i + 1) k (by rw [h]; congr 1; omega)
        exact ⟨x, by simpa using hx, hp⟩
    · rw [hz] at h
      simp only [if_true] at h
      have : k = 0 := by omega
      subst this
      exact ⟨z, rfl, hz⟩
theorem findB_iff {s : SysD} (h : sysOk s = true) {i : Nat} {b : BlockD} (hb : s.blocks.l[i]? = some b) (nm : ByteArray) : (findB s.blocks.l nm = (i : Int)) ↔ (nm.toList == b.name.toList) = true := by
  constructor
  · intro hf
    obtain ⟨x, hx, hp⟩ := idxFrom_get (p := fun b => sameName b.name nm) s.blocks.l 0 i (by rw [Nat.zero_add]; exact hf)
    rw [hb] at hx
    cases hx
    have := sameName_iff.1 hp
    rw [this]; simp
  · intro hq
    have e : nm = b.name := bs_inj (by simpa [bs] using hq)
    rw [e]
    have := (sysOk_parts h).2.1 i b hb
    rw [blockAt, Bool.and_eq_true, Bool.and_eq_true] at this
    exact of_decide_eq_true this.1.2
theorem pull_eq {s : SysD} (h : sysOk s = true) {i : Nat} {b : BlockD} (hb : s.blocks.l[i]? = some b) (hs : List HoldD) : pullN b.name hs = pullIdx s.blocks.l i hs := by
  unfold pullN pullIdx
  congr 1
  apply List.map_congr_left
  intro x _
  by_cases e : findB s.blocks.l x.block = (i : Int)
  · rw [if_pos e, if_pos ((findB_iff h hb x.block).1 e)]
  · rw [if_neg e, if_neg (fun h2 => e ((findB_iff h hb x.block).2 h2))]
theorem matF_pull {s : SysD} (h : sysOk s = true) {i k : Nat} {b : BlockD} {r : RopeD} (hb : s.blocks.l[i]? = some b) (hr : s.ropes.l[k]? = some r) : matF s.blocks.l s.ropes.l i k = pullN b.name r.holds.l := by
  rw [matF, hr, pull_eq h hb]
set_option maxRecDepth 100000 in
set_option maxHeartbeats 4000000 in
theorem pull_any (r : RopeD) (nm : ByteArray) (hsm : smallPulls r.holds.l) (h10 : r.holds.l.length ≤ 10) (w : World) (B : Nat) (hB : B ≤ w.heap.size) (hat : RopeD.at_ w B r) :
    Calls Tryd.prog 48 #[.agg #[.string r.name, .slice r.holds.A r.holds.l.length r.holds.cap, .bool r.hauled], .string nm] w (Gives w (.int .i64 (pullN nm r.holds.l))) := by
  obtain ⟨W, hW, hWs, hWb, hWh⟩ := boxed w (.cells #[.string r.name, .slice r.holds.A r.holds.l.length r.holds.cap, .bool r.hauled] 40)
  have hc := fun y : After W.heap.size W => RopeD.boxed hWh (by omega) y
  have HBD := hide fun y : After W.heap.size W => hWb.trans (y.below.mono (by omega))
  have HS := hide (SlAt.to hat (hWb.mono hB) (by omega) : SlAt W W.heap.size 4 HoldD.cells r.holds)
  have hm : r.holds.cap ≤ 9223372036854775807 := hat.2.1
  have hlc : r.holds.l.length ≤ r.holds.cap := hat.1
  have HW := hide hW
  have HSM := hide hsm
  clear hW hWs hWh hWb hat hsm
  obtain ⟨rn, ⟨A, cap, l⟩, u⟩ := r
  simp only at *
  go_enter Tryd.func48, Tryd.ntmps48
  go_wp2
  rw [← HW.out]
  go_loopw [5, 6] (fun u v wr => ∃ k : Nat, v = .int .i64 k ∧ u = .int .i64 (pullN nm (l.take k)) ∧ k ≤ l.length ∧ ∃ x : After W.heap.size W, wr = x.val) (fun _ v _ => l.length - (intOf v).toNat)
  case atStart => exact ⟨0, rfl, by simp [pullN], Nat.zero_le _, After.refl _ _, rfl⟩
  case round =>
    obtain ⟨k, rfl, rfl, hk, x, rfl⟩ := hrel
    by_cases hlt : k < l.length
    · obtain ⟨b, off, hA, hb, hcell⟩ := HS.out.2.2 (show 0 < l.length by omega)
      simp only at hA
      subst hA
      have hx : l[k]? = some l[k] := List.getElem?_eq_getElem hlt
      have he := fun x : After W.heap.size W => HoldD.elem hx hb hcell x
      have HNX := hide (pullN_next (nm := nm) hx)
      have hpb := HSM.out _ (List.getElem_mem hlt)
      have hob := pullN_bound nm (l.take k) (smallPulls_take HSM.out k)
      rw [List.length_take] at hob
      clear hcell hx
      obtain ⟨a, ha⟩ : ∃ a, a = pullN nm (l.take k) := ⟨_, rfl⟩
      obtain ⟨h, hh⟩ : ∃ h, h = l[k] := ⟨_, rfl⟩
      rw [← ha] at HNX hob ⊢
      rw [← hh] at HNX he hpb
      clear ha hh
      rcases Bool.eq_false_or_eq_true (h.block.toList == nm.toList) with hq | hq
      all_goals
        have HQ := hide hq
        go_wp2
        exact ⟨⟨k + 1, by go_num, by rw [HNX.out, HQ.out]; simp, by omega, _, rfl⟩, by simp [intOf]; omega⟩
    · have hkl : k = l.length := by omega
      subst hkl
      rw [List.take_length]
      go_wp2
      go_ret
      exact Gives.mk rfl (HBD.out x)

/-- the sum of the pulls of the first k ropes -/
def partsTo (nm : ByteArray) (rl : List RopeD) : Int := (rl.map fun r => pullN nm r.holds.l).sum
theorem partsTo_next {nm : ByteArray} {k : Nat} {rl : List RopeD} {r : RopeD} (hk : rl[k]? = some r) : partsTo nm (rl.take (k + 1)) = partsTo nm (rl.take k) + pullN nm r.holds.l := by
  rw [partsTo, partsTo, List.take_add_one, hk]; simp
theorem partsTo_bound {nm : ByteArray} : ∀ (rl : List RopeD), (∀ r ∈ rl, smallPulls r.holds.l ∧ r.holds.l.length ≤ 10) → -(20 * (rl.length : Int)) ≤ partsTo nm rl ∧ partsTo nm rl ≤ 20 * (rl.length : Int)
  | [], _ => by simp [partsTo]
  | r :: rl, h => by
    have h1 := partsTo_bound (nm := nm) rl (fun x hx => h x (by simp [hx]))
    obtain ⟨h2, h3⟩ := h r (by simp)
    have h4 := pullN_bound nm r.holds.l h2
    have e : partsTo nm (r :: rl) = pullN nm r.holds.l + partsTo nm rl := by simp [partsTo]
    rw [e]
    simp only [List.length_cons]
    omega
theorem rowTo_parts {s : SysD} (h : sysOk s = true) {i : Nat} {b : BlockD} (hb : s.blocks.l[i]? = some b) : ∀ k, k ≤ s.ropes.l.length → rowTo (matF s.blocks.l s.ropes.l) i k = partsTo b.name (s.ropes.l.take k)
  | 0, _ => by simp [rowTo, partsTo]
  | k + 1, hk => by
    have hx : s.ropes.l[k]? = some s.ropes.l[k] := List.getElem?_eq_getElem (by omega)
    rw [rowTo_next, rowTo_parts h hb k (by omega), partsTo_next hx, matF_pull h hb hx]
set_option maxRecDepth 100000 in
set_option maxHeartbeats 4000000 in
theorem refParts_any (s : SysD) (nm : ByteArray) (hv : sysOk s = true) (w : World) (B : Nat) (hB : B ≤ w.heap.size) (hat : SysD.at_ w B s) :
    Calls Tryd.prog 29 #[.agg #[.slice s.blocks.A s.blocks.l.length s.blocks.cap, .slice s.ropes.A s.ropes.l.length s.ropes.cap], .string nm] w (Gives w (.int .i64 (partsTo nm s.ropes.l))) := by
  obtain ⟨⟨_, _, hC1, hC6⟩, _, _⟩ := sysOk_parts hv
  obtain ⟨W, hW, hWs, hWb, hWh⟩ := boxed w (.cells #[.slice s.blocks.A s.blocks.l.length s.blocks.cap, .slice s.ropes.A s.ropes.l.length s.ropes.cap] 25)
  have hc := fun y : After W.heap.size W => SysD.boxed hWh (by omega) y
  have HBD := hide fun y : After W.heap.size W => hWb.trans (y.below.mono (by omega))
  have hatW : SysD.at_ W W.heap.size s := hat.to (hWb.mono hB) (by omega)
  have hsm : ∀ r ∈ s.ropes.l, smallPulls r.holds.l ∧ r.holds.l.length ≤ 10 := fun r hr => ⟨small_of_rope (ropeOk_of hv hr), (ropeOk_parts (ropeOk_of hv hr)).2.1⟩
  have KP := hide fun (y : After W.heap.size W) (r : RopeD) (hr : r ∈ s.ropes.l) => Gives.after (x := y) (Nat.le_refl _) (pull_any r nm (hsm r hr).1 (hsm r hr).2 y.val W.heap.size y.size (RopeD.at_.to (hatW.each r hr) y.below (Nat.le_refl _)))
  have HSR := hide hatW.ropes
  have HSM := hide hsm
  have hm : s.ropes.cap ≤ 9223372036854775807 := hat.ropes.2.1
  have hlc : s.ropes.l.length ≤ s.ropes.cap := hat.ropes.1
  have HW := hide hW
  clear hW hWs hWh hWb hat hatW hsm hv
  obtain ⟨⟨A0, cap0, l0⟩, ⟨A, cap, l⟩⟩ := s
  simp only at *
  go_enter Tryd.func29, Tryd.ntmps29
  go_wp2
  rw [← HW.out]
  go_loopw [5, 6] (fun u v wr => ∃ k : Nat, v = .int .i64 k ∧ u = .int .i64 (partsTo nm (l.take k)) ∧ k ≤ l.length ∧ ∃ x : After W.heap.size W, wr = x.val) (fun _ v _ => l.length - (intOf v).toNat)
  case atStart => exact ⟨0, rfl, by simp [partsTo], Nat.zero_le _, After.refl _ _, rfl⟩
  case round =>
    obtain ⟨k, rfl, rfl, hk, x, rfl⟩ := hrel
    by_cases hlt : k < l.length
    · obtain ⟨b, off, hA, hb, hcell⟩ := HSR.out.2.2 (show 0 < l.length by omega)
      simp only at hA
      subst hA
      have hx : l[k]? = some l[k] := List.getElem?_eq_getElem hlt
      have he := fun x : After W.heap.size W => RopeD.elem hx hb hcell x
      have HNX := hide (partsTo_next (nm := nm) hx)
      obtain ⟨hs1, hs2⟩ := HSM.out _ (List.getElem_mem hlt)
      have hpb := pullN_bound nm l[k].holds.l hs1
      have hob := partsTo_bound (nm := nm) (l.take k) (fun r hr => HSM.out r (List.mem_of_mem_take hr))
      rw [List.length_take] at hob
      have KC := hide (fun y => KP.out y l[k] (List.getElem_mem hlt))
      clear hcell hx
      obtain ⟨a, ha⟩ : ∃ a, a = partsTo nm (l.take k) := ⟨_, rfl⟩
      obtain ⟨r, hr⟩ : ∃ r, r = l[k] := ⟨_, rfl⟩
      rw [← ha] at HNX hob ⊢
      rw [← hr] at HNX he hpb KC hs2
      obtain ⟨p, hp⟩ : ∃ p, p = pullN nm r.holds.l := ⟨_, rfl⟩
      rw [← hp] at HNX hpb KC
      clear ha hr hp hs1
      go_wp2_with (go_at_call 48; refine (KC.out x).mono ?_; rintro e w' ⟨rfl, y, rfl⟩)
      exact ⟨⟨k + 1, by go_num, by rw [HNX.out], by omega, _, rfl⟩, by simp [intOf]; omega⟩
    · have hkl : k = l.length := by omega
      subst hkl
      rw [List.take_length]
      go_wp2
      go_ret
      exact Gives.mk rfl (HBD.out x)

theorem map_next {α : Type} {l : List α} {k : Nat} {x : α} (h : l[k]? = some x) (f : α → Int) : (l.take (k + 1)).map f = (l.take k).map f ++ [f x] := by rw [List.take_add_one, h, List.map_append]; rfl
/-- a row of ints that the call owns: nothing below W has turned -/
structure IntSt (W : World) (v : Value) (xs : List Int) (x : World) : Prop where
  own : x.ownsRow W.heap.size 3 1 v xs.length (xs.map (Value.int .i64))
  bel : Below W.heap.size W x
theorem IntSt.start (W x : World) (h : Below W.heap.size W x) : IntSt W (.slice none 0 0) [] x := ⟨own_nil _ _ _ _, h⟩
theorem IntSt.more {W x y : World} {v : Value} {xs : List Int} (h : IntSt W v xs x) (hb : Below x.heap.size x y) : IntSt W v xs y := ⟨own_below h.own hb, h.bel.trans (hb.mono h.bel.size)⟩
theorem IntSt.append {W z u w' : World} {v v' : Value} {xs : List Int} {x : Int} (h : IntSt W v xs z) (hu : Below z.heap.size z u) (hown : w'.ownsRow W.heap.size 3 1 v' (xs.length + 1) (xs.map (Value.int .i64) ++ [.int .i64 x])) (hgr : u.grownBy w' v.ownBlock) : IntSt W v' (xs ++ [x]) w' := by
  have hb : Below W.heap.size z w' := Below.grown (hu.mono h.bel.size) hgr (Nat.le_trans h.bel.size hu.size) (own_owner h.own)
  refine ⟨?_, h.bel.trans hb⟩
  rw [List.length_append, List.map_append]
  exact hown
/-- a row of ints that can be read -/
def IntRow (w : World) (v : Value) (xs : List Int) : Prop := ∃ g cap, v = .slice (some ⟨g, 0, none⟩) xs.length cap ∧ g < w.heap.size ∧ ∀ j x, xs[j]? = some x → w.cell? ⟨g, 0 + j, none⟩ = some (.int .i64 x)
theorem IntRow.below {w w' : World} {v : Value} {xs : List Int} (h : IntRow w v xs) (hb : Below w.heap.size w w') : IntRow w' v xs := by
  obtain ⟨g, cap, hv, hg, hc⟩ := h
  exact ⟨g, cap, hv, Nat.lt_of_lt_of_le hg hb.size, fun j x hx => (hb.cell (p := ⟨g, 0 + j, none⟩) hg).trans (hc j x hx)⟩
theorem IntSt.row {W x : World} {v : Value} {xs : List Int} (h : IntSt W v xs x) (hn : xs ≠ []) : IntRow x v xs := by
  rcases h.own.2 with ⟨_, h0⟩ | ⟨g, cap, cur, hv, _, hh, _, _, _, htake⟩
  · exact absurd (List.eq_nil_of_length_eq_zero h0) hn
  · refine ⟨g, cap, hv, (Array.getElem?_eq_some_iff.1 hh).1, fun j z hz => ?_⟩
    have hj := (List.getElem?_eq_some_iff.1 hz).1
    rw [Nat.zero_add, Lib.cell_of_heap hh, ← Array.getElem?_toList]
    have : (cur.toList.take (xs.length * 1))[j]? = some (.int .i64 z) := by rw [htake, List.getElem?_map, hz]; rfl
    rwa [List.getElem?_take_of_lt (by omega)] at this
theorem equalRow {w : World} {v v' : Value} {xs ys : List Int} (h : IntRow w v xs) (h' : IntRow w v' ys) (hl : xs.length ≤ 9223372036854775807) (hl' : ys.length ≤ 9223372036854775807) :
    Calls Tryd.prog 25 #[v, v'] w (Gives w (.bool (xs == ys))) := by
  obtain ⟨g, cap, rfl, _, hc⟩ := h
  obtain ⟨g', cap', rfl, _, hc'⟩ := h'
  exact equalInts xs ys rfl rfl hl hl' hc hc'
set_option maxRecDepth 100000 in
set_option maxHeartbeats 4000000 in
theorem weights_good (s : SysD) (hok : s.ok) (hv : sysOk s = true) (w : World) (B : Nat) (hB : B ≤ w.heap.size) (hat : SysD.at_ w B s) :
    Calls Tryd.prog 22 #[.agg #[.slice s.blocks.A s.blocks.l.length s.blocks.cap, .slice s.ropes.A s.ropes.l.length s.ropes.cap]] w fun e w' => ∃ v, e = .returned (.tuple #[v, .int .i64 0]) ∧ IntRow w' v (s.blocks.l.map (·.weight)) ∧ Below w.heap.size w w' := by
  obtain ⟨⟨hR1, hR6, _, _⟩, _, _⟩ := sysOk_parts hv
  obtain ⟨W, hW, hWs, hWb, hWh⟩ := boxed w (.cells #[.slice s.blocks.A s.blocks.l.length s.blocks.cap, .slice s.ropes.A s.ropes.l.length s.ropes.cap] 25)
  have hc := fun y : After W.heap.size W => SysD.boxed hWh (by omega) y
  have HBD := hide fun y : After W.heap.size W => hWb.trans (y.below.mono (by omega))
  have hatW : SysD.at_ W W.heap.size s := hat.to (hWb.mono hB) (by omega)
  have KV := hide (Gives.first (validS_any s hok W W.heap.size (Nat.le_refl _) hatW))
  rw [hv] at KV
  obtain ⟨i0, hi, hz0, hz1, hz2⟩ := info_parts infoInts
  have HSB := hide hatW.blocks
  have hm : s.blocks.cap ≤ 9223372036854775807 := hat.blocks.2.1
  have hlc : s.blocks.l.length ≤ s.blocks.cap := hat.blocks.1
  have HW := hide hW
  clear hW hWs hWh hWb hat hatW hv
  obtain ⟨⟨A, cap, l⟩, ⟨A0, cap0, l0⟩⟩ := s
  simp only at *
  go_enter Tryd.func22, Tryd.ntmps22
  go_wp2_with (go_at_call 13; rw [← HW.out]; refine KV.out.mono ?_; rintro e w' ⟨rfl, y, rfl⟩)
  go_loopw [4, 6, 13] (fun u _ v wr => ∃ k : Nat, v = .int .i64 k ∧ k ≤ l.length ∧ Hid (IntSt W u ((l.take k).map (·.weight)) wr)) (fun _ _ v _ => l.length - (intOf v).toNat)
  case atStart => exact ⟨0, rfl, Nat.zero_le _, hide (IntSt.start W _ (y.below))⟩
  case round =>
    obtain ⟨k, rfl, hk, st⟩ := hrel
    have hcw := hc ⟨_, st.out.bel⟩
    simp only at hcw
    by_cases hlt : k < l.length
    · obtain ⟨b, off, hA, hb, hcell⟩ := HSB.out.2.2 (show 0 < l.length by omega)
      simp only at hA
      subst hA
      have hx : l[k]? = some l[k] := List.getElem?_eq_getElem hlt
      have he := BlockD.elem hx hb hcell ⟨_, st.out.bel⟩
      simp only at he
      have HNX := hide (show (l.take (k + 1)).map (·.weight) = (l.take k).map (·.weight) ++ [l[k].weight] from map_next hx _)
      have HLEN := hide (show ((l.take k).map (·.weight)).length = k by rw [List.length_map, List.length_take]; omega)
      clear hcell hx
      go_wp2_with (at_builtin; refine Hid.out ?_)
      refine Lib.hid ?_
      refine wpList_append_own _ rfl _ _ 33 rfl W.heap.size 3 i0 (.int .i64 0) 1 8 Tryd.underlying33 hi hz0 hz1 hz2 rfl (by decide) _ _ _ rfl ((st.out.own.alloc _).alloc _) ⟨wr.heap.size + 1, 0, none⟩ 1 1 [.int .i64 l[k].weight] rfl rfl (by simpa using cell_one_new (wr.alloc _) _ _) (fun u hu => by simp at hu; subst hu; rfl) (by rw [HLEN.out]; unfold maxLen; omega) (by rw [HLEN.out]; omega) (by have := st.out.bel.size; simp; omega) ?_
      intro v4 w4 hown hgr _
      have HN := hide (IntSt.append st.out (((Below.refl _ _).alloc (Nat.le_refl _) _).alloc (by simp) _) hown hgr)
      rw [← HNX.out] at HN
      clear hgr hown
      go_wp2
      exact ⟨⟨k + 1, by go_num, by omega, HN⟩, by simp [intOf]; omega⟩
    · have hkl : k = l.length := by omega
      subst hkl
      rw [List.take_length] at st
      go_wp2
      go_returns
      exact ⟨_, rfl, st.out.row (fun h => by have := congrArg List.length h; simp at this; rw [this] at hR1; simp at hR1), HBD.out ⟨_, st.out.bel⟩⟩
set_option maxRecDepth 100000 in
set_option maxHeartbeats 4000000 in
theorem refWeights_any (s : SysD)  (hv : sysOk s = true) (w : World) (B : Nat) (hB : B ≤ w.heap.size) (hat : SysD.at_ w B s) :
    Calls Tryd.prog 26 #[.agg #[.slice s.blocks.A s.blocks.l.length s.blocks.cap, .slice s.ropes.A s.ropes.l.length s.ropes.cap]] w fun e w' => ∃ v, e = .returned v ∧ IntRow w' v (s.blocks.l.map (·.weight)) ∧ Below w.heap.size w w' := by
  obtain ⟨⟨hR1, hR6, _, _⟩, _, _⟩ := sysOk_parts hv
  obtain ⟨W, hW, hWs, hWb, hWh⟩ := boxed w (.cells #[.slice s.blocks.A s.blocks.l.length s.blocks.cap, .slice s.ropes.A s.ropes.l.length s.ropes.cap] 25)
  have hc := fun y : After W.heap.size W => SysD.boxed hWh (by omega) y
  have HBD := hide fun y : After W.heap.size W => hWb.trans (y.below.mono (by omega))
  have hatW : SysD.at_ W W.heap.size s := hat.to (hWb.mono hB) (by omega)
  
  obtain ⟨i0, hi, hz0, hz1, hz2⟩ := info_parts infoInts
  have HSB := hide hatW.blocks
  have hm : s.blocks.cap ≤ 9223372036854775807 := hat.blocks.2.1
  have hlc : s.blocks.l.length ≤ s.blocks.cap := hat.blocks.1
  have HW := hide hW
  clear hW hWs hWh hWb hat hatW hv
  obtain ⟨⟨A, cap, l⟩, ⟨A0, cap0, l0⟩⟩ := s
  simp only at *
  go_enter Tryd.func26, Tryd.ntmps26
  go_wp2
  rw [← HW.out]
  go_loopw [3, 4] (fun u v wr => ∃ k : Nat, v = .int .i64 k ∧ k ≤ l.length ∧ Hid (IntSt W u ((l.take k).map (·.weight)) wr)) (fun _ v _ => l.length - (intOf v).toNat)
  case atStart => exact ⟨0, rfl, Nat.zero_le _, hide (IntSt.start W _ (Below.refl _ _))⟩
  case round =>
    obtain ⟨k, rfl, hk, st⟩ := hrel
    have hcw := hc ⟨_, st.out.bel⟩
    simp only at hcw
    by_cases hlt : k < l.length
    · obtain ⟨b, off, hA, hb, hcell⟩ := HSB.out.2.2 (show 0 < l.length by omega)
      simp only at hA
      subst hA
      have hx : l[k]? = some l[k] := List.getElem?_eq_getElem hlt
      have he := BlockD.elem hx hb hcell ⟨_, st.out.bel⟩
      simp only at he
      have HNX := hide (show (l.take (k + 1)).map (·.weight) = (l.take k).map (·.weight) ++ [l[k].weight] from map_next hx _)
      have HLEN := hide (show ((l.take k).map (·.weight)).length = k by rw [List.length_map, List.length_take]; omega)
      clear hcell hx
      go_wp2_with (at_builtin; refine Hid.out ?_)
      refine Lib.hid ?_
      refine wpList_append_own _ rfl _ _ 33 rfl W.heap.size 3 i0 (.int .i64 0) 1 8 Tryd.underlying33 hi hz0 hz1 hz2 rfl (by decide) _ _ _ rfl (st.out.own.alloc _) ⟨wr.heap.size, 0, none⟩ 1 1 [.int .i64 l[k].weight] rfl rfl (cell_one_new _ _ _) (fun u hu => by simp at hu; subst hu; rfl) (by rw [HLEN.out]; unfold maxLen; omega) (by rw [HLEN.out]; omega) (by have := st.out.bel.size; simp; omega) ?_
      intro v4 w4 hown hgr _
      have HN := hide (IntSt.append st.out ((Below.refl _ _).alloc (Nat.le_refl _) _) hown hgr)
      rw [← HNX.out] at HN
      clear hgr hown
      go_wp2
      exact ⟨⟨k + 1, by go_num, by omega, HN⟩, by simp [intOf]; omega⟩
    · have hkl : k = l.length := by omega
      subst hkl
      rw [List.take_length] at st
      go_wp2
      go_returns
      exact ⟨_, rfl, st.out.row (fun h => by have := congrArg List.length h; simp at this; rw [this] at hR1; simp at hR1), HBD.out ⟨_, st.out.bel⟩⟩

def haulV (r : RopeD) : Int := if r.hauled then 1 else 0
set_option maxRecDepth 100000 in
set_option maxHeartbeats 4000000 in
theorem refHauled_any (s : SysD) (hv : sysOk s = true) (w : World) (B : Nat) (hB : B ≤ w.heap.size) (hat : SysD.at_ w B s) :
    Calls Tryd.prog 27 #[.agg #[.slice s.blocks.A s.blocks.l.length s.blocks.cap, .slice s.ropes.A s.ropes.l.length s.ropes.cap]] w fun e w' => ∃ v, e = .returned v ∧ IntRow w' v (s.ropes.l.map haulV) ∧ Below w.heap.size w w' := by
  obtain ⟨⟨_, _, hR1, hR6⟩, _, _⟩ := sysOk_parts hv
  obtain ⟨W, hW, hWs, hWb, hWh⟩ := boxed w (.cells #[.slice s.blocks.A s.blocks.l.length s.blocks.cap, .slice s.ropes.A s.ropes.l.length s.ropes.cap] 25)
  have hc := fun y : After W.heap.size W => SysD.boxed hWh (by omega) y
  have HBD := hide fun y : After W.heap.size W => hWb.trans (y.below.mono (by omega))
  have hatW : SysD.at_ W W.heap.size s := hat.to (hWb.mono hB) (by omega)
  obtain ⟨i0, hi, hz0, hz1, hz2⟩ := info_parts infoInts
  have HSB := hide hatW.ropes
  have hm : s.ropes.cap ≤ 9223372036854775807 := hat.ropes.2.1
  have hlc : s.ropes.l.length ≤ s.ropes.cap := hat.ropes.1
  have HW := hide hW
  clear hW hWs hWh hWb hat hatW hv
  obtain ⟨⟨A0, cap0, l0⟩, ⟨A, cap, l⟩⟩ := s
  simp only at *
  go_enter Tryd.func27, Tryd.ntmps27
  go_wp2
  rw [← HW.out]
  go_loopw [3, 4] (fun u v wr => ∃ k : Nat, v = .int .i64 k ∧ k ≤ l.length ∧ Hid (IntSt W u ((l.take k).map haulV) wr)) (fun _ v _ => l.length - (intOf v).toNat)
  case atStart => exact ⟨0, rfl, Nat.zero_le _, hide (IntSt.start W _ (Below.refl _ _))⟩
  case round =>
    obtain ⟨k, rfl, hk, st⟩ := hrel
    have hcw := hc ⟨_, st.out.bel⟩
    simp only at hcw
    by_cases hlt : k < l.length
    · obtain ⟨b, off, hA, hb, hcell⟩ := HSB.out.2.2 (show 0 < l.length by omega)
      simp only at hA
      subst hA
      have hx : l[k]? = some l[k] := List.getElem?_eq_getElem hlt
      have he := RopeD.elem hx hb hcell ⟨_, st.out.bel⟩
      simp only at he
      have HNX := hide (show (l.take (k + 1)).map haulV = (l.take k).map haulV ++ [haulV l[k]] from map_next hx _)
      have HLEN := hide (show ((l.take k).map haulV).length = k by rw [List.length_map, List.length_take]; omega)
      clear hcell hx
      rcases Bool.eq_false_or_eq_true l[k].hauled with hu | hu
      · have HV := hide (show haulV l[k] = 1 by rw [haulV, hu]; rfl)
        rw [HV.out] at HNX
        go_wp2_with (at_builtin; refine Hid.out ?_)
        refine Lib.hid ?_
        refine wpList_append_own _ rfl _ _ 33 rfl W.heap.size 3 i0 (.int .i64 0) 1 8 Tryd.underlying33 hi hz0 hz1 hz2 rfl (by decide) _ _ _ rfl (st.out.own.alloc _) ⟨wr.heap.size, 0, none⟩ 1 1 [.int .i64 1] rfl rfl (cell_one_new _ _ _) (fun u hu => by simp at hu; subst hu; rfl) (by rw [HLEN.out]; unfold maxLen; omega) (by rw [HLEN.out]; omega) (by have := st.out.bel.size; simp; omega) ?_
        intro v4 w4 hown hgr _
        have HN := hide (IntSt.append st.out ((Below.refl _ _).alloc (Nat.le_refl _) _) hown hgr)
        rw [← HNX.out] at HN
        clear hgr hown
        go_wp2
        exact ⟨⟨k + 1, by go_num, by omega, HN⟩, by simp [intOf]; omega⟩
      · have HV := hide (show haulV l[k] = 0 by rw [haulV, hu]; rfl)
        rw [HV.out] at HNX
        go_wp2_with (at_builtin; refine Hid.out ?_)
        refine Lib.hid ?_
        refine wpList_append_own _ rfl _ _ 33 rfl W.heap.size 3 i0 (.int .i64 0) 1 8 Tryd.underlying33 hi hz0 hz1 hz2 rfl (by decide) _ _ _ rfl (st.out.own.alloc _) ⟨wr.heap.size, 0, none⟩ 1 1 [.int .i64 0] rfl rfl (cell_one_new _ _ _) (fun u hu => by simp at hu; subst hu; rfl) (by rw [HLEN.out]; unfold maxLen; omega) (by rw [HLEN.out]; omega) (by have := st.out.bel.size; simp; omega) ?_
        intro v4 w4 hown hgr _
        have HN := hide (IntSt.append st.out ((Below.refl _ _).alloc (Nat.le_refl _) _) hown hgr)
        rw [← HNX.out] at HN
        clear hgr hown
        go_wp2
        exact ⟨⟨k + 1, by go_num, by omega, HN⟩, by simp [intOf]; omega⟩
    · have hkl : k = l.length := by omega
      subst hkl
      rw [List.take_length] at st
      go_wp2
      go_returns
      exact ⟨_, rfl, st.out.row (fun h => by have := congrArg List.length h; simp at this; rw [this] at hR1; simp at hR1), HBD.out ⟨_, st.out.bel⟩⟩
theorem hauled_row {s : SysD} {w : World} {n0 : Nat} (hn : n0 < w.heap.size) (h : w.rowIs n0 3 s.ropes.l.length (fun c => .int .i64 (haulF s.ropes.l s.ropes.l.length c))) : IntRow w (.slice (some ⟨n0, 0, none⟩) s.ropes.l.length s.ropes.l.length) (s.ropes.l.map haulV) := by
  refine ⟨n0, s.ropes.l.length, by simp, hn, fun j x hx => ?_⟩
  rw [List.getElem?_map] at hx
  cases hr : s.ropes.l[j]? with
  | none => rw [hr] at hx; cases hx
  | some r =>
    rw [hr] at hx
    injection hx with hx
    have hj := (List.getElem?_eq_some_iff.1 hr).1
    have := h.cell hj
    rw [Nat.zero_add, this]
    have e : haulF s.ropes.l s.ropes.l.length j = x := by rw [← hx]; simp only [haulF, hr, haulV, hj, true_and]
    rw [e]
end Go.Proofs.YtgamhdbcejkllaaDoor
