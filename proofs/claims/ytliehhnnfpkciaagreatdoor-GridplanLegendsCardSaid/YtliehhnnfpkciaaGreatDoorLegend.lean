/- gridplan.Legend: the legend of a right house as text. -/
import Derived.Test.YtliehhnnfpkciaaGreatDoorOrder
import Derived.Test.YtliehhnnfpkciaaGreatDoorWriteString
import Derived.Test.YtliehhnnfpkciaaGreatDoorString
import Derived.Test.YtliehhnnfpkciaaGreatDoorMoveTail
import Derived.Test.YtliehhnnfpkciaaGreatDoorLegLaw
import Derived.Lib.AppendIntMem
import Derived.Lib.ItoaLen
namespace Go.Proofs.YtliehhnnfpkciaaGreatDoor
open Go.RowKit

/-- the table of the powers of ten -/
def Pow10 (w : World) : Prop := Lib.TabIs Tryz.prog w "internal/strconv.uint64pow10" .u64 Lib.pow10Tab
theorem Pow10.below {w w' : World} (h : Pow10 w) (hb : Below w.heap.size w w') : Pow10 w' := Lib.tabBelow_of_tabIs h w' hb
def numT (n : Int) : ByteArray := ⟨(Lib.itoa n).toArray⟩
theorem numT_bs (n : Int) : bs (numT n) = Lib.itoa n := by rw [bs_data]; rfl
theorem itoa10_any (n : Int) (h : I64 n) (w : World) (ht : Pow10 w) : Calls Tryz.prog 42 #[.int .i64 n] w (Gives w (.string (numT n))) :=
  (Tryz.strconv_Itoa n h.1 h.2 w ht).mono fun e w' ⟨he, k, os, hw⟩ => ⟨he, by rw [hw]; exact Lib.below_grow _ w (Nat.le_refl _) k os⟩
theorem itoa_21 (n : Int) (h : I64 n) : (Lib.itoa n).length ≤ 21 := Lib.itoa_length_le n h.1 h.2
/-! ### the legend -/
def setLn (s : SetD) : List UInt8 := setLine (bs s.name) s.depth s.lines.l.length s.items.l.length
def beamLn (b : RoofD) : List UInt8 := beamLine (bs b.name) b.fro b.til
def setLnAt (l : List SetD) (i : Nat) : List UInt8 := match l[i]? with
  | some s => setLn s
  | none => []
theorem setLnAt_of {l : List SetD} {i : Nat} {s : SetD} (h : l[i]? = some s) : setLnAt l i = setLn s := by rw [setLnAt, h]
def setsT (l : List SetD) (o : List Nat) : List UInt8 := o.flatMap fun i => setLnAt l i ++ [10]
def beamsT (r : List RoofD) : List UInt8 := r.flatMap fun b => beamLn b ++ [10]
def legT (l : List SetD) (r : List RoofD) : List UInt8 := setsT l (orderE (dep l) l.length) ++ beamsT r
theorem flat_next {α β : Type} {l : List α} {k : Nat} {x : α} (h : l[k]? = some x) (f : α → List β) : (l.take (k + 1)).flatMap f = (l.take k).flatMap f ++ f x := by
  rw [List.take_add_one, h, List.flatMap_append]; simp
/-! ### joined words -/
theorem join7 (a b c d e f g : List UInt8) : Lib.join [a, b, c, d, e, f, g] [32] = a ++ 32 :: (b ++ 32 :: (c ++ 32 :: (d ++ 32 :: (e ++ 32 :: (f ++ 32 :: g))))) := by
  simp [Lib.join, List.intercalate]
theorem join6 (a b c d e f : List UInt8) : Lib.join [a, b, c, d, e, f] [32] = a ++ 32 :: (b ++ 32 :: (c ++ 32 :: (d ++ 32 :: (e ++ 32 :: f)))) := by
  simp [Lib.join, List.intercalate]
theorem setLn_join (s : SetD) : Lib.join ([s.name, ⟨#[97, 116]⟩, numT s.depth, ⟨#[108, 105, 110, 101, 115]⟩, numT s.lines.l.length, ⟨#[105, 116, 101, 109, 115]⟩, numT s.items.l.length].map (·.data.toList)) [32] = setLn s := by
  simp only [List.map_cons, List.map_nil, join7, setLn, setLine, atW, linesW, itemsW, bs_data, numT]
  simp
theorem beamLn_join (b : RoofD) : Lib.join ([⟨#[98, 101, 97, 109]⟩, b.name, ⟨#[102, 114, 111, 109]⟩, numT b.fro, ⟨#[116, 111]⟩, numT b.til].map (·.data.toList)) [32] = beamLn b := by
  simp only [List.map_cons, List.map_nil, join6, beamLn, beamLine, beamW, fromW, toW, bs_data, numT]
  simp
theorem isName_size {s : ByteArray} (h : isName s = true) : s.size ≤ 20 := by
  have h1 : isNameL (bs s) = true := h
  simp only [isNameL, Bool.and_eq_true, decide_eq_true_eq] at h1
  have := h1.1.1.2
  rwa [bs_length] at this
theorem setLn_size {s : SetD} (hn : isName s.name = true) (hd : I64 s.depth) (h1 : s.lines.l.length ≤ 1000000) (h2 : s.items.l.length ≤ 1000000) : (setLn s).length ≤ 200 := by
  have a := isName_size hn
  have b := itoa_21 s.depth hd
  have c := itoa_21 (s.lines.l.length : Int) ⟨by omega, by omega⟩
  have d := itoa_21 (s.items.l.length : Int) ⟨by omega, by omega⟩
  simp only [setLn, setLine, atW, linesW, itemsW, List.length_append, bs_length, List.length_cons, List.length_nil]
  omega
theorem beamLn_size {b : RoofD} (hn : isName b.name = true) (hf : I64 b.fro) (ht : I64 b.til) : (beamLn b).length ≤ 200 := by
  have a := isName_size hn
  have b1 := itoa_21 b.fro hf
  have c := itoa_21 b.til ht
  simp only [beamLn, beamLine, beamW, fromW, toW, List.length_append, bs_length, List.length_cons, List.length_nil]
  omega
set_option maxHeartbeats 2000000 in
set_option maxRecDepth 100000 in
theorem writeByte_keep (B b : Nat) (bs : List Value) (c : Int) (w : World) (h : Lib.IsBuilder 58 5 B b bs w) (hlen : bs.length + 1 ≤ 140737488355328) (hBw : B ≤ w.heap.size) :
    Calls Tryz.prog 25 #[.pointer (some ⟨b, 0, none⟩), .int .u8 c] w fun e w' => e = .returned .nilIface ∧ (Lib.BuilderAt 58 5 B b (.pointer (some ⟨b, 0, none⟩)) (bs ++ [.int .u8 c]) w' ∧ Below B w w') ∧ KeepT w w' := by
  obtain ⟨i0, hi, hz0, hz1, hz2⟩ := info_parts infoByte
  go_enter Tryz.func25, Tryz.ntmps25
  go_wp2_with (go_at_call 55; refine (copyCheck_keep B b bs _ h).mono ?_)
  rintro e w1 ⟨rfl, ⟨h1, hb1⟩, hk1⟩
  obtain ⟨hB, v, hbk, hown, hne⟩ := h1
  have c0 : w1.cell? ⟨b, 0, none⟩ = some (.pointer (some ⟨b, 0, none⟩)) := by rw [Lib.cell_of_heap hbk]; rfl
  have c1 : w1.cell? ⟨b, 1, none⟩ = some v := by rw [Lib.cell_of_heap hbk]; rfl
  go_wp2_with (at_builtin; refine wpList_append_own _ rfl _ _ 54 rfl B 5 i0 (.int .u8 0) 1 1 Tryz.underlying54 hi hz0 hz1 hz2 rfl (by decide) _ _ _ rfl (hown.alloc _) ⟨w1.heap.size, 0, none⟩ 1 1 [.int .u8 c] rfl rfl ?c1 ?c2 ?c3 ?c4 ?c5 ?_)
  case c1 =>
    intro j u hj
    match j, hj with
    | 0, hj => simp at hj; subst hj; simp [Addr.add]
  case c2 => intro u hu; simp at hu; subst hu; rfl
  case c3 => unfold maxLen; omega
  case c4 => omega
  case c5 => have := hb1.size; simp; omega
  intro v' w2 hown' hgrow _
  have hlt : b < w1.heap.size := by
    rcases Nat.lt_or_ge b w1.heap.size with h' | h'
    · exact h'
    · simp [Array.getElem?_eq_none h'] at hbk
  have hb2 : w2.heap[b]? = some (.cells #[.pointer (some ⟨b, 0, none⟩), v] 58 (0, 0)) := by
    rw [hgrow.block b (by simp; omega) (fun e => hne e.symm), Lib.alloc_old w1 _ b hlt]
    exact hbk
  have hk2 : KeepT w1 w2 := fun k cs t fr h1 h2 h3 => by
    have hk := (Array.getElem?_eq_some_iff.1 h3).1
    refine (hgrow.block k (by simp; omega) fun e => ?_).trans ((Lib.alloc_old w1 _ k hk).trans h3)
    rcases hown.2 with ⟨hv, _⟩ | ⟨g, cap, cur, hv, _, hh, _⟩
    · rw [hv] at e; simp [Value.ownBlock] at e
    · rw [hv] at e; simp [Value.ownBlock] at e
      subst e
      rw [hh] at h3; injection h3 with h3; injection h3 with _ h4; exact h2 h4.symm
  have d0 : w2.cell? ⟨b, 0, none⟩ = some (.pointer (some ⟨b, 0, none⟩)) := by rw [Lib.cell_of_heap hb2]; rfl
  have d1 : w2.cell? ⟨b, 1, none⟩ = some v := by rw [Lib.cell_of_heap hb2]; rfl
  have f1 : w2.frozen? ⟨b, 1, none⟩ = false := Lib.frozen_of_heap hb2 1
  obtain ⟨g, cap, rfl⟩ : ∃ g cap, v' = .slice (some ⟨g, 0, none⟩) (bs.length + 1) cap := by
    rcases hown'.2 with ⟨_, h0⟩ | ⟨g, cap, cur, hv, _⟩
    · omega
    · exact ⟨g, cap, hv⟩
  go_wp2
  go_ret
  refine ⟨rfl, ⟨?_, ?_⟩, (hk1.trans hk2).trans (KeepT.setB hb2 _)⟩
  · exact Lib.BuilderAt.put (T := 58) (e := 5) hB hb2 (bs' := bs ++ [.int .u8 c]) (by simpa using hown') (by decide)
  · exact ((hb1.alloc (by have := hb1.size; omega) _).grown hgrow (by have := hb1.size; simp; omega) (fun k hk => (hown.lt k hk).1)).setCell (p := ⟨b, 1, none⟩) hB _
theorem writeByte_T {W x : World} {b : Nat} {T : List UInt8} (st : TSt W b T x) (hlen : T.length + 1 ≤ 140737488355328) :
    Calls Tryz.prog 25 #[.pointer (some ⟨b, 0, none⟩), .int .u8 10] x fun e w' => e = .returned .nilIface ∧ TSt W b (T ++ [10]) w' ∧ KeepT x w' := by
  refine (writeByte_keep b b (Lib.byteCells T) 10 x st.ib (by rw [Lib.byteCells_length]; exact hlen) (Nat.le_of_lt st.lt)).mono ?_
  rintro e w' ⟨he, ⟨h1, h2⟩, h3⟩
  exact ⟨he, ⟨Or.inr (by rw [Lib.byteCells_append]; exact h1), st.bel.trans (h2.mono st.le), st.le, Nat.lt_of_lt_of_le st.lt h2.size⟩, h3⟩
theorem enters_legend1 : ∀ args w, (callFunc 38 args).run Tryz.prog w = .ok (.enter 38 args) w := entersOf Tryz.func38 (by kernel_rfl) rfl
/-- a line is written -/
def Wrote (W : World) (b : Nat) (T : List UInt8) (x : World) (e : Ending) (w' : World) : Prop := e = .returned (.tuple #[]) ∧ TSt W b T w' ∧ KeepT x w'
set_option maxHeartbeats 2000000 in
set_option maxRecDepth 100000 in
theorem line_any {W x : World} {b : Nat} {T L : List UInt8} (st : TSt W b T x) (g c : Nat) (xs : List ByteArray) (hc : ∀ (j : Nat) s, xs[j]? = some s → x.cell? ⟨g, 0 + j, none⟩ = some (.string s)) (hg : g < x.heap.size) (hN : xs.length ≤ 10) (hcap : xs.length ≤ c)
    (hL : Lib.join (xs.map (·.data.toList)) [32] = L) (hLs : L.length ≤ 200) (hT : T.length ≤ 1000000) :
    Calls Tryz.prog 38 #[.slice (some ⟨g, 0, none⟩) xs.length c, .pointer (some ⟨b, 0, none⟩)] x (Wrote W b (T ++ (L ++ [10])) x) := by
  have KJ := hide (Tryz.strings_Join g 0 c xs ⟨#[32]⟩ x hc hg (by omega) hcap (by show (Lib.join (xs.map (·.data.toList)) [32]).length ≤ _; rw [hL]; omega))
  have e1 : Lib.join (xs.map (·.data.toList)) (⟨#[32]⟩ : ByteArray).data.toList = L := hL
  rw [e1] at KJ
  have hsz : (⟨L.toArray⟩ : ByteArray).size = L.length := by simp [ByteArray.size]
  have KW := hide fun (y : World) (hy : Below x.heap.size x y) => write_any (st.more hy) ⟨L.toArray⟩ (by rw [hsz]; omega)
  have e2 : (⟨L.toArray⟩ : ByteArray).data.toList = L := rfl
  rw [e2] at KW
  have KB := hide fun (z : World) (hz : TSt W b (T ++ L) z) => writeByte_T hz (by rw [List.length_append]; omega)
  clear e1 e2 hL hsz
  go_enter Tryz.func38, Tryz.ntmps38
  go_wp2_with fail
  refine KJ.out.mono ?_
  rintro e w1 ⟨rfl, hb1⟩
  have HB1 := hide hb1
  clear hb1
  go_wp2_with fail
  refine (KW.out w1 HB1.out).mono ?_
  rintro e w2 ⟨rfl, hs2, hk2⟩
  have HS2 := hide hs2
  have HK2 := hide hk2
  clear hs2 hk2
  go_wp2_with fail
  refine (KB.out w2 HS2.out).mono ?_
  rintro e w3 ⟨rfl, hs3, hk3⟩
  have HS3 := hide hs3
  have HK3 := hide hk3
  clear hs3 hk3
  go_wp2
  go_end0
  exact ⟨rfl, by rw [← List.append_assoc]; exact HS3.out, ((KeepT.below HB1.out).trans HK2.out).trans HK3.out⟩
end Go.Proofs.YtliehhnnfpkciaaGreatDoor
