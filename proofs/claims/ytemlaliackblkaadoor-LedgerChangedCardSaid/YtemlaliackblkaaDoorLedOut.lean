/- What the functions of ledgers give, in plain Lean: where a reading ends, what is decoded, what is appended. -/
import Derived.Test.YtemlaliackblkaaDoorLedLaw
import Derived.Test.YtemlaliackblkaaDoorLedInt
namespace Go.Proofs.YtemlaliackblkaaDoor
open Go Go.RowKit

/-- what Decode gives -/
def DecE (b : List UInt8) (l : List LogD) (e : Int) : Prop := (1048576 < b.length ∧ e = 4 ∧ l = []) ∨ (b.length ≤ 1048576 ∧ ∃ at_ l', Ends b at_ l' e ∧ l = if e = 0 then l' else [])
theorem DecE.same {b : List UInt8} {l l' : List LogD} {e e' : Int} (h : DecE b l e) (h' : DecE b l' e') : l = l' ∧ e = e' := by
  rcases h with ⟨h1, h2, h3⟩ | ⟨h1, at_, k, h2, h3⟩
  · rcases h' with ⟨g1, g2, g3⟩ | ⟨g1, _⟩
    · exact ⟨by rw [h3, g3], by rw [h2, g2]⟩
    · omega
  · rcases h' with ⟨g1, _⟩ | ⟨g1, at', k', g2, g3⟩
    · omega
    · obtain ⟨_, rfl, rfl⟩ := h2.same g2
      exact ⟨by rw [h3, g3], rfl⟩
theorem DecE.small {b : List UInt8} {l : List LogD} {e : Int} (h : DecE b l e) : logOk l = true := by
  rcases h with ⟨_, _, h3⟩ | ⟨_, at_, k, h2, h3⟩
  · rw [h3]; rfl
  · rw [h3]
    split
    · exact h2.1.ok
    · rfl
theorem DecE.enc {l : List LogD} (hl : logOk l = true) (hb : (encE l).length ≤ 1048576) : DecE (encE l) l 0 := Or.inr ⟨hb, _, _, ends_enc hl, by simp⟩
theorem DecE.code {b : List UInt8} {l : List LogD} {e : Int} (h : DecE b l e) : 0 ≤ e ∧ e ≤ 18 := by
  rcases h with ⟨_, rfl, _⟩ | ⟨_, at_, k, h2, _⟩
  · omega
  · rcases h2.2 with ⟨_, rfl⟩ | ⟨_, hs⟩
    · omega
    · unfold stepE at hs
      split at hs
      · injection hs with h; omega
      · split at hs
        · injection hs with h; omega
        · split at hs
          · split at hs
            · cases hs
            · injection hs with h; omega
          · injection hs with h; omega
/-- what Append gives -/
def AppE (b : List UInt8) (x : LogD) (out : List UInt8) (e : Int) : Prop :=
  ∃ l d, DecE b l d ∧ ((d ≠ 0 ∧ out = [] ∧ e = d) ∨ (d = 0 ∧ logOk (l ++ [x]) = false ∧ out = [] ∧ e = 1) ∨ (d = 0 ∧ logOk (l ++ [x]) = true ∧ out = b ++ recE b x ∧ e = 0))
theorem AppE.same {b : List UInt8} {x : LogD} {o o' : List UInt8} {e e' : Int} (h : AppE b x o e) (h' : AppE b x o' e') : o = o' ∧ e = e' := by
  obtain ⟨l, d, h1, h2⟩ := h
  obtain ⟨l', d', g1, g2⟩ := h'
  obtain ⟨rfl, rfl⟩ := h1.same g1
  rcases h2 with ⟨a, b, c⟩ | ⟨a, b, c, f⟩ | ⟨a, b, c, f⟩ <;> rcases g2 with ⟨a', b', c'⟩ | ⟨a', b', c', f'⟩ | ⟨a', b', c', f'⟩
  · exact ⟨by rw [b, b'], by rw [c, c']⟩
  · exact absurd a' a
  · exact absurd a' a
  · exact absurd a a'
  · exact ⟨by rw [c, c'], by rw [f, f']⟩
  · rw [b] at b'; cases b'
  · exact absurd a a'
  · rw [b] at b'; cases b'
  · exact ⟨by rw [c, c'], by rw [f, f']⟩
theorem AppE.enc {l : List LogD} {x : LogD} (hl : logOk l = true) (hb : (encE l).length ≤ 1048576) : AppE (encE l) x (if logOk (l ++ [x]) then encE (l ++ [x]) else []) (if logOk (l ++ [x]) then 0 else 1) := by
  refine ⟨l, 0, DecE.enc hl hb, ?_⟩
  cases h : logOk (l ++ [x])
  · exact Or.inr (Or.inl ⟨rfl, rfl, by simp, by simp⟩)
  · exact Or.inr (Or.inr ⟨rfl, rfl, by rw [if_pos rfl, encE_snoc], by simp⟩)

/-! ### lines -/
theorem find_at {l : List UInt8} {k : Nat} (hx : l[k]? = some 10) (hn : ∀ j d, j < k → l[j]? = some d → d ≠ 10) : l.findIdx? (fun c => c == 10) = some k := by
  obtain ⟨hk, e⟩ := List.getElem?_eq_some_iff.1 hx
  rw [List.findIdx?_eq_some_iff_getElem]
  refine ⟨hk, by rw [e]; rfl, fun j hj => ?_⟩
  have := hn j l[j] hj (List.getElem?_eq_getElem (by omega))
  simpa using this
theorem find_none' {l : List UInt8} (hn : ∀ j d, j < l.length → l[j]? = some d → d ≠ 10) : l.findIdx? (fun c => c == 10) = none := find_no fun c hc e => by
  obtain ⟨j, hj, h⟩ := List.getElem_of_mem hc
  exact hn j c hj (by rw [List.getElem?_eq_getElem hj, h]) e
/-- what the reading of a line gives -/
def ReadIs (line : List UInt8) (x : LogD) (s : Int) (ok : Bool) : Prop := match entryE line with | some p => ok = true ∧ x = p.1 ∧ s = p.2 | none => ok = false
theorem ReadIs.no {line : List UInt8} {x : LogD} {s : Int} (h : entryE line = none) : ReadIs line x s false := by rw [ReadIs, h]
theorem ReadIs.yes {line : List UInt8} {x : LogD} {s : Int} (h : entryE line = some (x, s)) : ReadIs line x s true := by rw [ReadIs, h]; exact ⟨rfl, rfl, rfl⟩
theorem ReadIs.of_true {line : List UInt8} {x : LogD} {s : Int} (h : ReadIs line x s true) : entryE line = some (x, s) := by
  unfold ReadIs at h
  split at h
  · rename_i p hp
    obtain ⟨_, rfl, rfl⟩ := h
    exact hp
  · cases h
theorem ReadIs.of_false {line : List UInt8} {x : LogD} {s : Int} (h : ReadIs line x s false) : entryE line = none := by
  unfold ReadIs at h
  split at h
  · exact absurd h.1 (by simp)
  · assumption
/-- a line of other than five words -/
theorem entry_words {line : List UInt8} {LB : List ByteArray} (h : LB.map bs = partsOf 32 line) (hn : LB.length ≠ 5) : entryE line = none := by
  have h1 := congrArg List.length h
  rw [List.length_map] at h1
  unfold entryE
  split
  · rename_i a b c d e hp
    rw [hp] at h1
    simp at h1
    exact absurd h1 hn
  · rfl
theorem entry_five {line : List UInt8} {a b c d e : ByteArray} (h : [a, b, c, d, e].map bs = partsOf 32 line) : entryE line = if isName b && intOk (bs a) && intOk (bs c) && intOk (bs d) && intOk (bs e) then some (⟨intV (bs a), b, intV (bs c), intV (bs d)⟩, intV (bs e)) else none := by
  unfold entryE
  rw [← h]
  simp only [List.map_cons, List.map_nil]
  have : (⟨(bs b).toArray⟩ : ByteArray) = b := bs_inj (bs_toArray _)
  rw [this]
  rfl
theorem list_five {α : Type} {l : List α} (h : l.length = 5) : ∃ a b c d e, l = [a, b, c, d, e] := by
  match l, h with
  | [a, b, c, d, e], _ => exact ⟨a, b, c, d, e, rfl⟩
theorem entry_size {line : List UInt8} {x : LogD} {s : Int} (h : entryE line = some (x, s)) : x.rope.size ≤ 20 := by
  have h1 := (entryE_shape h).2.1.name
  simp only [isName, isNameL, Bool.and_eq_true, decide_eq_true_eq] at h1
  rw [← bs_length]
  exact h1.1.1.2
/-! ### the last entry of a name that retires or replaces -/
def hitR (nm : ByteArray) (x : LogD) : Bool := sameName x.rope nm && (decide (x.kind = 2) || decide (x.kind = 4))
theorem refGone_skip (nm : ByteArray) : ∀ (l : List LogD) (b : Bool), (∀ x ∈ l, hitR nm x = false) → l.foldl (refGoneStep nm) b = b
  | [], b, _ => rfl
  | x :: l, b, h => by
    have hx := h x (by simp)
    rw [List.foldl_cons, refGoneStep]
    unfold hitR at hx
    rw [hx]
    exact refGone_skip nm l b fun y hy => h y (by simp [hy])
theorem refGone_last {l : List LogD} {nm : ByteArray} {i : Nat} {x : LogD} (hx : l[i]? = some x) (hm : hitR nm x = true) (hn : ∀ j y, i < j → l[j]? = some y → hitR nm y = false) : refGone l nm = decide (x.kind = 4) := by
  obtain ⟨hi, e⟩ := List.getElem?_eq_some_iff.1 hx
  have hs : l = l.take i ++ x :: l.drop (i + 1) := by rw [← e, ← List.drop_eq_getElem_cons hi, List.take_append_drop]
  rw [refGone, hs, List.foldl_append, List.foldl_cons, refGone_skip nm (l.drop (i + 1)) _ (fun y hy => by
    obtain ⟨j, hj, e2⟩ := List.getElem_of_mem hy
    rw [List.length_drop] at hj
    exact hn (i + 1 + j) y (by omega) (by rw [← e2, List.getElem_drop, List.getElem?_eq_getElem])), refGoneStep]
  unfold hitR at hm
  rw [hm]
  rfl
theorem refGone_none {l : List LogD} {nm : ByteArray} (hn : ∀ (j : Nat) (y : LogD), l[j]? = some y → hitR nm y = false) : refGone l nm = false :=
  refGone_skip nm l false fun y hy => by
    obtain ⟨j, hj, e2⟩ := List.getElem_of_mem hy
    exact hn j y (by rw [List.getElem?_eq_getElem hj, e2])
end Go.Proofs.YtemlaliackblkaaDoor
