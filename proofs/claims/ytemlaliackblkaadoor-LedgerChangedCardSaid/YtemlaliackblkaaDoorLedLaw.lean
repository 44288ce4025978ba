/- The plain laws of ledgers: what was encoded is read back; a beginning is read up to its last whole record; a changed byte ends the good records. -/
import Derived.Test.YtemlaliackblkaaDoorLedSpec
namespace Go.Proofs.YtemlaliackblkaaDoor
open Go Go.RowKit

theorem small_of_entry {l : List LogD} {i : Nat} {x : LogD} (h : entryAt l i x = true) : Small x := by
  simp only [entryAt, Bool.and_eq_true, dayOk, kindOk, decide_eq_true_eq] at h
  obtain ⟨⟨⟨⟨⟨⟨h1, h2⟩, _⟩, h3⟩, h4, h5⟩, h6⟩, _⟩ := h
  refine ⟨by omega, by omega, ?_, h3⟩
  unfold runsOk at h6
  split at h6
  · simp only [Bool.and_eq_true, decide_eq_true_eq] at h6; omega
  · simp only [decide_eq_true_eq] at h6; omega
theorem small_of_log {l : List LogD} (h : logOk l = true) : ∀ x ∈ l, Small x := fun x hx => by
  simp only [logOk, Bool.and_eq_true] at h
  obtain ⟨j, hj, e⟩ := List.getElem_of_mem hx
  exact small_of_entry (allIdx_iff.1 h.2 j x (by rw [List.getElem?_eq_getElem hj, e]))
theorem logOk_take {l : List LogD} (h : logOk l = true) : ∀ d n : Nat, n + d = l.length → logOk (l.take n) = true
  | 0, n, hn => by rw [List.take_of_length_le (by omega)]; exact h
  | d + 1, n, hn => by
    have h1 := logOk_take h d (n + 1) (by omega)
    have hx : l[n]? = some l[n] := List.getElem?_eq_getElem (by omega)
    rw [List.take_add_one, hx] at h1
    have h2 := logOk_snoc (l.take n) l[n]
    simp only [Option.toList_some] at h1
    rw [h1] at h2
    have h3 := h2.symm
    simp only [Bool.and_eq_true] at h3
    exact h3.1.1
theorem logOk_take' {l : List LogD} (h : logOk l = true) (n : Nat) : logOk (l.take n) = true := by
  rcases Nat.le_total n l.length with hn | hn
  · exact logOk_take h (l.length - n) n (by omega)
  · rw [List.take_of_length_le hn]; exact h

/-! ### records -/
theorem sum_small (l : List UInt8) : (0 : Int) ≤ (sumE l : Int) ∧ (sumE l : Int) < 1000000000000000 := by
  have := sumE_lt l
  omega
theorem head_plain {x : LogD} (hx : Small x) : ∀ c ∈ headE x, c ≠ 10 := by
  intro c hc
  have d10 : isDig 10 = false := by decide
  simp only [headE, List.mem_append, List.mem_cons, List.not_mem_nil, or_false] at hc
  rcases hc with h | rfl | h | rfl | h | rfl | h | rfl
  · exact itoa_plain hx.day.1 10 d10 c h
  · decide
  · exact name_plain hx.name 10 (by decide) c h
  · decide
  · exact itoa_plain hx.kind.1 10 d10 c h
  · decide
  · exact itoa_plain hx.runs.1 10 d10 c h
  · decide
theorem count_plain {k : UInt8} {l : List UInt8} (h : ∀ c ∈ l, c ≠ k) : l.count k = 0 := List.count_eq_zero.2 fun hc => h k hc rfl
theorem head_count {x : LogD} (hx : Small x) : (headE x).count 32 = 4 := by
  have d32 : isDig 32 = false := by decide
  simp only [headE, List.count_append, List.count_cons, List.count_nil]
  rw [count_plain (itoa_plain hx.day.1 32 d32), count_plain (name_plain hx.name 32 (by decide)), count_plain (itoa_plain hx.kind.1 32 d32), count_plain (itoa_plain hx.runs.1 32 d32)]
  rfl
theorem head_last (x : LogD) : ∃ t, headE x = t ++ [32] := ⟨Lib.itoa x.day ++ 32 :: (bs x.rope ++ 32 :: (Lib.itoa x.kind ++ 32 :: Lib.itoa x.runs)), by simp [headE]⟩
def sumT (pre : List UInt8) (x : LogD) : List UInt8 := Lib.itoa (sumE (pre ++ headE x))
theorem sumT_plain (pre : List UInt8) (x : LogD) (k : UInt8) (hk : isDig k = false) : ∀ c ∈ sumT pre x, c ≠ k := itoa_plain (sum_small _).1 k hk
theorem recE_eq (pre : List UInt8) (x : LogD) : recE pre x = (headE x ++ sumT pre x) ++ [10] := by simp [recE, sumT]
theorem line_plain (pre : List UInt8) {x : LogD} (hx : Small x) : ∀ c ∈ headE x ++ sumT pre x, c ≠ 10 := fun c hc => by
  rcases List.mem_append.1 hc with h | h
  · exact head_plain hx c h
  · exact sumT_plain pre x 10 (by decide) c h
theorem find_line : ∀ (line rest : List UInt8), (∀ c ∈ line, c ≠ 10) → (line ++ 10 :: rest).findIdx? (fun c => c == 10) = some line.length
  | [], rest, _ => by simp [List.findIdx?_cons]
  | c :: line, rest, h => by
    have hc : c ≠ 10 := h c (by simp)
    rw [List.cons_append, List.findIdx?_cons, find_line line rest (fun d hd => h d (by simp [hd]))]
    simp [hc]
theorem find_no {line : List UInt8} (h : ∀ c ∈ line, c ≠ 10) : line.findIdx? (fun c => c == 10) = none := by
  rw [List.findIdx?_eq_none_iff]
  intro c hc
  simpa using h c hc
theorem stepE_of {c : List UInt8} {at_ : Nat} {l : List LogD} {x : LogD} {rest : List UInt8} (hx : Small x) (hl : logOk (l ++ [x]) = true) (h : c.drop at_ = recE (c.take at_) x ++ rest) : stepE c at_ l = .next x (recE (c.take at_) x).length := by
  have e : c.drop at_ = (headE x ++ sumT (c.take at_) x) ++ 10 :: rest := by rw [h, recE_eq]; simp
  unfold stepE
  rw [e, find_line _ _ (line_plain _ hx)]
  simp only
  rw [List.take_append_of_le_length (Nat.le_refl _), List.take_length, sumT, entryE_of hx (sum_small _).1 (sum_small _).2]
  simp only [if_true, hl]
  rw [recE_eq]
  simp only [sumT, List.length_append, List.length_singleton]
theorem rec_pos (pre : List UInt8) (x : LogD) : 0 < (recE pre x).length := by rw [recE_eq, List.length_append, List.length_singleton]; omega
theorem encE_take_next {l : List LogD} {n : Nat} (hn : n < l.length) : encE (l.take (n + 1)) = encE (l.take n) ++ recE (encE (l.take n)) l[n] := encE_next (List.getElem?_eq_getElem hn)
theorem reach_enc {c : List UInt8} {l : List LogD} (hl : logOk l = true) : ∀ (n : Nat), n ≤ l.length → (∃ rest, c = encE (l.take n) ++ rest) → Reach c (encE (l.take n)).length (l.take n)
  | 0, _, _ => by simpa [encE] using Reach.start
  | n + 1, hn, ⟨rest, hc⟩ => by
    have e := encE_take_next (l := l) (n := n) (by omega)
    rw [e, List.append_assoc] at hc
    have ih := reach_enc hl n (by omega) ⟨_, hc⟩
    have hx : l[n]? = some l[n] := List.getElem?_eq_getElem (by omega)
    have htk : l.take (n + 1) = l.take n ++ [l[n]] := by rw [List.take_add_one, hx]; rfl
    have ht : c.take (encE (l.take n)).length = encE (l.take n) := by rw [hc, List.take_left]
    have hd : c.drop (encE (l.take n)).length = recE (c.take (encE (l.take n)).length) l[n] ++ rest := by rw [ht]; conv => lhs; rw [hc, List.drop_left]
    have hp := rec_pos (encE (l.take n)) l[n]
    have hs := stepE_of (l := l.take n) (small_of_log hl _ (List.getElem_mem _)) (by rw [← htk]; exact logOk_take' hl _) hd
    rw [ht] at hs
    have := Reach.next ih (by rw [hc]; simp; omega) hs
    rw [e, htk, List.length_append]
    exact this
theorem ends_enc {l : List LogD} (hl : logOk l = true) : Ends (encE l) (encE l).length l 0 := by
  have h := reach_enc (c := encE l) hl l.length (Nat.le_refl _) ⟨[], by simp⟩
  rw [List.take_length] at h
  exact ⟨h, Or.inl ⟨rfl, rfl⟩⟩
theorem enc_count {l : List LogD} (hl : logOk l = true) : ∀ n, n ≤ l.length → (encE (l.take n)).count 10 = n
  | 0, _ => by simp [encE]
  | n + 1, hn => by
    rw [encE_take_next (by omega), List.count_append, enc_count hl n (by omega), recE_eq, List.count_append, count_plain (line_plain _ (small_of_log hl _ (List.getElem_mem _)))]
    simp
/-- the record in which a place lies -/
theorem enc_place (l : List LogD) (k : Nat) : ∀ m, m ≤ l.length → (∃ n, n < m ∧ (encE (l.take n)).length ≤ k ∧ k < (encE (l.take (n + 1))).length) ∨ (encE (l.take m)).length ≤ k
  | 0, _ => Or.inr (by simp [encE])
  | m + 1, hm => by
    rcases enc_place l k m (by omega) with ⟨n, h1, h2⟩ | h
    · exact Or.inl ⟨n, by omega, h2⟩
    · rcases Nat.lt_or_ge k (encE (l.take (m + 1))).length with h2 | h2
      · exact Or.inl ⟨m, by omega, h, h2⟩
      · exact Or.inr h2
theorem enc_split {l : List LogD} {n : Nat} (hn : n < l.length) : ∃ rest, encE l = encE (l.take n) ++ (recE (encE (l.take n)) l[n] ++ rest) := by
  have key : ∀ d n, n + d = l.length → ∃ rest, encE l = encE (l.take n) ++ rest := by
    intro d
    induction d with
    | zero => intro n h; exact ⟨[], by rw [List.take_of_length_le (by omega)]; simp⟩
    | succ d ih =>
      intro n h
      obtain ⟨rest, e⟩ := ih (n + 1) (by omega)
      rw [encE_take_next (by omega), List.append_assoc] at e
      exact ⟨_, e⟩
  obtain ⟨rest, e⟩ := key (l.length - (n + 1)) (n + 1) (by omega)
  rw [encE_take_next hn, List.append_assoc] at e
  exact ⟨rest, e⟩
theorem take_part {l : List LogD} (hl : logOk l = true) {k n : Nat} (hn : n < l.length) (h1 : (encE (l.take n)).length ≤ k) (h2 : k < (encE (l.take (n + 1))).length) : ∃ p, (encE l).take k = encE (l.take n) ++ p ∧ (∀ c ∈ p, c ≠ 10) ∧ (encE (l.take n)).length + p.length = k := by
  obtain ⟨rest, e⟩ := enc_split hn
  rw [encE_take_next hn, List.length_append, recE_eq, List.length_append, List.length_singleton] at h2
  refine ⟨(headE l[n] ++ sumT (encE (l.take n)) l[n]).take (k - (encE (l.take n)).length), ?_, fun c hc => line_plain _ (small_of_log hl _ (List.getElem_mem _)) c (List.mem_of_mem_take hc), ?_⟩
  · rw [e, List.take_append, List.take_of_length_le h1, recE_eq, List.append_assoc _ [10], List.take_append_of_le_length (by omega)]
  · rw [List.length_take]; omega
theorem cut_ends {l : List LogD} (hl : logOk l = true) {k : Nat} (hk : k ≤ (encE l).length) :
    ∃ n e, n ≤ l.length ∧ ((encE l).take k).count 10 = n ∧ (encE (l.take n)).length ≤ k ∧ (encE l).take (encE (l.take n)).length = encE (l.take n) ∧ Ends ((encE l).take k) (encE (l.take n)).length (l.take n) e ∧ (e = 0 ↔ (encE (l.take n)).length = k) := by
  rcases enc_place l k l.length (Nat.le_refl _) with ⟨n, hn, h1, h2⟩ | h
  · obtain ⟨p, e, hp, hlen⟩ := take_part hl hn h1 h2
    have hr := reach_enc (c := (encE l).take k) hl n (by omega) ⟨p, e⟩
    have hc := enc_count hl n (by omega)
    have hpre : (encE l).take (encE (l.take n)).length = encE (l.take n) := by
      obtain ⟨rest, e2⟩ := enc_split hn
      rw [e2, List.take_left]
    by_cases hp0 : p = []
    · subst hp0
      refine ⟨n, 0, by omega, by rw [e]; simpa using hc, h1, hpre, ⟨hr, Or.inl ⟨by rw [e]; simp, rfl⟩⟩, by simp at hlen; simp [hlen]⟩
    · have hpl : 0 < p.length := List.length_pos_iff.2 hp0
      have hs : stepE ((encE l).take k) (encE (l.take n)).length (l.take n) = .stop 7 := by
        unfold stepE
        rw [e, List.drop_left, find_no hp]
      refine ⟨n, 7, by omega, by rw [e, List.count_append, hc, count_plain hp]; rfl, h1, hpre, ⟨hr, Or.inr ⟨by rw [e, List.length_append]; omega, hs⟩⟩, ?_⟩
      constructor
      · intro h; omega
      · intro h; omega
  · rw [List.take_length] at h
    have hk' : k = (encE l).length := by omega
    subst hk'
    refine ⟨l.length, 0, Nat.le_refl _, ?_, ?_, ?_, ?_, ?_⟩
    · have := enc_count hl l.length (Nat.le_refl _)
      rw [List.take_length] at this
      rw [List.take_length]; exact this
    · rw [List.take_length]; exact Nat.le_refl _
    · rw [List.take_length, List.take_length]
    · rw [List.take_length, List.take_length]; exact ends_enc hl
    · rw [List.take_length]; simp

/-! ### a changed byte -/
theorem foldSum_inj : ∀ (t : List UInt8) (a b : Nat), a < 4294967296 → b < 4294967296 → t.foldl sumStep a = t.foldl sumStep b → a = b
  | [], a, b, _, _, h => h
  | c :: t, a, b, ha, hb, h => by
    have h1 := foldSum_inj t _ _ (Nat.mod_lt _ (by decide)) (Nat.mod_lt _ (by decide)) h
    unfold sumStep at h1
    omega
theorem sum_changed (pre a t : List UInt8) {p q : UInt8} (h : p ≠ q) : sumE (pre ++ (a ++ p :: t)) ≠ sumE (pre ++ (a ++ q :: t)) := by
  intro e
  have hk : ∀ r : UInt8, sumE (pre ++ (a ++ r :: t)) = t.foldl sumStep (sumStep (sumE (pre ++ a)) r) := fun r => by
    rw [← List.append_assoc]; simp [sumE, List.foldl_append]
  rw [hk, hk] at e
  have h1 := foldSum_inj t _ _ (Nat.mod_lt _ (by decide)) (Nat.mod_lt _ (by decide)) e
  have hp := p.toNat_lt
  have hq := q.toNat_lt
  unfold sumStep at h1
  exact h (UInt8.toNat_inj.1 (by omega))
theorem head_prefix {x x' : LogD} (hx : Small x) (hx' : Small x') {t : List UInt8} (h : headE x' = headE x ++ t) : t = [] := by
  have h1 := head_count hx
  have h2 := head_count hx'
  rw [h, List.count_append, h1] at h2
  obtain ⟨s, e⟩ := head_last x'
  rcases List.eq_nil_or_concat t with rfl | ⟨t', c, rfl⟩
  · rfl
  · rw [List.concat_eq_append] at h h2 ⊢
    rw [h, ← List.append_assoc] at e
    have := List.append_inj_right' e rfl
    simp at this
    subst this
    simp at h2
theorem heads_of_prefix {x x' : LogD} (hx : Small x) (hx' : Small x') {u r r' : List UInt8} (h : u = headE x ++ r) (h' : u = headE x' ++ r') : headE x = headE x' := by
  rw [h] at h'
  rcases List.append_eq_append_iff.1 h' with ⟨t, e1, _⟩ | ⟨t, e1, _⟩
  · rw [head_prefix hx hx' e1, List.append_nil] at e1; exact e1.symm
  · rw [head_prefix hx' hx e1, List.append_nil] at e1; exact e1
/-- digits up to an end of line are no end of a head -/
theorem digits_head {d t : List UInt8} {ru rv : List UInt8} (hd : ∀ c ∈ d, c ≠ 32) (ht : ∀ c ∈ t ++ [32], c ≠ 10) (h : d ++ 10 :: ru = (t ++ [32]) ++ rv) : False := by
  rcases Nat.lt_or_ge d.length (t ++ [32]).length with hl | hl
  · have h1 := congrArg (fun l => l[d.length]?) h
    simp only [List.getElem?_append_right (Nat.le_refl _), Nat.sub_self, List.getElem?_cons_zero, List.getElem?_append_left hl] at h1
    exact ht 10 (List.mem_of_getElem? h1.symm) rfl
  · have h1 := congrArg (fun l => l[t.length]?) h
    have hlt : t.length < d.length := by simp at hl; omega
    simp only [List.getElem?_append_left hlt] at h1
    rw [List.append_assoc, List.getElem?_append_right (Nat.le_refl _), Nat.sub_self] at h1
    exact hd 32 (List.mem_of_getElem? (by simpa using h1)) rfl
theorem digits_same {d d' : List UInt8} {ru rv : List UInt8} (hd : ∀ c ∈ d, c ≠ 10) (hd' : ∀ c ∈ d', c ≠ 10) (h : d ++ 10 :: ru = d' ++ 10 :: rv) : d = d' := by
  rcases List.append_eq_append_iff.1 h with ⟨t, e1, e2⟩ | ⟨t, e1, e2⟩
  · cases t with
    | nil => simpa using e1.symm
    | cons c t =>
      injection e2 with e2 _
      exact absurd e2.symm (hd' c (by rw [e1]; simp))
  · cases t with
    | nil => simpa using e1
    | cons c t =>
      injection e2 with e2 _
      exact absurd e2.symm (hd c (by rw [e1]; simp))
theorem changed_rec {pre u v : List UInt8} {x x' : LogD} {j : Nat} {ru rv : List UInt8} (hx : Small x) (hx' : Small x') (hu : u = recE pre x ++ ru) (hv : v = recE pre x' ++ rv) (hj : j < (recE pre x).length) (hne : u[j]? ≠ v[j]?) (hsame : ∀ i, i ≠ j → u[i]? = v[i]?) : False := by
  have htake : ∀ i, i ≤ j → u.take i = v.take i := fun i hi => by
    apply List.ext_getElem?
    intro m
    rcases Nat.lt_or_ge m i with h | h
    · rw [List.getElem?_take_of_lt h, List.getElem?_take_of_lt h]; exact hsame m (by omega)
    · rw [List.getElem?_eq_none (by rw [List.length_take]; omega), List.getElem?_eq_none (by rw [List.length_take]; omega)]
  have hdrop : ∀ i, j < i → u.drop i = v.drop i := fun i hi => by
    apply List.ext_getElem?
    intro m
    rw [List.getElem?_drop, List.getElem?_drop]; exact hsame _ (by omega)
  have hu' : u = headE x ++ (sumT pre x ++ 10 :: ru) := by rw [hu, recE_eq]; simp
  have hv' : v = headE x' ++ (sumT pre x' ++ 10 :: rv) := by rw [hv, recE_eq]; simp
  have hheads : headE x = headE x' → False := fun e => by
    have er : recE pre x = recE pre x' := by unfold recE; rw [e]
    apply hne
    rw [hu, hv, ← er, List.getElem?_append_left hj, List.getElem?_append_left hj]
  rcases Nat.lt_or_ge j (headE x).length with h1 | h1
  · rcases Nat.lt_or_ge j (headE x').length with h2 | h2
    · rcases Nat.lt_trichotomy (headE x).length (headE x').length with h3 | h3 | h3
      · have hd := hdrop (headE x).length h1
        rw [hu', hv', List.drop_left, List.drop_append_of_le_length (by omega)] at hd
        obtain ⟨t, e⟩ := head_last x'
        have e2 : (headE x').drop (headE x).length = t.drop (headE x).length ++ [32] := by
          rw [e] at h3 ⊢
          rw [List.drop_append_of_le_length (by simp at h3; omega)]
        rw [e2] at hd
        refine digits_head (sumT_plain pre x 32 (by decide)) (fun c hc => ?_) hd
        rw [← e2] at hc
        exact head_plain hx' c (List.mem_of_mem_drop hc)
      · have hd := hdrop (headE x).length h1
        rw [hu', hv', List.drop_left, h3, List.drop_left] at hd
        have h4 := digits_same (sumT_plain pre x 10 (by decide)) (sumT_plain pre x' 10 (by decide)) hd
        have h5 : sumE (pre ++ headE x) = sumE (pre ++ headE x') := by
          unfold sumT at h4
          rw [itoa_nat, itoa_nat] at h4
          have := congrArg (valN 0) h4
          rwa [valN_dec, valN_dec] at this
        have a1 : headE x = (headE x).take j ++ (headE x)[j] :: (headE x).drop (j + 1) := by
          rw [← List.drop_eq_getElem_cons h1, List.take_append_drop]
        have a2 : headE x' = (headE x').take j ++ (headE x')[j] :: (headE x').drop (j + 1) := by
          rw [← List.drop_eq_getElem_cons h2, List.take_append_drop]
        have b1 : (headE x).take j = (headE x').take j := by
          have := htake j (Nat.le_refl _)
          rw [hu', hv', List.take_append_of_le_length (by omega), List.take_append_of_le_length (by omega)] at this
          exact this
        have b2 : (headE x).drop (j + 1) = (headE x').drop (j + 1) := by
          have := hdrop (j + 1) (by omega)
          rw [hu', hv', List.drop_append_of_le_length (by omega), List.drop_append_of_le_length (by omega)] at this
          exact (List.append_inj this (by simp; omega)).1
        refine sum_changed pre ((headE x').take j) ((headE x').drop (j + 1)) (p := (headE x)[j]) (q := (headE x')[j]) (fun e => ?_) ?_
        · exact hheads (by rw [a1, a2, b1, b2, e])
        · rw [← a2, ← b1, ← b2, ← a1]; exact h5
      · have hd := hdrop (headE x').length h2
        rw [hu', hv', List.drop_left, List.drop_append_of_le_length (by omega)] at hd
        obtain ⟨t, e⟩ := head_last x
        have e2 : (headE x).drop (headE x').length = t.drop (headE x').length ++ [32] := by
          rw [e] at h3 ⊢
          rw [List.drop_append_of_le_length (by simp at h3; omega)]
        rw [e2] at hd
        refine digits_head (sumT_plain pre x' 32 (by decide)) (fun c hc => ?_) hd.symm
        rw [← e2] at hc
        exact head_plain hx c (List.mem_of_mem_drop hc)
    · have h3 := htake (headE x').length h2
      rw [hv', List.take_left] at h3
      have h4 : u = headE x' ++ u.drop (headE x').length := by
        have := List.take_append_drop (headE x').length u
        rw [h3] at this; exact this.symm
      exact hheads (heads_of_prefix hx hx' hu' h4)
  · have h3 := htake (headE x).length h1
    rw [hu', List.take_left] at h3
    have h4 : v = headE x ++ v.drop (headE x).length := by
      have := List.take_append_drop (headE x).length v
      rw [← h3] at this; exact this.symm
    exact hheads (heads_of_prefix hx hx' h4 hv')
theorem stepE_stop {b : List UInt8} {at_ : Nat} {l : List LogD} {e : Int} (h : stepE b at_ l = .stop e) : e ≠ 0 := by
  unfold stepE at h
  split at h
  · injection h with h; omega
  · split at h
    · injection h with h; omega
    · split at h
      · split at h
        · cases h
        · injection h with h; omega
      · injection h with h; omega
theorem Ends.ok_iff {b : List UInt8} {at_ : Nat} {l : List LogD} {e : Int} (h : Ends b at_ l e) : e = 0 ↔ at_ = b.length := by
  rcases h.2 with ⟨h1, h2⟩ | ⟨h1, h2⟩
  · simp [h1, h2]
  · have := stepE_stop h2
    constructor
    · intro e; exact absurd e this
    · intro e; omega
theorem changed_ends {l : List LogD} (hl : logOk l = true) {c : List UInt8} {k : Nat} (hk : k < (encE l).length) (hlen : c.length = (encE l).length) (hne : (encE l)[k]? ≠ c[k]?) (hsame : ∀ j, j ≠ k → (encE l)[j]? = c[j]?) :
    ∃ n at_ e, ((encE l).take k).count 10 = n ∧ n ≤ l.length ∧ at_ ≤ k ∧ e ≠ 0 ∧ Ends c at_ (l.take n) e ∧ c.take at_ = (encE l).take at_ := by
  rcases enc_place l k l.length (Nat.le_refl _) with ⟨n, hn, h1, h2⟩ | h
  · obtain ⟨p, e, hp, hpl⟩ := take_part hl hn h1 h2
    have hcount : ((encE l).take k).count 10 = n := by rw [e, List.count_append, enc_count hl n (by omega), count_plain hp]; rfl
    obtain ⟨rest, es⟩ := enc_split hn
    have htk : c.take (encE (l.take n)).length = (encE l).take (encE (l.take n)).length := by
      apply List.ext_getElem?
      intro m
      rcases Nat.lt_or_ge m (encE (l.take n)).length with h | h
      · rw [List.getElem?_take_of_lt h, List.getElem?_take_of_lt h]; exact (hsame m (by omega)).symm
      · rw [List.getElem?_eq_none (by rw [List.length_take]; omega), List.getElem?_eq_none (by rw [List.length_take]; omega)]
    have hbt : (encE l).take (encE (l.take n)).length = encE (l.take n) := by rw [es, List.take_left]
    have hr := reach_enc (c := c) hl n (by omega) ⟨c.drop (encE (l.take n)).length, by
      have h5 := List.take_append_drop (encE (l.take n)).length c
      rw [htk, hbt] at h5; exact h5.symm⟩
    cases hs : stepE c (encE (l.take n)).length (l.take n) with
    | stop e' => exact ⟨n, _, e', hcount, by omega, h1, stepE_stop hs, ⟨hr, Or.inr ⟨by omega, hs⟩⟩, htk⟩
    | next x' n' =>
      exfalso
      obtain ⟨r1, r2, r3, r4⟩ := stepE_rec hs
      rw [htk, hbt] at r1
      have hv : c.drop (encE (l.take n)).length = recE (encE (l.take n)) x' ++ (c.drop (encE (l.take n)).length).drop n' := by rw [← r1, List.take_append_drop]
      have hu : (encE l).drop (encE (l.take n)).length = recE (encE (l.take n)) l[n] ++ rest := by conv => lhs; rw [es, List.drop_left]
      rw [encE_take_next hn, List.length_append] at h2
      refine changed_rec (j := k - (encE (l.take n)).length) (small_of_log hl _ (List.getElem_mem _)) r3 hu hv (by omega) ?_ fun i hi => ?_
      · rw [List.getElem?_drop, List.getElem?_drop, show (encE (l.take n)).length + (k - (encE (l.take n)).length) = k by omega]; exact hne
      · rw [List.getElem?_drop, List.getElem?_drop]; exact hsame _ (by omega)
  · rw [List.take_length] at h; omega
end Go.Proofs.YtemlaliackblkaaDoor
