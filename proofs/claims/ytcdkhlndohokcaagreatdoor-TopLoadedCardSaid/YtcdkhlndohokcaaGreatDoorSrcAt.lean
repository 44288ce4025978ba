/- Whether a house is valid, and a sheet can be written, hangs on the plain house and the plain sheet alone: in plain Lean. The numbers and names that are read out of short tokens are short: in plain Lean; and what that says of a house and a sheet in memory. What the reader holds, as a house and a sheet that lie in memory. -/
import Derived.Test.YtcdkhlndohokcaaGreatDoorHouseValid
import Derived.Test.YtcdkhlndohokcaaGreatDoorSrcWrit
import Derived.Test.YtcdkhlndohokcaaGreatDoorSrcSheet
import Derived.Test.YtcdkhlndohokcaaGreatDoorSrcPut9
namespace Go.Proofs.YtcdkhlndohokcaaGreatDoor
open Go Go.RowKit

theorem idxFrom_map {α β : Type} (p : β → Bool) (f : α → β) : ∀ (l : List α) (i : Nat), idxFrom p i (l.map f) = idxFrom (fun x => p (f x)) i l
  | [], _ => rfl
  | a :: l, i => by rw [List.map_cons, idxFrom, idxFrom, idxFrom_map p f l (i + 1)]
theorem idx_map {α β : Type} (p : β → Bool) (f : α → β) (l : List α) : idx p (l.map f) = idx (fun x => p (f x)) l := idxFrom_map p f l 0
theorem allIdxFrom_map {α β : Type} (p : Nat → β → Bool) (f : α → β) : ∀ (l : List α) (i : Nat), allIdxFrom p i (l.map f) = allIdxFrom (fun i x => p i (f x)) i l
  | [], _ => rfl
  | a :: l, i => by rw [List.map_cons, allIdxFrom, allIdxFrom, allIdxFrom_map p f l (i + 1)]
theorem allIdx_map {α β : Type} (p : Nat → β → Bool) (f : α → β) (l : List α) : allIdx p (l.map f) = allIdx (fun i x => p i (f x)) l := allIdxFrom_map p f l 0
def SetP.d (s : SetP) : SetD := ⟨s.name, s.depth, s.low, s.high, s.length, ⟨none, 0, s.lines⟩, s.pipe, s.arbor, s.purchase, s.most, s.brake, ⟨none, 0, s.items⟩, ⟨none, 0, s.bricks⟩⟩
def HouseP.d (h : HouseP) : HouseD := ⟨h.name, h.height, ⟨none, 0, h.sets.map SetP.d⟩, ⟨none, 0, h.roofs⟩⟩
def houseOkP (h : HouseP) : Bool := houseOk h.d
theorem houseOk_plain (h : HouseD) : houseOk h = houseOkP h.pl := by
  have e : (h.pl).d.sets.l = h.sets.l.map fun s => (SetD.pl s).d := by
    show (h.sets.l.map SetD.pl).map SetP.d = _
    rw [List.map_map]; rfl
  have hf : ∀ nm, findSet (h.pl).d.sets.l nm = findSet h.sets.l nm := fun nm => by
    unfold findSet
    rw [e, idx_map]; rfl
  have ha : allIdx (setAt (h.pl).d.sets.l (h.pl).d.height) (h.pl).d.sets.l = allIdx (setAt h.sets.l h.height) h.sets.l := by
    have hs : (fun (i : Nat) (s : SetD) => setAt (h.pl).d.sets.l (h.pl).d.height i (SetD.pl s).d) = setAt h.sets.l h.height := by
      funext i s
      show (setOk (SetD.pl s).d && decide ((SetD.pl s).d.high ≤ h.height) && decide (findSet (h.pl).d.sets.l (SetD.pl s).d.name = (i : Int))) = _
      rw [hf]; rfl
    rw [← hs]
    conv => lhs; arg 2; rw [e]
    rw [allIdx_map]
  have hh : houseHead (h.pl).d = houseHead h := by
    show (_ && _ && _ && decide ((h.pl).d.sets.l.length ≤ 60) && _) = _
    rw [e, List.length_map]; rfl
  show houseOk h = houseOk (h.pl).d
  rw [houseOk, houseOk, ha, hh]
def sheetOkP (c : SheetP) : Bool := decide (c.cues.length ≤ 60) && decide (c.apart.length ≤ 1000) && c.cues.all cueB && decide ((c.cues.map fun q => q.moves.length).sum ≤ 100) && c.apart.all pairB
theorem sheetB_plain (s : SheetD) : sheetB s = sheetOkP s.pl := by
  show (_ && _ && _ && _ && _) = (decide ((s.cues.l.map CueD.pl).length ≤ 60) && decide (s.apart.l.length ≤ 1000) && (s.cues.l.map CueD.pl).all cueB && decide (((s.cues.l.map CueD.pl).map fun q => q.moves.length).sum ≤ 100) && s.apart.l.all pairB)
  rw [List.length_map, List.all_map, List.map_map]
  rfl
end Go.Proofs.YtcdkhlndohokcaaGreatDoor
namespace Go.Proofs.YtcdkhlndohokcaaGreatDoor
open Go Go.Lib

def NumV (n : Int) : Prop := -1000000000000000 < n ∧ n < 1000000000000000
def NameV (b : ByteArray) : Prop := b.size ≤ 1000000
def ItemV (x : ItemD) : Prop := NameV x.name ∧ NumV x.place ∧ NumV x.width ∧ NumV x.weight ∧ NumV x.hang ∧ NumV x.front ∧ NumV x.back
def BrickV (x : BrickD) : Prop := NameV x.name ∧ NumV x.weight ∧ NumV x.count
def RoofV (x : RoofD) : Prop := NameV x.name ∧ NumV x.fro ∧ NumV x.til ∧ NumV x.most
def MoveV (m : MoveD) : Prop := NameV m.set ∧ NumV m.to ∧ NumV m.speed ∧ NumV m.rise ∧ NumV m.fall
structure SetV (s : SetP) : Prop where
  name : NameV s.name
  nums : NumV s.depth ∧ NumV s.low ∧ NumV s.high ∧ NumV s.length ∧ NumV s.pipe ∧ NumV s.arbor ∧ NumV s.purchase ∧ NumV s.most ∧ NumV s.brake
  lines : ∀ n ∈ s.lines, NumV n
  items : ∀ x ∈ s.items, ItemV x
  bricks : ∀ x ∈ s.bricks, BrickV x
structure CueV (q : CueP) : Prop where
  name : NameV q.name
  after : NameV q.after
  nums : NumV q.link ∧ NumV q.delay ∧ NumV q.crew ∧ NumV q.power
  moves : ∀ m ∈ q.moves, MoveV m
structure HouseV (h : HouseP) : Prop where
  name : NameV h.name
  height : NumV h.height
  sets : ∀ s ∈ h.sets, SetV s
  roofs : ∀ r ∈ h.roofs, RoofV r
structure SheetV (c : SheetP) : Prop where
  cues : ∀ q ∈ c.cues, CueV q
  apart : ∀ p ∈ c.apart, NameV p.1 ∧ NameV p.2
def TokV (ts : List TokD) : Prop := ∀ t ∈ ts, t.text.size ≤ 1000000
/-- what is read is so, and the tokens behind are short -/
def Vd {α : Type} (P : α → Prop) (x : Rd α) : Prop := ∀ a r, x = .ok (a, r) → P a ∧ TokV r
section
variable {α β : Type} {P : α → Prop} {Q : β → Prop}
theorem Vd.bind {x : Rd α} {f : α → List TokD → Rd β} (h : Vd P x) (hf : ∀ a r, P a → TokV r → Vd Q (f a r)) : Vd Q (bindR x f) := by
  cases x with
  | error q => intro a r e; cases e
  | ok v =>
    obtain ⟨a, r⟩ := v
    exact hf a r (h a r rfl).1 (h a r rfl).2
theorem Vd.ok {a : α} {r : List TokD} (h : P a) (hr : TokV r) : Vd P (.ok (a, r)) := fun a' r' e => by
  simp only [Except.ok.injEq, Prod.mk.injEq] at e
  rw [← e.1, ← e.2]; exact ⟨h, hr⟩
theorem Vd.err {q : Int × Int} : Vd P (.error q) := fun a r e => by cases e
end
theorem TokV.tail {t : TokD} {r : List TokD} (h : TokV (t :: r)) : TokV r := fun x hx => h x (by simp [hx])
theorem take_vd (k : Int) (ok : List UInt8 → Bool) {ts : List TokD} (h : TokV ts) : Vd NameV (takeR k ok ts) := by
  cases ts with
  | nil => exact Vd.err
  | cons t r =>
    simp only [takeR]
    split
    · exact Vd.ok (h t (by simp)) h.tail
    · exact Vd.err
theorem name_vd {ts : List TokD} (h : TokV ts) : Vd NameV (nameR ts) := take_vd _ _ h
theorem num1_vd (neg : Bool) {ts : List TokD} (h : TokV ts) : Vd NumV (numR1 neg ts) := by
  cases ts with
  | nil => exact Vd.err
  | cons t r =>
    simp only [numR1]
    split
    · cases hn : numTok (bs t.text) with
      | none => exact Vd.err
      | some n =>
        obtain ⟨h1, h2⟩ := numTok_iff.1 hn
        have h3 := itoa15 (n := n) (by rw [h1]; exact h2)
        refine Vd.ok ?_ h.tail
        unfold NumV
        cases neg <;> simp <;> omega
    · exact Vd.err
theorem num_vd {ts : List TokD} (h : TokV ts) : Vd NumV (numR ts) := by
  cases ts with
  | nil => exact Vd.err
  | cons t r =>
    simp only [numR]
    split
    · exact num1_vd true h.tail
    · exact num1_vd false h
theorem nums_vd : ∀ (k : Nat) {ts : List TokD}, TokV ts → Vd (fun l => ∀ n ∈ l, NumV n) (numsR k ts)
  | 0, ts, h => Vd.ok (fun n hn => by cases hn) h
  | k + 1, ts, h => by
    rw [nums_bind]
    refine (num_vd h).bind fun a r ha hr => (nums_vd k hr).bind fun l r' hl hr' => Vd.ok (fun n hn => ?_) hr'
    rcases List.mem_cons.1 hn with rfl | hn
    · exact ha
    · exact hl n hn
theorem more_vd : ∀ (f : Nat) {ts : List TokD}, TokV ts → Vd (fun l => ∀ n ∈ l, NumV n) (moreR f ts)
  | 0, ts, h => Vd.err
  | f + 1, ts, h => by
    rw [moreR]
    have h1 := num_vd h
    cases hn : numR ts with
    | error p => exact Vd.err
    | ok v =>
      obtain ⟨n, r⟩ := v
      obtain ⟨hv, hr⟩ := h1 n r hn
      simp only
      split
      · exact Vd.ok (fun m hm => by simp at hm; rw [hm]; exact hv) hr
      · have h2 := more_vd f hr
        cases hm : moreR f r with
        | error p => exact Vd.err
        | ok v =>
          obtain ⟨l, r'⟩ := v
          obtain ⟨hl, hr'⟩ := h2 l r' hm
          exact Vd.ok (fun m hm => by
            rcases List.mem_cons.1 hm with rfl | hm
            · exact hv
            · exact hl m hm) hr'
theorem in_nil {α : Type} {P : α → Prop} : ∀ x ∈ ([] : List α), P x := fun x hx => by cases hx
theorem zeroV : NumV 0 := by unfold NumV; omega
theorem nth_v {l : List Int} (h : ∀ n ∈ l, NumV n) (i : Nat) : NumV (nth l i) := by
  unfold nth
  rw [List.getD_eq_getElem?_getD]
  cases hi : l[i]? with
  | none => exact zeroV
  | some v => exact h v (List.mem_of_getElem? hi)
theorem set_vd {ts : List TokD} (h : TokV ts) : Vd SetV (setR ts) := by
  unfold setR
  refine (name_vd h).bind fun nm r hn hr => (nums_vd 9 hr).bind fun a r ha hr => (more_vd _ hr).bind fun l r hl hr => Vd.ok ?_ hr
  exact ⟨hn, ⟨nth_v ha _, nth_v ha _, nth_v ha _, nth_v ha _, nth_v ha _, nth_v ha _, nth_v ha _, nth_v ha _, nth_v ha _⟩, hl, in_nil, in_nil⟩
theorem item_vd {ts : List TokD} (h : TokV ts) : Vd ItemV (itemR ts) := by
  unfold itemR
  exact (name_vd h).bind fun nm r hn hr => (nums_vd 6 hr).bind fun a r ha hr => Vd.ok ⟨hn, nth_v ha _, nth_v ha _, nth_v ha _, nth_v ha _, nth_v ha _, nth_v ha _⟩ hr
theorem brick_vd {ts : List TokD} (h : TokV ts) : Vd BrickV (brickR ts) := by
  unfold brickR
  exact (name_vd h).bind fun nm r hn hr => (nums_vd 2 hr).bind fun a r ha hr => Vd.ok ⟨hn, nth_v ha _, nth_v ha _⟩ hr
theorem roof_vd {ts : List TokD} (h : TokV ts) : Vd RoofV (roofR ts) := by
  unfold roofR
  exact (name_vd h).bind fun nm r hn hr => (nums_vd 3 hr).bind fun a r ha hr => Vd.ok ⟨hn, nth_v ha _, nth_v ha _, nth_v ha _⟩ hr
theorem move_vd {ts : List TokD} (h : TokV ts) : Vd MoveV (moveR ts) := by
  unfold moveR
  exact (name_vd h).bind fun nm r hn hr => (nums_vd 4 hr).bind fun a r ha hr => Vd.ok ⟨hn, nth_v ha _, nth_v ha _, nth_v ha _, nth_v ha _⟩ hr
theorem apart_vd {ts : List TokD} (h : TokV ts) : Vd (fun p : ByteArray × ByteArray => NameV p.1 ∧ NameV p.2) (apartR ts) := by
  unfold apartR
  exact (name_vd h).bind fun a r ha hr => (name_vd hr).bind fun b r hb hr => Vd.ok ⟨ha, hb⟩ hr
theorem link_vd {ts : List TokD} (h : TokV ts) : Vd (fun k : Int × ByteArray => NumV k.1 ∧ NameV k.2) (linkR ts) := by
  unfold linkR
  refine (take_vd 1 linkWord h).bind fun w r hw hr => ?_
  split
  · exact Vd.ok ⟨by unfold NumV; omega, Nat.zero_le _⟩ hr
  · refine (name_vd hr).bind fun a r ha hr => Vd.ok ⟨?_, ha⟩ hr
    unfold NumV
    split <;> omega
theorem cue_vd {ts : List TokD} (h : TokV ts) : Vd CueV (cueR ts) := by
  unfold cueR
  exact (name_vd h).bind fun nm r hn hr => (link_vd hr).bind fun k r hk hr => (nums_vd 3 hr).bind fun a r ha hr => Vd.ok ⟨hn, hk.2, ⟨hk.1, nth_v ha _, nth_v ha _, nth_v ha _⟩, in_nil⟩ hr
theorem onLast_mem {α : Type} {P : α → Prop} {f : α → α} (hf : ∀ a, P a → P (f a)) : ∀ (l : List α), (∀ a ∈ l, P a) → ∀ a ∈ onLast f l, P a
  | [], h, a, ha => by simp [onLast] at ha
  | [b], h, a, ha => by
    simp only [onLast, List.mem_singleton] at ha
    rw [ha]; exact hf b (h b (by simp))
  | b :: c :: l, h, a, ha => by
    simp only [onLast] at ha
    rcases List.mem_cons.1 ha with rfl | ha
    · exact h a (by simp)
    · exact onLast_mem hf (c :: l) (fun x hx => h x (by simp only [List.mem_cons] at hx ⊢; exact Or.inr hx)) a ha
theorem body_vd {h : HouseP} {c : SheetP} (hh : HouseV h) (hc : SheetV c) (w : List UInt8) (p : Int × Int) {ts : List TokD} (ht : TokV ts) : Vd (fun x : HouseP × SheetP => HouseV x.1 ∧ SheetV x.2) (bodyR h c w p ts) := by
  have snoc : ∀ {α : Type} {P : α → Prop} {l : List α} {x : α}, (∀ a ∈ l, P a) → P x → ∀ a ∈ l ++ [x], P a := fun hl hx a ha => by
    rcases List.mem_append.1 ha with ha | ha
    · exact hl a ha
    · rw [List.mem_singleton] at ha; rw [ha]; exact hx
  unfold bodyR
  split
  · exact (roof_vd ht).bind fun x r hx hr => Vd.ok ⟨⟨hh.name, hh.height, hh.sets, snoc hh.roofs hx⟩, hc⟩ hr
  split
  · exact (set_vd ht).bind fun x r hx hr => Vd.ok ⟨⟨hh.name, hh.height, snoc hh.sets hx, hh.roofs⟩, hc⟩ hr
  split
  · split
    · exact Vd.err
    · exact (item_vd ht).bind fun x r hx hr => Vd.ok ⟨⟨hh.name, hh.height, onLast_mem (fun s hs => ⟨hs.name, hs.nums, hs.lines, snoc hs.items hx, hs.bricks⟩) _ hh.sets, hh.roofs⟩, hc⟩ hr
  split
  · split
    · exact Vd.err
    · exact (brick_vd ht).bind fun x r hx hr => Vd.ok ⟨⟨hh.name, hh.height, onLast_mem (fun s hs => ⟨hs.name, hs.nums, hs.lines, hs.items, snoc hs.bricks hx⟩) _ hh.sets, hh.roofs⟩, hc⟩ hr
  split
  · exact (cue_vd ht).bind fun x r hx hr => Vd.ok ⟨hh, ⟨snoc hc.cues hx, hc.apart⟩⟩ hr
  split
  · split
    · exact Vd.err
    · exact (move_vd ht).bind fun x r hx hr => Vd.ok ⟨hh, ⟨onLast_mem (fun q hq => ⟨hq.name, hq.after, hq.nums, snoc hq.moves hx⟩) _ hc.cues, hc.apart⟩⟩ hr
  · exact (apart_vd ht).bind fun x r hx hr => Vd.ok ⟨hh, ⟨hc.cues, snoc hc.apart hx⟩⟩ hr
theorem stmt_vd {h : HouseP} {c : SheetP} (hh : HouseV h) (hc : SheetV c) {ts : List TokD} (ht : TokV ts) : Vd (fun x : HouseP × SheetP => HouseV x.1 ∧ SheetV x.2) (stmtR h c ts) := by
  unfold stmtR
  exact (take_vd 1 stmtWord ht).bind fun w r _ hr => (body_vd hh hc _ _ hr).bind fun x r hx hr => (take_vd 4 _ hr).bind fun _ r _ hr => Vd.ok hx hr
theorem blank_vd : ∀ (ts : List TokD), TokV ts → TokV (blankR ts)
  | [], h => h
  | t :: r, h => by
    simp only [blankR]
    split
    · exact blank_vd r h.tail
    · exact h
theorem rest_vd : ∀ (f : Nat) {h : HouseP} {c : SheetP}, HouseV h → SheetV c → ∀ {ts : List TokD}, TokV ts → Vd (fun x : HouseP × SheetP => HouseV x.1 ∧ SheetV x.2) (restR f h c ts)
  | 0, h, c, hh, hc, ts, ht => Vd.err
  | f + 1, h, c, hh, hc, ts, ht => by
    rw [restR]
    split
    · exact Vd.ok ⟨hh, hc⟩ (blank_vd _ ht)
    · exact (stmt_vd hh hc (blank_vd _ ht)).bind fun x r hx hr => rest_vd f hx.1 hx.2 hr
theorem read_vd {ts : List TokD} (ht : TokV ts) : Vd (fun x : HouseP × SheetP => HouseV x.1 ∧ SheetV x.2) (readR ts) := by
  unfold readR
  have hd : Vd (fun x : ByteArray × Int => NameV x.1 ∧ NumV x.2) (headR ts) := by
    unfold headR
    exact (take_vd 1 _ (blank_vd _ ht)).bind fun _ r _ hr => (name_vd hr).bind fun nm r hn hr => (num_vd hr).bind fun n r hv hr => (take_vd 4 _ hr).bind fun _ r _ hr => Vd.ok ⟨hn, hv⟩ hr
  exact hd.bind fun x r hx hr => rest_vd _ ⟨hx.1, hx.2, in_nil, in_nil⟩ ⟨in_nil, in_nil⟩ hr

theorem NumV.i64 {n : Int} (h : NumV n) : I64 n := by unfold NumV at h; unfold I64; omega
theorem NameV.max {b : ByteArray} (h : NameV b) : b.size ≤ Go.maxLen := by unfold NameV at h; unfold maxLen; omega
theorem house_ok {h : HouseD} {p : HouseP} (hp : h.pl = p) (hv : HouseV p) : h.ok := by
  subst hp
  refine ⟨hv.name.max, hv.height.i64, fun s hs => ?_, fun r hr => ?_⟩
  · have h1 := hv.sets (SetD.pl s) (List.mem_map_of_mem hs)
    obtain ⟨n1, n2, n3, n4, n5, n6, n7, n8, n9⟩ := h1.nums
    exact ⟨h1.name.max, n1.i64, n2.i64, n3.i64, n4.i64, fun n hn => (h1.lines n hn).i64, n5.i64, n6.i64, n7.i64, n8.i64, n9.i64, fun x hx => by
      obtain ⟨a, b, c, d, e, f, g⟩ := h1.items x hx
      exact ⟨a.max, b.i64, c.i64, d.i64, e.i64, f.i64, g.i64⟩, fun x hx => by
      obtain ⟨a, b, c⟩ := h1.bricks x hx
      exact ⟨a.max, b.i64, c.i64⟩⟩
  · obtain ⟨a, b, c, d⟩ := hv.roofs r hr
    exact ⟨a.max, b.i64, c.i64, d.i64⟩
theorem sheet_ok {s : SheetD} {p : SheetP} (hp : s.pl = p) (hv : SheetV p) : s.ok := by
  subst hp
  refine ⟨fun q hq => ?_, fun p hp => ?_⟩
  · have h1 := hv.cues (CueD.pl q) (List.mem_map_of_mem hq)
    obtain ⟨n1, n2, n3, n4⟩ := h1.nums
    exact ⟨h1.name.max, h1.after.max, n1.i64, n2.i64, fun m hm => by
      obtain ⟨a, b, c, d, e⟩ := h1.moves m hm
      exact ⟨a.max, b.i64, c.i64, d.i64, e.i64⟩, n3.i64, n4.i64⟩
  · obtain ⟨a, b⟩ := hv.apart p hp
    exact ⟨a.max, b.max⟩
end Go.Proofs.YtcdkhlndohokcaaGreatDoor
namespace Go.Proofs.YtcdkhlndohokcaaGreatDoor
open Go Go.RowKit

theorem flat_get {α : Type} {cells : α → List Value} {size : Nat} (hs : ∀ x, (cells x).length = size) : ∀ (l : List α) (i : Nat) (x : α), l[i]? = some x → ∀ (j : Nat) (u : Value), (cells x)[j]? = some u → (l.flatMap cells)[i * size + j]? = some u
  | a :: l, 0, x, h, j, u, hu => by
    simp only [List.getElem?_cons_zero, Option.some.injEq] at h
    subst h
    have hj : j < (cells a).length := (List.getElem?_eq_some_iff.1 hu).1
    rw [Nat.zero_mul, Nat.zero_add, List.flatMap_cons, List.getElem?_append_left hj]
    exact hu
  | a :: l, i + 1, x, h, j, u, hu => by
    have h1 := flat_get hs l i x (by simpa using h) j u hu
    rw [List.flatMap_cons, List.getElem?_append_right (by rw [hs a, Nat.add_mul]; omega), hs a]
    rw [show (i + 1) * size + j - size = i * size + j by rw [Nat.add_mul]; omega]
    exact h1
theorem slAt_own {α : Type} {cells : α → List Value} {w : World} {base : Nat} {e : TypeId} {size : Nat} {s : Sl α} (hs : ∀ x, (cells x).length = size) (h : w.ownsRow base e size s.val s.l.length (s.l.flatMap cells)) : SlAt w w.heap.size size cells s := by
  obtain ⟨A, cap, l⟩ := s
  have h' : w.ownsRow base e size (.slice A l.length cap) l.length (l.flatMap cells) := h
  rcases own_cases h' with ⟨rfl, rfl, h0⟩ | ⟨g, cur, rfl, hb, hh, h1, h2, h3, h4⟩
  · have hl : l = [] := List.eq_nil_of_length_eq_zero h0
    subst hl
    exact ⟨Nat.le_refl _, Nat.zero_le _, fun h => absurd h (by simp)⟩
  · refine ⟨h1, h2, fun _ => ⟨g, 0, rfl, (Array.getElem?_eq_some_iff.1 hh).1, fun i x hi j u hu => ?_⟩⟩
    have h5 := flat_get hs l i x hi j u hu
    rw [← h4, List.getElem?_take] at h5
    split at h5
    · rw [Nat.zero_add, Joins.cell_of_block hh, ← Array.getElem?_toList]; exact h5
    · cases h5
section
variable {rb : Nat} {x : World} {S : Sl SetD} {R : Sl RoofD} {C : Sl CueD} {A : Sl (ByteArray × ByteArray)}
theorem rows_house (h : Rows (rb + 1) x (memRows S R C A)) (nm : ByteArray) (ht : Int) : HouseD.at_ x x.heap.size ⟨nm, ht, S, R⟩ := by
  have hm : ∀ r, r ∈ memRows S R C A → r.lies (rb + 1) x := h.all
  refine ⟨slAt_own (fun _ => rfl) (hm ⟨26, 13, S.val, S.l.length, S.l.flatMap SetD.cells⟩ (by unfold memRows; simp)), fun s hs => ?_, slAt_own (fun _ => rfl) (hm ⟨94, 4, R.val, R.l.length, R.l.flatMap RoofD.cells⟩ (by unfold memRows; simp))⟩
  have hr : ∀ r ∈ SetD.rows s, r.lies (rb + 1) x := fun r hr => hm r (by
    unfold memRows
    simp only [List.mem_cons, List.mem_append, List.mem_flatMap]
    exact Or.inr (Or.inr (Or.inr (Or.inr (Or.inl ⟨s, hs, hr⟩)))))
  exact ⟨slAt_own (fun _ => rfl) (hr ⟨3, 1, s.lines.val, s.lines.l.length, s.lines.l.flatMap intCells⟩ (by simp [SetD.rows])), slAt_own (fun _ => rfl) (hr ⟨63, 7, s.items.val, s.items.l.length, s.items.l.flatMap ItemD.cells⟩ (by simp [SetD.rows])), slAt_own (fun _ => rfl) (hr ⟨65, 3, s.bricks.val, s.bricks.l.length, s.bricks.l.flatMap BrickD.cells⟩ (by simp [SetD.rows]))⟩
theorem rows_sheet (h : Rows (rb + 1) x (memRows S R C A)) : SheetD.at_ x x.heap.size ⟨C, A⟩ := by
  have hm : ∀ r, r ∈ memRows S R C A → r.lies (rb + 1) x := h.all
  refine ⟨slAt_own (fun _ => rfl) (hm ⟨97, 7, C.val, C.l.length, C.l.flatMap CueD.cells⟩ (by unfold memRows; simp)), fun q hq => ?_, slAt_own (fun _ => rfl) (hm ⟨100, 2, A.val, A.l.length, A.l.flatMap pairCells⟩ (by unfold memRows; simp))⟩
  have hr : ∀ r ∈ CueD.rows q, r.lies (rb + 1) x := fun r hr => hm r (by
    unfold memRows
    simp only [List.mem_cons, List.mem_append, List.mem_flatMap]
    exact Or.inr (Or.inr (Or.inr (Or.inr (Or.inr ⟨q, hq, hr⟩)))))
  exact ⟨slAt_own (fun _ => rfl) (hr ⟨99, 5, q.moves.val, q.moves.l.length, q.moves.l.flatMap MoveD.cells⟩ (by simp [CueD.rows]))⟩
theorem rows_moves {n : Nat} (h : ∀ r ∈ memRows S R C A, r.n ≤ n) : ∀ q ∈ C.l, q.moves.l.length ≤ n := fun q hq => h ⟨99, 5, q.moves.val, q.moves.l.length, q.moves.l.flatMap MoveD.cells⟩ (by
  unfold memRows
  simp only [List.mem_cons, List.mem_append, List.mem_flatMap]
  exact Or.inr (Or.inr (Or.inr (Or.inr (Or.inr ⟨q, hq, by simp [CueD.rows]⟩)))))
end
end Go.Proofs.YtcdkhlndohokcaaGreatDoor
