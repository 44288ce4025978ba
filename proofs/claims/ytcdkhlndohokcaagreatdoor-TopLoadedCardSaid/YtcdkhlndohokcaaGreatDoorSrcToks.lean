/- The language of houses and cue sheets, in plain Lean: what the tokens of a source say. The texts of houses and cue sheets, in plain Lean: their lines, words and tokens. Readings of tokens depend on the kinds and texts alone, and not on repeated ends of lines. Houses and cue sheets are read from the tokens of their texts: in plain Lean. Houses and cue sheets are read from the tokens of their texts: the statements, one behind the other. Readings stay within the tokens, and stop at one of them; and they depend on kinds and texts alone: in plain Lean. Blanks, comments and empty lines change nothing: in plain Lean. What tokens are like: they end with the end of the text, they are few, their texts are short: in plain Lean. -/
import Derived.Test.YtcdkhlndohokcaaGreatDoorDecTok
import Derived.Test.YtcdkhlndohokcaaGreatDoorSpecSet
namespace Go.Proofs.YtcdkhlndohokcaaGreatDoor
open Go Go.Lib

/-! ### plain houses and cue sheets -/
structure SetP where
  name : ByteArray
  depth : Int
  low : Int
  high : Int
  length : Int
  lines : List Int
  pipe : Int
  arbor : Int
  purchase : Int
  most : Int
  brake : Int
  items : List ItemD
  bricks : List BrickD
structure HouseP where
  name : ByteArray
  height : Int
  sets : List SetP
  roofs : List RoofD
structure MoveD where
  set : ByteArray
  to : Int
  speed : Int
  rise : Int
  fall : Int
structure CueP where
  name : ByteArray
  after : ByteArray
  link : Int
  delay : Int
  moves : List MoveD
  crew : Int
  power : Int
structure SheetP where
  cues : List CueP
  apart : List (ByteArray × ByteArray)

/-! ### numbers -/
def sv : List UInt8 → Int
  | 45 :: r => -(valN 0 r : Int)
  | w => (valN 0 w : Int)
/-- the number of at most 15 bytes that a word is the numeral of -/
def numTok (w : List UInt8) : Option Int := if w.length ≤ 15 ∧ itoa (sv w) = w then some (sv w) else none
theorem itoaNat (n : Nat) : itoa (n : Int) = decDigits n := by rw [itoa, if_neg (by omega)]; rfl
theorem itoaNeg {n : Int} (h : n < 0) : itoa n = 45 :: decDigits n.natAbs := by rw [itoa, if_pos h]
theorem decHead (u : Nat) : (decDigits u).head? ≠ some 45 := fun h => by
  cases hd : decDigits u with
  | nil => rw [hd] at h; cases h
  | cons c t =>
    have hall := decDigits_all u
    rw [hd] at h hall
    injection h with h
    subst h
    simp only [List.all_cons, Bool.and_eq_true] at hall
    have := dig_bounds hall.1
    simp at this
theorem sv_itoa (n : Int) : sv (itoa n) = n := by
  by_cases h : n < 0
  · rw [itoaNeg h, sv, valN_dec]; omega
  · obtain ⟨m, rfl⟩ : ∃ m : Nat, n = m := ⟨n.toNat, by omega⟩
    rw [itoaNat]
    have hh := decHead m
    have hv := valN_dec m
    cases hd : decDigits m with
    | nil => rw [hd] at hv; rw [sv, hv]; intro r h; cases h
    | cons c t =>
      rw [hd] at hh hv
      rw [sv, hv]
      intro r h
      injection h with h
      subst h
      exact hh rfl
theorem numTok_iff {w : List UInt8} {n : Int} : numTok w = some n ↔ itoa n = w ∧ w.length ≤ 15 := by
  unfold numTok
  constructor
  · intro h
    split at h
    · rename_i hx
      injection h with h
      exact ⟨by rw [← h]; exact hx.2, hx.1⟩
    · cases h
  · rintro ⟨rfl, h2⟩
    rw [if_pos ⟨h2, by rw [sv_itoa]⟩, sv_itoa]

/-! ### what tokens say -/
def posT : List TokD → Int × Int
  | t :: _ => (t.line, t.col)
  | [] => (0, 0)
def kindT : List TokD → Int
  | t :: _ => t.kind
  | [] => 0
/-- a reading of the first tokens: a value and the tokens behind, or the place of a token that cannot stand there -/
abbrev Rd (α : Type) := Except (Int × Int) (α × List TokD)
def takeR (kind : Int) (ok : List UInt8 → Bool) : List TokD → Rd ByteArray
  | t :: r => if t.kind = kind ∧ ok (bs t.text) = true then .ok (t.text, r) else .error (t.line, t.col)
  | [] => .error (0, 0)
def nameR : List TokD → Rd ByteArray := takeR 1 (fun _ => true)
def endR : List TokD → Rd ByteArray := takeR 4 (fun _ => true)
def numR1 (neg : Bool) : List TokD → Rd Int
  | t :: r => if t.kind = 2 then match numTok (bs t.text) with
    | some n => .ok (if neg then -n else n, r)
    | none => .error (t.line, t.col)
    else .error (t.line, t.col)
  | [] => .error (0, 0)
def minusT (t : TokD) : Bool := decide (t.kind = 3) && decide (bs t.text = [45])
def numR : List TokD → Rd Int
  | t :: r => if minusT t = true then numR1 true r else numR1 false (t :: r)
  | [] => .error (0, 0)
def numsR : Nat → List TokD → Rd (List Int)
  | 0, ts => .ok ([], ts)
  | k + 1, ts => match numR ts with
    | .error p => .error p
    | .ok (n, r) => match numsR k r with
      | .error p => .error p
      | .ok (l, r') => .ok (n :: l, r')
/-- numbers to the end of the line, at least one -/
def moreR : Nat → List TokD → Rd (List Int)
  | 0, ts => .error (posT ts)
  | f + 1, ts => match numR ts with
    | .error p => .error p
    | .ok (n, r) => if kindT r = 4 then .ok ([n], r) else match moreR f r with
      | .error p => .error p
      | .ok (l, r') => .ok (n :: l, r')
def bindR {α β : Type} (x : Rd α) (f : α → List TokD → Rd β) : Rd β :=
  match x with
  | .error p => .error p
  | .ok (a, r) => f a r
def setR (ts : List TokD) : Rd SetP :=
  bindR (nameR ts) fun nm r => bindR (numsR 9 r) fun a r => bindR (moreR r.length r) fun l r =>
    .ok (⟨nm, nth a 0, nth a 1, nth a 2, nth a 3, l, nth a 4, nth a 5, nth a 6, nth a 7, nth a 8, [], []⟩, r)
def itemR (ts : List TokD) : Rd ItemD :=
  bindR (nameR ts) fun nm r => bindR (numsR 6 r) fun a r => .ok (⟨nm, nth a 0, nth a 1, nth a 2, nth a 3, nth a 4, nth a 5⟩, r)
def brickR (ts : List TokD) : Rd BrickD :=
  bindR (nameR ts) fun nm r => bindR (numsR 2 r) fun a r => .ok (⟨nm, nth a 0, nth a 1⟩, r)
def roofR (ts : List TokD) : Rd RoofD :=
  bindR (nameR ts) fun nm r => bindR (numsR 3 r) fun a r => .ok (⟨nm, nth a 0, nth a 1, nth a 2⟩, r)
def moveR (ts : List TokD) : Rd MoveD :=
  bindR (nameR ts) fun nm r => bindR (numsR 4 r) fun a r => .ok (⟨nm, nth a 0, nth a 1, nth a 2, nth a 3⟩, r)
def apartR (ts : List TokD) : Rd (ByteArray × ByteArray) :=
  bindR (nameR ts) fun a r => bindR (nameR r) fun b r => .ok ((a, b), r)
def wManual : List UInt8 := [109, 97, 110, 117, 97, 108]
def wFollow : List UInt8 := [102, 111, 108, 108, 111, 119]
def wWith : List UInt8 := [119, 105, 116, 104]
def linkWord (w : List UInt8) : Bool := decide (w = wManual) || decide (w = wFollow) || decide (w = wWith)
def linkR (ts : List TokD) : Rd (Int × ByteArray) :=
  bindR (takeR 1 linkWord ts) fun w r =>
    if bs w = wManual then .ok ((1, ⟨#[]⟩), r)
    else bindR (nameR r) fun a r => .ok ((if bs w = wFollow then 2 else 3, a), r)
def cueR (ts : List TokD) : Rd CueP :=
  bindR (nameR ts) fun nm r => bindR (linkR r) fun k r => bindR (numsR 3 r) fun a r =>
    .ok (⟨nm, k.2, k.1, nth a 0, [], nth a 1, nth a 2⟩, r)
def wHouse : List UInt8 := [104, 111, 117, 115, 101]
def wRoof : List UInt8 := [114, 111, 111, 102]
def wSet : List UInt8 := [115, 101, 116]
def wItem : List UInt8 := [105, 116, 101, 109]
def wBrick : List UInt8 := [98, 114, 105, 99, 107]
def wCue : List UInt8 := [99, 117, 101]
def wMove : List UInt8 := [109, 111, 118, 101]
def wApart : List UInt8 := [97, 112, 97, 114, 116]
def stmtWord (w : List UInt8) : Bool := decide (w = wRoof) || decide (w = wSet) || decide (w = wItem) || decide (w = wBrick) || decide (w = wCue) || decide (w = wMove) || decide (w = wApart)
/-- the last element, turned -/
def onLast {α : Type} (f : α → α) : List α → List α
  | [] => []
  | [a] => [f a]
  | a :: b :: l => a :: onLast f (b :: l)
/-- what stands behind the word of a line -/
def bodyR (h : HouseP) (c : SheetP) (w : List UInt8) (here : Int × Int) (r : List TokD) : Rd (HouseP × SheetP) :=
  if w = wRoof then bindR (roofR r) fun x r => .ok (({ h with roofs := h.roofs ++ [x] }, c), r)
  else if w = wSet then bindR (setR r) fun x r => .ok (({ h with sets := h.sets ++ [x] }, c), r)
  else if w = wItem then (if h.sets = [] then .error here else bindR (itemR r) fun x r => .ok (({ h with sets := onLast (fun s => { s with items := s.items ++ [x] }) h.sets }, c), r))
  else if w = wBrick then (if h.sets = [] then .error here else bindR (brickR r) fun x r => .ok (({ h with sets := onLast (fun s => { s with bricks := s.bricks ++ [x] }) h.sets }, c), r))
  else if w = wCue then bindR (cueR r) fun x r => .ok ((h, { c with cues := c.cues ++ [x] }), r)
  else if w = wMove then (if c.cues = [] then .error here else bindR (moveR r) fun x r => .ok ((h, { c with cues := onLast (fun q => { q with moves := q.moves ++ [x] }) c.cues }), r))
  else bindR (apartR r) fun x r => .ok ((h, { c with apart := c.apart ++ [x] }), r)
def stmtR (h : HouseP) (c : SheetP) (ts : List TokD) : Rd (HouseP × SheetP) :=
  bindR (takeR 1 stmtWord ts) fun w r => bindR (bodyR h c (bs w) (posT ts) r) fun x r => bindR (endR r) fun _ r => .ok (x, r)
def blankR : List TokD → List TokD
  | t :: r => if t.kind = 4 then blankR r else t :: r
  | [] => []
def restR : Nat → HouseP → SheetP → List TokD → Rd (HouseP × SheetP)
  | 0, _, _, ts => .error (posT ts)
  | f + 1, h, c, ts => if kindT (blankR ts) = 5 then .ok ((h, c), blankR ts) else bindR (stmtR h c (blankR ts)) fun x r => restR f x.1 x.2 r
def headR (ts : List TokD) : Rd (ByteArray × Int) :=
  bindR (takeR 1 (fun w => decide (w = wHouse)) (blankR ts)) fun _ r => bindR (nameR r) fun nm r => bindR (numR r) fun n r => bindR (endR r) fun _ r => .ok ((nm, n), r)
/-- the house and the cue sheet that tokens say, valid or not, or the place of a token that cannot stand there -/
def readR (ts : List TokD) : Rd (HouseP × SheetP) :=
  bindR (headR ts) fun x r => restR ts.length ⟨x.1, x.2, [], []⟩ ⟨[], []⟩ r
end Go.Proofs.YtcdkhlndohokcaaGreatDoor
namespace Go.Proofs.YtcdkhlndohokcaaGreatDoor
open Go Go.Lib

inductive Wd where
  | wd (l : List UInt8)
  | num (n : Int)
def wb : Wd → List UInt8
  | .wd l => l
  | .num n => itoa n
def joinW : List (List UInt8) → List UInt8
  | [] => []
  | [w] => w
  | w :: v :: l => w ++ 32 :: joinW (v :: l)
def lineT (ws : List Wd) : List UInt8 := joinW (ws.map wb) ++ [10]
def nums (l : List Int) : List Wd := l.map Wd.num
def nameW (b : ByteArray) : Wd := .wd (bs b)
def houseLn (h : HouseP) : List Wd := [.wd wHouse, nameW h.name, .num h.height]
def roofLn (x : RoofD) : List Wd := [.wd wRoof, nameW x.name, .num x.fro, .num x.til, .num x.most]
def setLn (s : SetP) : List Wd := .wd wSet :: nameW s.name :: nums ([s.depth, s.low, s.high, s.length, s.pipe, s.arbor, s.purchase, s.most, s.brake] ++ s.lines)
def itemLn (x : ItemD) : List Wd := .wd wItem :: nameW x.name :: nums [x.place, x.width, x.weight, x.hang, x.front, x.back]
def brickLn (x : BrickD) : List Wd := .wd wBrick :: nameW x.name :: nums [x.weight, x.count]
def setLns (s : SetP) : List (List Wd) := setLn s :: (s.items.map itemLn ++ s.bricks.map brickLn)
def linkW (q : CueP) : List Wd := if q.link = 1 then [.wd wManual] else if q.link = 2 then [.wd wFollow, nameW q.after] else [.wd wWith, nameW q.after]
def cueLn (q : CueP) : List Wd := .wd wCue :: nameW q.name :: (linkW q ++ nums [q.delay, q.crew, q.power])
def moveLn (m : MoveD) : List Wd := .wd wMove :: nameW m.set :: nums [m.to, m.speed, m.rise, m.fall]
def cueLns (q : CueP) : List (List Wd) := cueLn q :: q.moves.map moveLn
def apartLn (x : ByteArray × ByteArray) : List Wd := [.wd wApart, nameW x.1, nameW x.2]
def linesP (h : HouseP) (c : SheetP) : List (List Wd) :=
  houseLn h :: (h.roofs.map roofLn ++ h.sets.flatMap setLns ++ c.cues.flatMap cueLns ++ c.apart.map apartLn)
def textP (h : HouseP) (c : SheetP) : List UInt8 := (linesP h c).flatMap lineT

/-! ### the tokens of lines -/
def wordToks (line col : Int) : Wd → List TokD
  | .wd l => [⟨1, ⟨l.toArray⟩, line, col⟩]
  | .num n => if n < 0 then [⟨3, ⟨#[45]⟩, line, col⟩, ⟨2, ⟨(decDigits n.natAbs).toArray⟩, line, col + 1⟩] else [⟨2, ⟨(itoa n).toArray⟩, line, col⟩]
def lineToks (line col : Int) : List Wd → List TokD
  | [] => [⟨4, ⟨#[]⟩, line, col⟩]
  | [w] => wordToks line col w ++ [⟨4, ⟨#[]⟩, line, col + (wb w).length⟩]
  | w :: v :: l => wordToks line col w ++ lineToks line (col + (wb w).length + 1) (v :: l)
def allToks (line : Int) : List (List Wd) → List TokD
  | [] => [⟨5, ⟨#[]⟩, line, 1⟩]
  | l :: ls => lineToks line 1 l ++ allToks (line + 1) ls
def Wd.fit : Wd → Prop
  | .wd l => isNameL l = true
  | .num _ => True
theorem letter_not {c : UInt8} (h : letterB (c.toNat : Int) = true) : ¬ (c = 32 ∨ c = 9) ∧ c ≠ 10 ∧ c ≠ 35 := by
  refine ⟨fun e => ?_, fun e => ?_, fun e => ?_⟩
  · rcases e with rfl | rfl <;> revert h <;> decide
  · subst e; revert h; decide
  · subst e; revert h; decide
theorem wordLen_stop : ∀ (l : List UInt8) (c : UInt8) (r : List UInt8), wordLen l = l.length → wordB c = false → wordLen (l ++ c :: r) = l.length
  | [], c, r, _, hc => by simp [wordLen, hc]
  | d :: l, c, r, h, hc => by
    unfold wordLen at h
    split at h
    · rename_i hd
      simp only [List.length_cons] at h
      rw [List.cons_append, wordLen, if_pos hd, wordLen_stop l c r (by omega) hc]
      simp
    · simp at h
theorem nextTk_name {l : List UInt8} {c : UInt8} {r : List UInt8} (h : isNameL l = true) (hc : wordB c = false) : nextTk (l ++ c :: r) = .tok 1 l.length := by
  simp only [isNameL, Bool.and_eq_true, decide_eq_true_eq] at h
  obtain ⟨⟨⟨h1, h2⟩, h3⟩, h4⟩ := h
  have hw := wordLen_stop l c r h4 hc
  cases l with
  | nil => simp at h1
  | cons d l =>
    simp only [List.headD_cons] at h3
    obtain ⟨n1, n2, n3⟩ := letter_not h3
    rw [List.cons_append] at hw ⊢
    rw [nextTk, if_neg n1, if_neg n2, if_neg n3, if_pos h3, hw, if_pos h2]
theorem digLen_stop : ∀ (l : List UInt8) (c : UInt8) (r : List UInt8), l.all isDig = true → isDig c = false → digLen (l ++ c :: r) = l.length
  | [], c, r, _, hc => by simp [digLen, hc]
  | d :: l, c, r, h, hc => by
    simp only [List.all_cons, Bool.and_eq_true] at h
    rw [List.cons_append, digLen, if_pos h.1, digLen_stop l c r h.2 hc]
    simp
theorem dig_not {c : UInt8} (h : isDig c = true) : ¬ (c = 32 ∨ c = 9) ∧ c ≠ 10 ∧ c ≠ 35 ∧ letterB (c.toNat : Int) = false := by
  have hb := dig_bounds h
  refine ⟨fun e => ?_, fun e => ?_, fun e => ?_, ?_⟩
  · rcases e with rfl | rfl <;> simp at hb
  · subst e; simp at hb
  · subst e; simp at hb
  · simp only [letterB, Bool.or_eq_false_iff, Bool.and_eq_false_iff, decide_eq_false_iff_not]
    omega
theorem nextTk_digits {l : List UInt8} {c : UInt8} {r : List UInt8} (h0 : 0 < l.length) (h : l.all isDig = true) (hc : isDig c = false) (hp : c ≠ 46) : nextTk (l ++ c :: r) = .tok 2 l.length := by
  have hd := digLen_stop l c r h hc
  have hn : numLen (l ++ c :: r) = l.length := by
    unfold numLen pointAt
    rw [hd, List.getElem?_append_right (Nat.le_refl _), Nat.sub_self, List.getElem?_cons_zero]
    have : (some c == some (46 : UInt8)) = false := by simpa using hp
    rw [this, Bool.false_and, if_neg (by simp)]
  cases l with
  | nil => simp at h0
  | cons d l =>
    simp only [List.all_cons, Bool.and_eq_true] at h
    obtain ⟨n1, n2, n3, n4⟩ := dig_not h.1
    rw [List.cons_append] at hn ⊢
    rw [nextTk, if_neg n1, if_neg n2, if_neg n3, if_neg (by rw [n4]; simp), if_pos h.1, hn]
theorem nextTk_minus (r : List UInt8) : nextTk (45 :: r) = .tok 3 1 := by
  have h1 : symLen (45 :: r) = 1 := by
    unfold symLen twoB
    have e1 : [62, 61].isPrefixOf ((45 : UInt8) :: r) = false := by simp [List.isPrefixOf]
    have e2 : [60, 61].isPrefixOf ((45 : UInt8) :: r) = false := by simp [List.isPrefixOf]
    have e3 : [58, 61].isPrefixOf ((45 : UInt8) :: r) = false := by simp [List.isPrefixOf]
    rw [e1, e2, e3]
    rw [if_neg (by simp), if_pos (by show oneB 45 = true; decide)]
  rw [nextTk, h1]
  rfl
theorem decDigits_len_pos (n : Nat) : 0 < (decDigits n).length := by rw [decDigits_length]; exact nDigits_pos n
/-- a word, read off the front of a text: what stands behind is a blank or the line's end -/
theorem word_toks {R : TRes} {acc : List TokD} {w : Wd} {c : UInt8} {r : List UInt8} {line col : Int} (hw : w.fit) (hc : c = 32 ∨ c = 10) (h : ToksTo R acc (wb w ++ c :: r) line col) :
    ToksTo R (acc ++ wordToks line col w) (c :: r) line (col + (wb w).length) := by
  have hcd : isDig c = false := by rcases hc with rfl | rfl <;> decide
  have hcw : wordB c = false := by rcases hc with rfl | rfl <;> decide
  have hcp : c ≠ 46 := by rcases hc with rfl | rfl <;> decide
  have key : ∀ (acc : List TokD) (l : List UInt8) (k : Int) (col : Int), 0 < l.length → nextTk (l ++ c :: r) = .tok k l.length → ToksTo R acc (l ++ c :: r) line col →
      ToksTo R (acc ++ [⟨k, ⟨l.toArray⟩, line, col⟩]) (c :: r) line (col + l.length) := fun acc l k col h0 hk h => by
    have h2 := h.tok (by simp; omega) hk (by omega)
    rw [List.take_left, List.drop_left] at h2
    exact h2
  cases w with
  | wd l =>
    have hl : isNameL l = true := hw
    have h0 : 0 < l.length := by
      simp only [isNameL, Bool.and_eq_true] at hl
      cases l with
      | nil => simp at hl
      | cons _ _ => simp
    exact key acc l 1 col h0 (nextTk_name hl hcw) h
  | num n =>
    simp only [wb, wordToks] at h ⊢
    by_cases hn : n < 0
    · rw [if_pos hn]
      rw [itoaNeg hn] at h ⊢
      have h1 := h.tok (by simp) (by rw [List.cons_append]; exact nextTk_minus _) (Nat.le_refl 1)
      simp only [List.cons_append, List.take_succ_cons, List.take_zero, List.drop_succ_cons, List.drop_zero] at h1
      have h2 := key _ (decDigits n.natAbs) 2 _ (decDigits_len_pos _) (nextTk_digits (decDigits_len_pos _) (decDigits_all _) hcd hcp) h1
      rw [List.append_assoc] at h2
      rw [List.length_cons, show col + ((decDigits n.natAbs).length + 1 : Nat) = col + (1 : Nat) + (decDigits n.natAbs).length by omega]
      exact h2
    · rw [if_neg hn]
      obtain ⟨m, rfl⟩ : ∃ m : Nat, n = m := ⟨n.toNat, by omega⟩
      rw [itoaNat] at h ⊢
      exact key acc (decDigits m) 2 col (decDigits_len_pos _) (nextTk_digits (decDigits_len_pos _) (decDigits_all _) hcd hcp) h
theorem line_toks {R : TRes} : ∀ (ws : List Wd) (acc : List TokD) (r : List UInt8) (line col : Int), (∀ w ∈ ws, w.fit) → ToksTo R acc (lineT ws ++ r) line col → ToksTo R (acc ++ lineToks line col ws) r (line + 1) 1
  | [], acc, r, line, col, _, h => by
    have h1 := h.lineEnd (by simp [lineT]; omega) (by rfl)
    simpa [lineT, joinW, lineToks] using h1
  | [w], acc, r, line, col, hf, h => by
    have e : lineT [w] ++ r = wb w ++ 10 :: r := by simp [lineT, joinW]
    rw [e] at h
    have h1 := (word_toks (hf w (by simp)) (Or.inr rfl) h).lineEnd (by simp) (by rfl)
    rw [lineToks, ← List.append_assoc]
    exact h1
  | w :: v :: l, acc, r, line, col, hf, h => by
    have e : lineT (w :: v :: l) ++ r = wb w ++ 32 :: (lineT (v :: l) ++ r) := by simp [lineT, joinW]
    rw [e] at h
    have h1 := word_toks (hf w (by simp)) (Or.inl rfl) h
    have h2 := h1.blank (by simp) (by rfl) (Nat.le_refl 1)
    rw [List.drop_succ_cons, List.drop_zero] at h2
    have h3 := line_toks (v :: l) _ r line _ (fun w hw => hf w (by simp [hw])) h2
    rw [lineToks, ← List.append_assoc]
    exact h3
theorem all_toks {R : TRes} : ∀ (ls : List (List Wd)) (acc : List TokD) (line : Int), (∀ l ∈ ls, ∀ w ∈ l, w.fit) → ToksTo R acc (ls.flatMap lineT) line 1 → R = .good (acc ++ allToks line ls)
  | [], acc, line, _, h => h.done (by simp)
  | l :: ls, acc, line, hf, h => by
    rw [List.flatMap_cons] at h
    have h1 := all_toks ls _ (line + 1) (fun x hx => hf x (by simp [hx])) (line_toks l acc _ line 1 (hf l (by simp)) h)
    rw [h1, allToks, List.append_assoc]
/-- the tokens of a text of fit lines -/
theorem toks_text {ls : List (List Wd)} (hf : ∀ l ∈ ls, ∀ w ∈ l, w.fit) : toks (ls.flatMap lineT) = .good (allToks 1 ls) := by
  have h := all_toks ls [] 1 hf (ToksTo.start _)
  simpa using h
end Go.Proofs.YtcdkhlndohokcaaGreatDoor
namespace Go.Proofs.YtcdkhlndohokcaaGreatDoor
open Go Go.Lib

def kt (t : TokD) : Int × List UInt8 := (t.kind, bs t.text)
theorem kt_text {t u : TokD} (h : kt t = kt u) : t.kind = u.kind ∧ t.text = u.text := by
  simp only [kt, Prod.mk.injEq] at h
  exact ⟨h.1, bs_inj h.2⟩
theorem blankR_len : ∀ ts : List TokD, (blankR ts).length ≤ ts.length
  | [] => Nat.le_refl _
  | t :: r => by
    unfold blankR
    split
    · exact Nat.le_succ_of_le (blankR_len r)
    · exact Nat.le_refl _
/-- the same tokens but for their places, and for repeated ends of lines -/
inductive Sq : List TokD → List TokD → Prop
  | nil : Sq [] []
  | cons {t u : TokD} {ts us : List TokD} (h : kt t = kt u) (hk : t.kind ≠ 4) (hs : Sq ts us) : Sq (t :: ts) (u :: us)
  | line {t u : TokD} {ts us : List TokD} (ht : t.kind = 4) (hu : u.kind = 4) (hs : Sq (blankR ts) (blankR us)) : Sq (t :: ts) (u :: us)
def SqB (r r' : List TokD) : Prop := Sq (blankR r) (blankR r')
theorem blankR_line {t : TokD} {r : List TokD} (h : t.kind = 4) : blankR (t :: r) = blankR r := by rw [blankR, if_pos h]
theorem blankR_other {t : TokD} {r : List TokD} (h : t.kind ≠ 4) : blankR (t :: r) = t :: r := by rw [blankR, if_neg h]
theorem blankR_twice : ∀ ts : List TokD, blankR (blankR ts) = blankR ts
  | [] => rfl
  | t :: r => by
    by_cases h : t.kind = 4
    · rw [blankR_line h, blankR_twice r]
    · rw [blankR_other h, blankR_other h]
theorem Sq.blank {ts us : List TokD} (h : Sq ts us) : SqB ts us := by
  cases h with
  | nil => exact Sq.nil
  | cons h hk hs => unfold SqB; rw [blankR_other hk, blankR_other (by rw [← (kt_text h).1]; exact hk)]; exact Sq.cons h hk hs
  | line ht hu hs => unfold SqB; rw [blankR_line ht, blankR_line hu]; exact hs
theorem Sq.kind {ts us : List TokD} (h : Sq ts us) : kindT ts = kindT us := by
  cases h with
  | nil => rfl
  | cons h _ _ => exact (kt_text h).1
  | line ht hu _ => show _ = _; simp only [kindT]; rw [ht, hu]
/-- tokens with the same kinds and texts -/
theorem Sq.of_map : ∀ (n : Nat) (ts us : List TokD), ts.length ≤ n → ts.map kt = us.map kt → Sq ts us
  | _, [], [], _, _ => Sq.nil
  | _, [], _ :: _, _, h => by simp at h
  | _, _ :: _, [], _, h => by simp at h
  | 0, _ :: _, _ :: _, hn, _ => by simp at hn
  | n + 1, t :: ts, u :: us, hn, h => by
    simp only [List.map_cons, List.cons.injEq] at h
    by_cases hk : t.kind = 4
    · refine Sq.line hk (by rw [← (kt_text h.1).1]; exact hk) ?_
      have key : ∀ (ts us : List TokD), ts.map kt = us.map kt → (blankR ts).map kt = (blankR us).map kt := by
        intro ts
        induction ts with
        | nil => intro us h; cases us with
          | nil => rfl
          | cons _ _ => simp at h
        | cons a ts ih => intro us h; cases us with
          | nil => simp at h
          | cons b us =>
            have h0 := h
            simp only [List.map_cons, List.cons.injEq] at h
            by_cases hk : a.kind = 4
            · rw [blankR_line hk, blankR_line (by rw [← (kt_text h.1).1]; exact hk)]; exact ih us h.2
            · rw [blankR_other hk, blankR_other (by rw [← (kt_text h.1).1]; exact hk)]; exact h0
      refine Sq.of_map n _ _ ?_ (key _ _ h.2)
      have := blankR_len ts
      simp only [List.length_cons] at hn
      omega
    · exact Sq.cons h.1 hk (Sq.of_map n ts us (by simpa using hn) h.2)
theorem Sq.same {ts us : List TokD} (h : ts.map kt = us.map kt) : Sq ts us := Sq.of_map ts.length ts us (Nat.le_refl _) h
/-- readings with the same value, or both in vain -/
def Sim {α : Type} (ρ : List TokD → List TokD → Prop) (x y : Rd α) : Prop :=
  match x, y with
  | .ok (a, r), .ok (b, r') => a = b ∧ ρ r r'
  | .error _, .error _ => True
  | _, _ => False
theorem Sim.bind {α β : Type} {ρ σ : List TokD → List TokD → Prop} {x y : Rd α} {f g : α → List TokD → Rd β} (h : Sim ρ x y) (hf : ∀ a r r', ρ r r' → Sim σ (f a r) (g a r')) : Sim σ (bindR x f) (bindR y g) := by
  cases x with
  | error p => cases y with
    | error q => exact trivial
    | ok v => exact h.elim
  | ok v => cases y with
    | error q => exact h.elim
    | ok v' =>
      obtain ⟨a, r⟩ := v
      obtain ⟨b, r'⟩ := v'
      obtain ⟨rfl, hr⟩ := h
      exact hf a r r' hr
theorem Sim.ok {α : Type} {ρ : List TokD → List TokD → Prop} {a : α} {r r' : List TokD} (h : ρ r r') : Sim ρ (.ok (a, r) : Rd α) (.ok (a, r')) := ⟨rfl, h⟩
theorem Sim.err {α : Type} {ρ : List TokD → List TokD → Prop} (p q : Int × Int) : Sim ρ (.error p : Rd α) (.error q) := trivial
theorem take_sim {k : Int} {ok : List UInt8 → Bool} (hk : k ≠ 4) {ts us : List TokD} (h : Sq ts us) : Sim Sq (takeR k ok ts) (takeR k ok us) := by
  cases h with
  | nil => exact Sim.err _ _
  | @cons t u ts us h hk2 hs =>
    obtain ⟨h1, h2⟩ := kt_text h
    simp only [takeR]
    rw [← h1, ← h2]
    split
    · exact Sim.ok hs
    · exact Sim.err _ _
  | @line t u ts us ht hu hs =>
    simp only [takeR]
    rw [ht, hu, if_neg (fun h => hk h.1.symm), if_neg (fun h => hk h.1.symm)]
    exact Sim.err _ _
/-- the end of a line: its texts are alike, for the sake of the value -/
theorem end_sim {ts us : List TokD} (h : Sq ts us) : Sim SqB (bindR (endR ts) fun _ r => (.ok ((), r) : Rd Unit)) (bindR (endR us) fun _ r => .ok ((), r)) := by
  cases h with
  | nil => exact Sim.err _ _
  | @cons t u ts us h hk2 hs =>
    obtain ⟨h1, _⟩ := kt_text h
    simp only [endR, takeR]
    rw [if_neg (by simp [hk2]), if_neg (by rw [← h1]; simp [hk2])]
    exact Sim.err _ _
  | @line t u ts us ht hu hs =>
    simp only [endR, takeR]
    rw [if_pos (by simp [ht]), if_pos (by simp [hu])]
    exact Sim.ok hs
theorem num1_sim {neg : Bool} {ts us : List TokD} (h : Sq ts us) : Sim Sq (numR1 neg ts) (numR1 neg us) := by
  cases h with
  | nil => exact Sim.err _ _
  | @cons t u ts us h hk2 hs =>
    obtain ⟨h1, h2⟩ := kt_text h
    simp only [numR1]
    rw [← h1, ← h2]
    split
    · split
      · exact Sim.ok hs
      · exact Sim.err _ _
    · exact Sim.err _ _
  | @line t u ts us ht hu hs =>
    simp only [numR1]
    rw [ht, hu, if_neg (by decide), if_neg (by decide)]
    exact Sim.err _ _
theorem num_sim {ts us : List TokD} (h : Sq ts us) : Sim Sq (numR ts) (numR us) := by
  cases h with
  | nil => exact Sim.err _ _
  | @cons t u ts us h hk2 hs =>
    obtain ⟨h1, h2⟩ := kt_text h
    have e : minusT u = minusT t := by unfold minusT; rw [h1, h2]
    simp only [numR]
    rw [e]
    split
    · exact num1_sim hs
    · exact num1_sim (Sq.cons h hk2 hs)
  | @line t u ts us ht hu hs =>
    have e : minusT t = false := by unfold minusT; rw [ht]; rfl
    have e' : minusT u = false := by unfold minusT; rw [hu]; rfl
    simp only [numR]
    rw [e, e', if_neg (by simp), if_neg (by simp)]
    exact num1_sim (Sq.line ht hu hs)
theorem nums_bind (k : Nat) (ts : List TokD) : numsR (k + 1) ts = bindR (numR ts) fun n r => bindR (numsR k r) fun l r' => .ok (n :: l, r') := by
  rw [numsR]
  cases numR ts with
  | error p => rfl
  | ok v => obtain ⟨n, r⟩ := v; simp only [bindR]; cases numsR k r with
    | error p => rfl
    | ok v => rfl
theorem nums_sim : ∀ (k : Nat) {ts us : List TokD}, Sq ts us → Sim Sq (numsR k ts) (numsR k us)
  | 0, _, _, h => Sim.ok h
  | k + 1, _, _, h => by
    rw [nums_bind, nums_bind]
    exact (num_sim h).bind fun n r r' hr => (nums_sim k hr).bind fun l r r' hr => Sim.ok hr
/-- a reading takes tokens off the front -/
def Less {α : Type} (x : Rd α) (n : Nat) : Prop := ∀ a r, x = .ok (a, r) → r.length < n
theorem less_err {α : Type} {p : Int × Int} {n : Nat} : Less (.error p : Rd α) n := fun a r h => by cases h
theorem Less.bind {α β : Type} {x : Rd α} {f : α → List TokD → Rd β} {n : Nat} (h : Less x n) (hf : ∀ a r, r.length < n → Less (f a r) n) : Less (bindR x f) n := by
  cases x with
  | error p => exact less_err
  | ok v =>
    obtain ⟨a, r⟩ := v
    exact hf a r (h a r rfl)
theorem Less.ok {α : Type} {a : α} {r : List TokD} {n : Nat} (h : r.length < n) : Less (.ok (a, r) : Rd α) n := fun b r' e => by
  injection e with e
  injection e with _ e
  rw [← e]; exact h
theorem Less.mono {α : Type} {x : Rd α} {n m : Nat} (h : Less x n) (hm : n ≤ m) : Less x m := fun a r e => Nat.lt_of_lt_of_le (h a r e) hm
theorem take_less (k : Int) (ok : List UInt8 → Bool) (ts : List TokD) : Less (takeR k ok ts) ts.length := by
  cases ts with
  | nil => exact less_err
  | cons t r =>
    simp only [takeR]
    split
    · exact Less.ok (by simp)
    · exact less_err
theorem num1_less (neg : Bool) (ts : List TokD) : Less (numR1 neg ts) ts.length := by
  cases ts with
  | nil => exact less_err
  | cons t r =>
    simp only [numR1]
    split
    · split
      · exact Less.ok (by simp)
      · exact less_err
    · exact less_err
theorem num_less (ts : List TokD) : Less (numR ts) ts.length := by
  cases ts with
  | nil => exact less_err
  | cons t r =>
    simp only [numR]
    split
    · exact (num1_less true r).mono (by simp)
    · exact num1_less false (t :: r)
theorem nums_less : ∀ (k : Nat) (ts : List TokD), Less (numsR k ts) (ts.length + 1)
  | 0, ts => Less.ok (Nat.lt_succ_self _)
  | k + 1, ts => by
    rw [nums_bind]
    exact ((num_less ts).mono (Nat.le_succ _)).bind fun n r hr => ((nums_less k r).mono hr).bind fun l r hr => Less.ok hr
theorem more_bind (f : Nat) (ts : List TokD) : moreR (f + 1) ts = bindR (numR ts) fun n r => if kindT r = 4 then .ok ([n], r) else bindR (moreR f r) fun l r' => .ok (n :: l, r') := by
  rw [moreR]
  cases numR ts with
  | error p => rfl
  | ok v => obtain ⟨n, r⟩ := v; simp only [bindR]; split
            · rfl
            · cases moreR f r with
              | error p => rfl
              | ok v => rfl
theorem more_less : ∀ (f : Nat) (ts : List TokD), Less (moreR f ts) ts.length
  | 0, ts => less_err
  | f + 1, ts => by
    rw [more_bind]
    refine (num_less ts).bind fun n r hr => ?_
    split
    · exact Less.ok hr
    · exact ((more_less f r).mono (Nat.le_of_lt hr)).bind fun l r hr => Less.ok hr
theorem more_sim : ∀ (f f' : Nat) {ts us : List TokD}, ts.length ≤ f → us.length ≤ f' → Sq ts us → Sim Sq (moreR f ts) (moreR f' us)
  | 0, f', ts, us, hf, hf', h => by
    cases h with
    | nil => cases f' <;> exact Sim.err _ _
    | cons _ _ _ => simp at hf
    | line _ _ _ => simp at hf
  | f + 1, 0, ts, us, hf, hf', h => by
    cases h with
    | nil => exact Sim.err _ _
    | cons _ _ _ => simp at hf'
    | line _ _ _ => simp at hf'
  | f + 1, f' + 1, ts, us, hf, hf', h => by
    have h1 := num_sim h
    have l1 := num_less ts
    have l2 := num_less us
    rw [more_bind, more_bind]
    cases hx : numR ts with
    | error p => cases hy : numR us with
      | error q => exact trivial
      | ok v => rw [hx, hy] at h1; exact h1.elim
    | ok v => cases hy : numR us with
      | error q => rw [hx, hy] at h1; exact h1.elim
      | ok v' =>
        obtain ⟨a, r⟩ := v
        obtain ⟨b, r'⟩ := v'
        rw [hx, hy] at h1
        obtain ⟨rfl, hr⟩ := h1
        have q1 := l1 _ _ hx
        have q2 := l2 _ _ hy
        simp only [bindR]
        rw [← hr.kind]
        split
        · exact Sim.ok hr
        · exact (more_sim f f' (by omega) (by omega) hr).bind fun l r r' hr => Sim.ok hr
theorem name_sim {ts us : List TokD} (h : Sq ts us) : Sim Sq (nameR ts) (nameR us) := take_sim (by decide) h
theorem set_sim {ts us : List TokD} (h : Sq ts us) : Sim Sq (setR ts) (setR us) :=
  (name_sim h).bind fun _ _ _ h => (nums_sim 9 h).bind fun _ _ _ h => (more_sim _ _ (Nat.le_refl _) (Nat.le_refl _) h).bind fun _ _ _ h => Sim.ok h
theorem item_sim {ts us : List TokD} (h : Sq ts us) : Sim Sq (itemR ts) (itemR us) := (name_sim h).bind fun _ _ _ h => (nums_sim 6 h).bind fun _ _ _ h => Sim.ok h
theorem brick_sim {ts us : List TokD} (h : Sq ts us) : Sim Sq (brickR ts) (brickR us) := (name_sim h).bind fun _ _ _ h => (nums_sim 2 h).bind fun _ _ _ h => Sim.ok h
theorem roof_sim {ts us : List TokD} (h : Sq ts us) : Sim Sq (roofR ts) (roofR us) := (name_sim h).bind fun _ _ _ h => (nums_sim 3 h).bind fun _ _ _ h => Sim.ok h
theorem move_sim {ts us : List TokD} (h : Sq ts us) : Sim Sq (moveR ts) (moveR us) := (name_sim h).bind fun _ _ _ h => (nums_sim 4 h).bind fun _ _ _ h => Sim.ok h
theorem apart_sim {ts us : List TokD} (h : Sq ts us) : Sim Sq (apartR ts) (apartR us) := (name_sim h).bind fun _ _ _ h => (name_sim h).bind fun _ _ _ h => Sim.ok h
theorem link_sim {ts us : List TokD} (h : Sq ts us) : Sim Sq (linkR ts) (linkR us) :=
  (take_sim (by decide) h).bind fun w _ _ h => by
    by_cases hw : bs w = wManual
    · rw [if_pos hw, if_pos hw]; exact Sim.ok h
    · rw [if_neg hw, if_neg hw]; exact (name_sim h).bind fun _ _ _ h => Sim.ok h
theorem cue_sim {ts us : List TokD} (h : Sq ts us) : Sim Sq (cueR ts) (cueR us) := (name_sim h).bind fun _ _ _ h => (link_sim h).bind fun _ _ _ h => (nums_sim 3 h).bind fun _ _ _ h => Sim.ok h
theorem body_sim (h : HouseP) (c : SheetP) (w : List UInt8) (p q : Int × Int) {ts us : List TokD} (H : Sq ts us) : Sim Sq (bodyR h c w p ts) (bodyR h c w q us) := by
  unfold bodyR
  split
  · exact (roof_sim H).bind fun _ _ _ h => Sim.ok h
  split
  · exact (set_sim H).bind fun _ _ _ h => Sim.ok h
  split
  · split
    · exact Sim.err _ _
    · exact (item_sim H).bind fun _ _ _ h => Sim.ok h
  split
  · split
    · exact Sim.err _ _
    · exact (brick_sim H).bind fun _ _ _ h => Sim.ok h
  split
  · exact (cue_sim H).bind fun _ _ _ h => Sim.ok h
  split
  · split
    · exact Sim.err _ _
    · exact (move_sim H).bind fun _ _ _ h => Sim.ok h
  · exact (apart_sim H).bind fun _ _ _ h => Sim.ok h
theorem end_bind {α : Type} (x : α) (ts : List TokD) : (bindR (endR ts) fun _ r => (.ok (x, r) : Rd α)) = bindR (bindR (endR ts) fun _ r => (.ok ((), r) : Rd Unit)) fun _ r => .ok (x, r) := by
  cases endR ts with
  | error p => rfl
  | ok v => rfl
theorem end_sim2 {α : Type} (x : α) {ts us : List TokD} (H : Sq ts us) : Sim SqB (bindR (endR ts) fun _ r => (.ok (x, r) : Rd α)) (bindR (endR us) fun _ r => .ok (x, r)) := by
  rw [end_bind x ts, end_bind x us]
  exact (end_sim H).bind fun _ _ _ H => Sim.ok H
theorem stmt_sim (h : HouseP) (c : SheetP) {ts us : List TokD} (H : Sq ts us) : Sim SqB (stmtR h c ts) (stmtR h c us) :=
  (take_sim (by decide) H).bind fun w _ _ H => (body_sim h c _ _ _ H).bind fun x _ _ H => end_sim2 x H
theorem body_less (h : HouseP) (c : SheetP) (w : List UInt8) (p : Int × Int) (ts : List TokD) : Less (bodyR h c w p ts) (ts.length + 1) := by
  have nm : ∀ ts : List TokD, Less (nameR ts) (ts.length + 1) := fun ts => (take_less _ _ ts).mono (Nat.le_succ _)
  have nn : ∀ {α : Type} (k : Nat) (ts : List TokD) (n : Nat) (g : List Int → α), ts.length < n → Less (bindR (numsR k ts) fun a r => .ok (g a, r)) n := fun k ts n g h => ((nums_less k ts).mono h).bind fun _ _ h => Less.ok h
  unfold bodyR
  split
  · exact ((nm ts).bind fun _ r h => nn 3 r _ _ h).bind fun _ _ h => Less.ok h
  split
  · exact ((nm ts).bind fun _ r h => ((nums_less 9 r).mono h).bind fun _ r h => ((more_less _ r).mono (Nat.le_of_lt h)).bind fun _ _ h => Less.ok h).bind fun _ _ h => Less.ok h
  split
  · split
    · exact less_err
    · exact ((nm ts).bind fun _ r h => nn 6 r _ _ h).bind fun _ _ h => Less.ok h
  split
  · split
    · exact less_err
    · exact ((nm ts).bind fun _ r h => nn 2 r _ _ h).bind fun _ _ h => Less.ok h
  split
  · refine ((nm ts).bind fun _ r h => Less.bind (?_ : Less (linkR r) (ts.length + 1)) fun _ r h => nn 3 r _ _ h).bind fun _ _ h => Less.ok h
    refine ((take_less _ _ r).mono (Nat.le_of_lt h)).bind fun _ r h => ?_
    split
    · exact Less.ok h
    · exact ((nm r).mono h).bind fun _ _ h => Less.ok h
  split
  · split
    · exact less_err
    · exact ((nm ts).bind fun _ r h => nn 4 r _ _ h).bind fun _ _ h => Less.ok h
  · exact ((nm ts).bind fun _ r h => ((nm r).mono h).bind fun _ _ h => Less.ok h).bind fun _ _ h => Less.ok h
theorem stmt_less (h : HouseP) (c : SheetP) (ts : List TokD) : Less (stmtR h c ts) ts.length :=
  (take_less _ _ ts).bind fun _ r hr => ((body_less h c _ _ r).mono hr).bind fun _ r hr => ((take_less _ _ r).mono (Nat.le_of_lt hr)).bind fun _ _ hr => Less.ok hr
theorem rest_sim : ∀ (f f' : Nat) (h : HouseP) (c : SheetP) {ts us : List TokD}, ts.length < f → us.length < f' → SqB ts us → Sim SqB (restR f h c ts) (restR f' h c us)
  | 0, _, _, _, _, _, hf, _, _ => absurd hf (Nat.not_lt_zero _)
  | _ + 1, 0, _, _, _, _, _, hf, _ => absurd hf (Nat.not_lt_zero _)
  | f + 1, f' + 1, h, c, ts, us, hf, hf', H => by
    have H' : Sq (blankR ts) (blankR us) := H
    rw [restR, restR, ← H'.kind]
    split
    · exact Sim.ok H'.blank
    · have h1 := stmt_sim h c H'
      have l1 := stmt_less h c (blankR ts)
      have l2 := stmt_less h c (blankR us)
      have b1 := blankR_len ts
      have b2 := blankR_len us
      cases hx : stmtR h c (blankR ts) with
      | error p => cases hy : stmtR h c (blankR us) with
        | error q => exact trivial
        | ok v => rw [hx, hy] at h1; exact h1.elim
      | ok v => cases hy : stmtR h c (blankR us) with
        | error q => rw [hx, hy] at h1; exact h1.elim
        | ok v' =>
          obtain ⟨a, r⟩ := v
          obtain ⟨b, r'⟩ := v'
          rw [hx, hy] at h1
          obtain ⟨rfl, hr⟩ := h1
          have q1 := l1 _ _ hx
          have q2 := l2 _ _ hy
          exact rest_sim f f' a.1 a.2 (by omega) (by omega) hr
theorem head_sim {ts us : List TokD} (H : SqB ts us) : Sim SqB (headR ts) (headR us) :=
  (take_sim (by decide) H).bind fun _ _ _ H => (name_sim H).bind fun _ _ _ H => (num_sim H).bind fun _ _ _ H => end_sim2 _ H
theorem head_less (ts : List TokD) : Less (headR ts) ts.length :=
  ((take_less _ _ _).mono (blankR_len ts)).bind fun _ r hr => ((take_less _ _ r).mono (Nat.le_of_lt hr)).bind fun _ r hr => ((num_less r).mono (Nat.le_of_lt hr)).bind fun _ r hr => ((take_less _ _ r).mono (Nat.le_of_lt hr)).bind fun _ _ hr => Less.ok hr
/-- sources with the same tokens, but for places and repeated ends of lines, say the same -/
theorem read_sim {ts us : List TokD} (H : SqB ts us) : Sim SqB (readR ts) (readR us) := by
  have h1 := head_sim H
  have l1 := head_less ts
  have l2 := head_less us
  unfold readR
  cases hx : headR ts with
  | error p => cases hy : headR us with
    | error q => exact trivial
    | ok v => rw [hx, hy] at h1; exact h1.elim
  | ok v => cases hy : headR us with
    | error q => rw [hx, hy] at h1; exact h1.elim
    | ok v' =>
      obtain ⟨a, r⟩ := v
      obtain ⟨b, r'⟩ := v'
      rw [hx, hy] at h1
      obtain ⟨rfl, hr⟩ := h1
      exact rest_sim _ _ _ _ (l1 _ _ hx) (l2 _ _ hy) hr
end Go.Proofs.YtcdkhlndohokcaaGreatDoor
namespace Go.Proofs.YtcdkhlndohokcaaGreatDoor
open Go Go.Lib

/-! ### the tokens of lines, without places -/
def tk0 (k : Int) (l : List UInt8) : TokD := ⟨k, ⟨l.toArray⟩, 0, 0⟩
def cw : Wd → List TokD
  | .wd l => [tk0 1 l]
  | .num n => if n < 0 then [tk0 3 [45], tk0 2 (decDigits n.natAbs)] else [tk0 2 (itoa n)]
def cl (ws : List Wd) : List TokD := ws.flatMap cw ++ [tk0 4 []]
def ca (ls : List (List Wd)) : List TokD := ls.flatMap cl ++ [tk0 5 []]
theorem word_kt (line col : Int) (w : Wd) : (wordToks line col w).map kt = (cw w).map kt := by
  cases w with
  | wd l => rfl
  | num n =>
    simp only [wordToks, cw]
    split <;> rfl
theorem line_kt : ∀ (ws : List Wd) (line col : Int), (lineToks line col ws).map kt = (cl ws).map kt
  | [], _, _ => rfl
  | [w], line, col => by
    rw [lineToks, List.map_append, word_kt]
    simp [cl, kt, tk0]
  | w :: v :: l, line, col => by
    rw [lineToks, List.map_append, word_kt, line_kt (v :: l)]
    simp [cl]
theorem all_kt : ∀ (ls : List (List Wd)) (line : Int), (allToks line ls).map kt = (ca ls).map kt
  | [], _ => rfl
  | l :: ls, line => by
    rw [allToks, List.map_append, line_kt, all_kt ls]
    simp [ca]
theorem bs_of (l : List UInt8) : bs (⟨l.toArray⟩ : ByteArray) = l := by rw [bs_data]
theorem of_bs (b : ByteArray) : (⟨(bs b).toArray⟩ : ByteArray) = b := bs_inj (bs_of _)

/-! ### the readings -/
theorem nameR_w (b : ByteArray) (r : List TokD) : nameR (cw (nameW b) ++ r) = .ok (b, r) := by
  show takeR 1 (fun _ => true) (tk0 1 (bs b) :: r) = _
  simp only [takeR]
  rw [if_pos ⟨rfl, trivial⟩]
  simp only [tk0, of_bs]
theorem takeR_w {ok : List UInt8 → Bool} {l : List UInt8} (h : ok l = true) (r : List TokD) : takeR 1 ok (cw (.wd l) ++ r) = .ok (⟨l.toArray⟩, r) := by
  show takeR 1 ok (tk0 1 l :: r) = _
  simp only [takeR]
  rw [if_pos ⟨rfl, by simp only [tk0, bs_of]; exact h⟩]
  rfl
theorem endR_w (r : List TokD) : endR (tk0 4 [] :: r) = .ok (⟨#[]⟩, r) := by
  simp only [endR, takeR]
  rw [if_pos ⟨rfl, trivial⟩]
  rfl
def shortN (n : Int) : Prop := (decDigits n.natAbs).length ≤ 15
theorem numTok_nat (m : Nat) (h : (decDigits m).length ≤ 15) : numTok (decDigits m) = some (m : Int) := numTok_iff.2 ⟨itoaNat m, h⟩
theorem numR_w {n : Int} (h : shortN n) (r : List TokD) : numR (cw (.num n) ++ r) = .ok (n, r) := by
  simp only [cw]
  by_cases hn : n < 0
  · rw [if_pos hn]
    show numR (tk0 3 [45] :: tk0 2 (decDigits n.natAbs) :: r) = _
    simp only [numR]
    rw [if_pos (by simp [minusT, tk0, bs_of])]
    simp only [numR1]
    rw [if_pos (show (tk0 2 (decDigits n.natAbs)).kind = 2 from rfl)]
    have : numTok (bs (tk0 2 (decDigits n.natAbs)).text) = some (n.natAbs : Int) := by rw [tk0, bs_of]; exact numTok_nat _ h
    rw [this]
    simp only [if_true]
    rw [show -((n.natAbs : Nat) : Int) = n by omega]
  · rw [if_neg hn]
    show numR (tk0 2 (itoa n) :: r) = _
    obtain ⟨m, rfl⟩ : ∃ m : Nat, n = m := ⟨n.toNat, by omega⟩
    simp only [numR]
    rw [if_neg (by simp [minusT, tk0])]
    simp only [numR1]
    rw [if_pos (show (tk0 2 (itoa (m : Int))).kind = 2 from rfl)]
    have : numTok (bs (tk0 2 (itoa (m : Int))).text) = some (m : Int) := by rw [tk0, bs_of, itoaNat]; exact numTok_nat _ (by simpa [shortN] using h)
    rw [this]
    simp
theorem numsR_w : ∀ (l : List Int) (r : List TokD), (∀ n ∈ l, shortN n) → numsR l.length ((nums l).flatMap cw ++ r) = .ok (l, r)
  | [], r, _ => rfl
  | n :: l, r, h => by
    have e : (nums (n :: l)).flatMap cw ++ r = cw (.num n) ++ ((nums l).flatMap cw ++ r) := by simp [nums]
    rw [List.length_cons, nums_bind, e, numR_w (h n (by simp))]
    simp only [bindR]
    rw [numsR_w l r (fun n hn => h n (by simp [hn]))]
theorem cw_pos (w : Wd) : 0 < (cw w).length := by
  cases w with
  | wd l => simp [cw]
  | num n => simp only [cw]; split <;> simp
theorem kind_num (n : Int) (r : List TokD) : kindT (cw (.num n) ++ r) ≠ 4 := by
  simp only [cw]
  split <;> simp [kindT, tk0]
theorem moreR_w : ∀ (l : List Int) (r : List TokD) (f : Nat), l ≠ [] → l.length ≤ f → (∀ n ∈ l, shortN n) → moreR f ((nums l).flatMap cw ++ tk0 4 [] :: r) = .ok (l, tk0 4 [] :: r)
  | [], _, _, h, _, _ => absurd rfl h
  | n :: l, r, 0, _, hf, _ => by simp at hf
  | [n], r, f + 1, _, _, h => by
    have e : (nums [n]).flatMap cw ++ tk0 4 [] :: r = cw (.num n) ++ (tk0 4 [] :: r) := by simp [nums]
    rw [more_bind, e, numR_w (h n (by simp))]
    simp only [bindR]
    rw [if_pos (show kindT (tk0 4 [] :: r) = 4 from rfl)]
  | n :: m :: l, r, f + 1, _, hf, h => by
    have e : (nums (n :: m :: l)).flatMap cw ++ tk0 4 [] :: r = cw (.num n) ++ ((nums (m :: l)).flatMap cw ++ tk0 4 [] :: r) := by simp [nums]
    have e2 : (nums (m :: l)).flatMap cw ++ tk0 4 [] :: r = cw (.num m) ++ ((nums l).flatMap cw ++ tk0 4 [] :: r) := by simp [nums]
    rw [more_bind, e, numR_w (h n (by simp))]
    simp only [bindR]
    rw [if_neg (by rw [e2]; exact kind_num m _), moreR_w (m :: l) r f (by simp) (by simpa using hf) (fun n hn => h n (by simp [hn]))]
theorem nums_len (l : List Int) : l.length ≤ ((nums l).flatMap cw).length := by
  induction l with
  | nil => simp
  | cons n l ih =>
    have e : (nums (n :: l)).flatMap cw = cw (.num n) ++ (nums l).flatMap cw := by simp [nums]
    rw [e, List.length_append, List.length_cons]
    have := cw_pos (.num n)
    omega

/-! ### what can be written -/
structure SetP.fit (s : SetP) : Prop where
  name : isName s.name = true
  nums : ∀ n ∈ [s.depth, s.low, s.high, s.length, s.pipe, s.arbor, s.purchase, s.most, s.brake], shortN n
  some : s.lines ≠ []
  lines : ∀ n ∈ s.lines, shortN n
  items : ∀ x ∈ s.items, isName x.name = true ∧ ∀ n ∈ [x.place, x.width, x.weight, x.hang, x.front, x.back], shortN n
  bricks : ∀ x ∈ s.bricks, isName x.name = true ∧ ∀ n ∈ [x.weight, x.count], shortN n
structure HouseP.fit (h : HouseP) : Prop where
  name : isName h.name = true
  height : shortN h.height
  roofs : ∀ x ∈ h.roofs, isName x.name = true ∧ ∀ n ∈ [x.fro, x.til, x.most], shortN n
  sets : ∀ s ∈ h.sets, s.fit
structure CueP.fit (q : CueP) : Prop where
  name : isName q.name = true
  link : (q.link = 1 ∧ q.after = ⟨#[]⟩) ∨ ((q.link = 2 ∨ q.link = 3) ∧ isName q.after = true)
  nums : ∀ n ∈ [q.delay, q.crew, q.power], shortN n
  moves : ∀ m ∈ q.moves, isName m.set = true ∧ ∀ n ∈ [m.to, m.speed, m.rise, m.fall], shortN n
structure SheetP.fit (c : SheetP) : Prop where
  cues : ∀ q ∈ c.cues, q.fit
  apart : ∀ x ∈ c.apart, isName x.1 = true ∧ isName x.2 = true
theorem lines_fit {h : HouseP} {c : SheetP} (hh : h.fit) (hc : c.fit) : ∀ l ∈ linesP h c, ∀ w ∈ l, w.fit := by
  have hn : ∀ (l : List Int) (w : Wd), w ∈ nums l → w.fit := fun l w hw => by
    obtain ⟨n, _, rfl⟩ := List.mem_map.1 hw
    trivial
  intro l hl w hw
  simp only [linesP, List.mem_cons, List.mem_append, List.mem_map, List.mem_flatMap, setLns, cueLns] at hl
  rcases hl with rfl | ((⟨x, hx, rfl⟩ | ⟨s, hs, rfl | ⟨x, hx, rfl⟩ | ⟨x, hx, rfl⟩⟩) | ⟨q, hq, rfl | ⟨m, hm, rfl⟩⟩) | ⟨x, hx, rfl⟩
  · simp only [houseLn, List.mem_cons, List.not_mem_nil, or_false] at hw
    rcases hw with rfl | rfl | rfl
    · show isNameL wHouse = true; decide
    · exact hh.name
    · trivial
  · simp only [roofLn, List.mem_cons, List.not_mem_nil, or_false] at hw
    rcases hw with rfl | rfl | rfl | rfl | rfl
    · show isNameL wRoof = true; decide
    · exact (hh.roofs x hx).1
    all_goals trivial
  · simp only [setLn, List.mem_cons] at hw
    rcases hw with rfl | rfl | hw
    · show isNameL wSet = true; decide
    · exact (hh.sets s hs).name
    · exact hn _ _ hw
  · simp only [itemLn, List.mem_cons] at hw
    rcases hw with rfl | rfl | hw
    · show isNameL wItem = true; decide
    · exact ((hh.sets s hs).items x hx).1
    · exact hn _ _ hw
  · simp only [brickLn, List.mem_cons] at hw
    rcases hw with rfl | rfl | hw
    · show isNameL wBrick = true; decide
    · exact ((hh.sets s hs).bricks x hx).1
    · exact hn _ _ hw
  · have hq2 := hc.cues q hq
    simp only [cueLn, List.mem_cons, List.mem_append] at hw
    rcases hw with rfl | rfl | hw | hw
    · show isNameL wCue = true; decide
    · exact hq2.name
    · unfold linkW at hw
      split at hw
      · rw [List.mem_singleton] at hw; subst hw; show isNameL wManual = true; decide
      · have h3 : isName q.after = true := by
          rename_i hne
          rcases hq2.link with ⟨h, _⟩ | ⟨_, h⟩
          · exact absurd h hne
          · exact h
        split at hw
        · simp only [List.mem_cons, List.not_mem_nil, or_false] at hw
          rcases hw with rfl | rfl
          · show isNameL wFollow = true; decide
          · exact h3
        · simp only [List.mem_cons, List.not_mem_nil, or_false] at hw
          rcases hw with rfl | rfl
          · show isNameL wWith = true; decide
          · exact h3
    · exact hn _ _ hw
  · simp only [moveLn, List.mem_cons] at hw
    rcases hw with rfl | rfl | hw
    · show isNameL wMove = true; decide
    · exact ((hc.cues q hq).moves m hm).1
    · exact hn _ _ hw
  · simp only [apartLn, List.mem_cons, List.not_mem_nil, or_false] at hw
    rcases hw with rfl | rfl | rfl
    · show isNameL wApart = true; decide
    · exact (hc.apart x hx).1
    · exact (hc.apart x hx).2
end Go.Proofs.YtcdkhlndohokcaaGreatDoor
namespace Go.Proofs.YtcdkhlndohokcaaGreatDoor
open Go Go.Lib

theorem onLast_end {α : Type} (f : α → α) : ∀ (l : List α) (a : α), onLast f (l ++ [a]) = l ++ [f a]
  | [], a => rfl
  | [b], a => rfl
  | b :: c :: l, a => by
    have ih := onLast_end f (c :: l) a
    simp only [List.cons_append] at ih ⊢
    rw [onLast, ih]
theorem cl_cons (w : Wd) (ws : List Wd) (r : List TokD) : cl (w :: ws) ++ r = cw w ++ (cl ws ++ r) := by simp [cl]
theorem cl_nums (l : List Int) (r : List TokD) : cl (nums l) ++ r = (nums l).flatMap cw ++ tk0 4 [] :: r := by simp [cl]
theorem stmt_of {h : HouseP} {c : SheetP} {w : List UInt8} (hw : stmtWord w = true) {x : HouseP × SheetP} {T r : List TokD} (hb : ∀ p, bodyR h c w p T = .ok (x, tk0 4 [] :: r)) : stmtR h c (cw (.wd w) ++ T) = .ok (x, r) := by
  unfold stmtR
  rw [takeR_w hw]
  simp only [bindR, bs_of]
  rw [hb]
  simp only
  rw [endR_w]
theorem numsR_k {k : Nat} {l : List Int} {r : List TokD} (hk : l.length = k) (h : ∀ n ∈ l, shortN n) : numsR k ((nums l).flatMap cw ++ r) = .ok (l, r) := by
  subst hk
  exact numsR_w l r h
theorem stmt_roof {h : HouseP} {c : SheetP} {x : RoofD} (hx : ∀ n ∈ [x.fro, x.til, x.most], shortN n) (r : List TokD) : stmtR h c (cl (roofLn x) ++ r) = .ok (({ h with roofs := h.roofs ++ [x] }, c), r) := by
  have e : roofLn x = .wd wRoof :: nameW x.name :: nums [x.fro, x.til, x.most] := rfl
  rw [e, cl_cons]
  refine stmt_of (by decide) fun p => ?_
  rw [cl_cons, cl_nums, bodyR, if_pos rfl, roofR, nameR_w]
  simp only [bindR]
  rw [numsR_k (k := 3) (l := [x.fro, x.til, x.most]) rfl hx]
  rfl
theorem stmt_set {h : HouseP} {c : SheetP} {s : SetP} (hs : s.fit) (r : List TokD) : stmtR h c (cl (setLn s) ++ r) = .ok (({ h with sets := h.sets ++ [{ s with items := [], bricks := [] }] }, c), r) := by
  rw [setLn, cl_cons]
  refine stmt_of (by decide) fun p => ?_
  have e : cl (nums ([s.depth, s.low, s.high, s.length, s.pipe, s.arbor, s.purchase, s.most, s.brake] ++ s.lines)) ++ r = (nums [s.depth, s.low, s.high, s.length, s.pipe, s.arbor, s.purchase, s.most, s.brake]).flatMap cw ++ ((nums s.lines).flatMap cw ++ tk0 4 [] :: r) := by
    simp [cl, nums]
  rw [cl_cons, e, bodyR, if_neg (by decide), if_pos rfl, setR, nameR_w]
  simp only [bindR]
  rw [numsR_k (k := 9) (l := [s.depth, s.low, s.high, s.length, s.pipe, s.arbor, s.purchase, s.most, s.brake]) rfl hs.nums]
  simp only
  rw [moreR_w s.lines r _ hs.some (by rw [List.length_append]; have := nums_len s.lines; omega) hs.lines]
  rfl
theorem stmt_item {h : HouseP} {c : SheetP} {l : List SetP} {s : SetP} {x : ItemD} (hl : h.sets = l ++ [s]) (hx : ∀ n ∈ [x.place, x.width, x.weight, x.hang, x.front, x.back], shortN n) (r : List TokD) :
    stmtR h c (cl (itemLn x) ++ r) = .ok (({ h with sets := l ++ [{ s with items := s.items ++ [x] }] }, c), r) := by
  rw [itemLn, cl_cons]
  refine stmt_of (by decide) fun p => ?_
  rw [cl_cons, cl_nums, bodyR, if_neg (by decide), if_neg (by decide), if_pos rfl, if_neg (by rw [hl]; simp), itemR, nameR_w]
  simp only [bindR]
  rw [numsR_k (k := 6) (l := [x.place, x.width, x.weight, x.hang, x.front, x.back]) rfl hx]
  simp only
  rw [hl, onLast_end]
  rfl
theorem stmt_brick {h : HouseP} {c : SheetP} {l : List SetP} {s : SetP} {x : BrickD} (hl : h.sets = l ++ [s]) (hx : ∀ n ∈ [x.weight, x.count], shortN n) (r : List TokD) :
    stmtR h c (cl (brickLn x) ++ r) = .ok (({ h with sets := l ++ [{ s with bricks := s.bricks ++ [x] }] }, c), r) := by
  rw [brickLn, cl_cons]
  refine stmt_of (by decide) fun p => ?_
  rw [cl_cons, cl_nums, bodyR, if_neg (by decide), if_neg (by decide), if_neg (by decide), if_pos rfl, if_neg (by rw [hl]; simp), brickR, nameR_w]
  simp only [bindR]
  rw [numsR_k (k := 2) (l := [x.weight, x.count]) rfl hx]
  simp only
  rw [hl, onLast_end]
  rfl
theorem link_read {q : CueP} (hq : q.fit) (T : List TokD) : linkR ((linkW q).flatMap cw ++ T) = .ok ((q.link, q.after), T) := by
  unfold linkW
  have e1 : ∀ (w : List UInt8), ([Wd.wd w].flatMap cw ++ T) = cw (.wd w) ++ T := fun w => by simp
  have e2 : ∀ (w : List UInt8) (b : ByteArray), ([Wd.wd w, nameW b].flatMap cw ++ T) = cw (.wd w) ++ (cw (nameW b) ++ T) := fun w b => by simp
  rcases hq.link with ⟨h1, h2⟩ | ⟨h1, h2⟩
  · rw [if_pos h1, e1, linkR, takeR_w (by decide)]
    simp only [bindR, bs_of]
    rw [if_pos trivial, h1, h2]
  · rcases h1 with h1 | h1
    · rw [if_neg (by rw [h1]; decide), if_pos h1, e2, linkR, takeR_w (by decide)]
      simp only [bindR, bs_of]
      rw [if_neg (by decide), nameR_w]
      simp only [if_true]
      rw [h1]
    · rw [if_neg (by rw [h1]; decide), if_neg (by rw [h1]; decide), e2, linkR, takeR_w (by decide)]
      simp only [bindR, bs_of]
      rw [if_neg (by decide), nameR_w]
      simp only
      rw [if_neg (by decide), h1]
theorem stmt_cue {h : HouseP} {c : SheetP} {q : CueP} (hq : q.fit) (r : List TokD) : stmtR h c (cl (cueLn q) ++ r) = .ok ((h, { c with cues := c.cues ++ [{ q with moves := [] }] }), r) := by
  rw [cueLn, cl_cons]
  refine stmt_of (by decide) fun p => ?_
  have e : cl (linkW q ++ nums [q.delay, q.crew, q.power]) ++ r = (linkW q).flatMap cw ++ ((nums [q.delay, q.crew, q.power]).flatMap cw ++ tk0 4 [] :: r) := by simp [cl]
  rw [cl_cons, e, bodyR, if_neg (by decide), if_neg (by decide), if_neg (by decide), if_neg (by decide), if_pos rfl, cueR, nameR_w]
  simp only [bindR]
  rw [link_read hq]
  simp only
  rw [numsR_k (k := 3) (l := [q.delay, q.crew, q.power]) rfl hq.nums]
  rfl
theorem stmt_move {h : HouseP} {c : SheetP} {l : List CueP} {q : CueP} {m : MoveD} (hl : c.cues = l ++ [q]) (hm : ∀ n ∈ [m.to, m.speed, m.rise, m.fall], shortN n) (r : List TokD) :
    stmtR h c (cl (moveLn m) ++ r) = .ok ((h, { c with cues := l ++ [{ q with moves := q.moves ++ [m] }] }), r) := by
  rw [moveLn, cl_cons]
  refine stmt_of (by decide) fun p => ?_
  rw [cl_cons, cl_nums, bodyR, if_neg (by decide), if_neg (by decide), if_neg (by decide), if_neg (by decide), if_neg (by decide), if_pos rfl, if_neg (by rw [hl]; simp), moveR, nameR_w]
  simp only [bindR]
  rw [numsR_k (k := 4) (l := [m.to, m.speed, m.rise, m.fall]) rfl hm]
  simp only
  rw [hl, onLast_end]
  rfl
theorem stmt_apart {h : HouseP} {c : SheetP} {x : ByteArray × ByteArray} (r : List TokD) : stmtR h c (cl (apartLn x) ++ r) = .ok ((h, { c with apart := c.apart ++ [x] }), r) := by
  rw [apartLn, cl_cons]
  refine stmt_of (by decide) fun p => ?_
  have e : cl [] ++ r = tk0 4 [] :: r := rfl
  rw [cl_cons, cl_cons, e, bodyR, if_neg (by decide), if_neg (by decide), if_neg (by decide), if_neg (by decide), if_neg (by decide), if_neg (by decide), apartR, nameR_w]
  simp only [bindR]
  rw [nameR_w]

/-! ### all lines -/
theorem kind_wd (w : List UInt8) (ws : List Wd) (r : List TokD) : kindT (cl (.wd w :: ws) ++ r) = 1 ∧ blankR (cl (.wd w :: ws) ++ r) = cl (.wd w :: ws) ++ r := by
  rw [cl_cons]
  exact ⟨rfl, blankR_other (by simp [tk0])⟩
theorem rest_step {f : Nat} {h : HouseP} {c : SheetP} {w : List UInt8} {L : List Wd} {r : List TokD} {x : HouseP × SheetP} (hL : L.head? = some (.wd w)) (hs : stmtR h c (cl L ++ r) = .ok (x, r)) : restR (f + 1) h c (cl L ++ r) = restR f x.1 x.2 r := by
  cases L with
  | nil => cases hL
  | cons v ws =>
    injection hL with hL
    subst hL
    obtain ⟨h1, h2⟩ := kind_wd w ws r
    rw [restR, h2, h1, if_neg (by decide), hs]
    rfl
theorem rest_roofs : ∀ (l : List RoofD) (f : Nat) (h : HouseP) (c : SheetP) (r : List TokD), (∀ x ∈ l, ∀ n ∈ [x.fro, x.til, x.most], shortN n) →
    restR (f + l.length) h c ((l.map roofLn).flatMap cl ++ r) = restR f { h with roofs := h.roofs ++ l } c r
  | [], f, h, c, r, _ => by simp
  | x :: l, f, h, c, r, hx => by
    have e : ((x :: l).map roofLn).flatMap cl ++ r = cl (roofLn x) ++ ((l.map roofLn).flatMap cl ++ r) := by simp
    rw [e, List.length_cons, ← Nat.add_assoc, rest_step rfl (stmt_roof (hx x (by simp)) _), rest_roofs l f _ c r (fun y hy => hx y (by simp [hy]))]
    simp
theorem rest_items : ∀ (l : List ItemD) (f : Nat) (h : HouseP) (c : SheetP) (ss : List SetP) (s : SetP) (r : List TokD), (∀ x ∈ l, ∀ n ∈ [x.place, x.width, x.weight, x.hang, x.front, x.back], shortN n) → h.sets = ss ++ [s] →
    restR (f + l.length) h c ((l.map itemLn).flatMap cl ++ r) = restR f { h with sets := ss ++ [{ s with items := s.items ++ l }] } c r
  | [], f, h, c, ss, s, r, _, hs => by simp [← hs]
  | x :: l, f, h, c, ss, s, r, hx, hs => by
    have e : ((x :: l).map itemLn).flatMap cl ++ r = cl (itemLn x) ++ ((l.map itemLn).flatMap cl ++ r) := by simp
    rw [e, List.length_cons, ← Nat.add_assoc, rest_step rfl (stmt_item hs (hx x (by simp)) _), rest_items l f _ c ss _ r (fun y hy => hx y (by simp [hy])) rfl]
    simp
theorem rest_bricks : ∀ (l : List BrickD) (f : Nat) (h : HouseP) (c : SheetP) (ss : List SetP) (s : SetP) (r : List TokD), (∀ x ∈ l, ∀ n ∈ [x.weight, x.count], shortN n) → h.sets = ss ++ [s] →
    restR (f + l.length) h c ((l.map brickLn).flatMap cl ++ r) = restR f { h with sets := ss ++ [{ s with bricks := s.bricks ++ l }] } c r
  | [], f, h, c, ss, s, r, _, hs => by simp [← hs]
  | x :: l, f, h, c, ss, s, r, hx, hs => by
    have e : ((x :: l).map brickLn).flatMap cl ++ r = cl (brickLn x) ++ ((l.map brickLn).flatMap cl ++ r) := by simp
    rw [e, List.length_cons, ← Nat.add_assoc, rest_step rfl (stmt_brick hs (hx x (by simp)) _), rest_bricks l f _ c ss _ r (fun y hy => hx y (by simp [hy])) rfl]
    simp
theorem rest_moves : ∀ (l : List MoveD) (f : Nat) (h : HouseP) (c : SheetP) (qs : List CueP) (q : CueP) (r : List TokD), (∀ m ∈ l, ∀ n ∈ [m.to, m.speed, m.rise, m.fall], shortN n) → c.cues = qs ++ [q] →
    restR (f + l.length) h c ((l.map moveLn).flatMap cl ++ r) = restR f h { c with cues := qs ++ [{ q with moves := q.moves ++ l }] } r
  | [], f, h, c, qs, q, r, _, hs => by simp [← hs]
  | x :: l, f, h, c, qs, q, r, hx, hs => by
    have e : ((x :: l).map moveLn).flatMap cl ++ r = cl (moveLn x) ++ ((l.map moveLn).flatMap cl ++ r) := by simp
    rw [e, List.length_cons, ← Nat.add_assoc, rest_step rfl (stmt_move hs (hx x (by simp)) _), rest_moves l f h _ qs _ r (fun y hy => hx y (by simp [hy])) rfl]
    simp
theorem rest_sets : ∀ (l : List SetP) (f : Nat) (h : HouseP) (c : SheetP) (r : List TokD), (∀ s ∈ l, s.fit) →
    restR (f + (l.flatMap setLns).length) h c ((l.flatMap setLns).flatMap cl ++ r) = restR f { h with sets := h.sets ++ l } c r
  | [], f, h, c, r, _ => by simp
  | s :: l, f, h, c, r, hx => by
    have hs := hx s (by simp)
    have e : ((s :: l).flatMap setLns).flatMap cl ++ r = cl (setLn s) ++ ((s.items.map itemLn).flatMap cl ++ ((s.bricks.map brickLn).flatMap cl ++ ((l.flatMap setLns).flatMap cl ++ r))) := by simp [setLns]
    have n : f + ((s :: l).flatMap setLns).length = f + (l.flatMap setLns).length + s.bricks.length + s.items.length + 1 := by simp [setLns]; omega
    rw [e, n, rest_step rfl (stmt_set hs _), rest_items s.items _ _ c h.sets _ _ (fun x hx => (hs.items x hx).2) rfl, rest_bricks s.bricks _ _ c h.sets _ _ (fun x hx => (hs.bricks x hx).2) rfl, rest_sets l f _ c r (fun y hy => hx y (by simp [hy]))]
    simp
theorem rest_cues : ∀ (l : List CueP) (f : Nat) (h : HouseP) (c : SheetP) (r : List TokD), (∀ q ∈ l, q.fit) →
    restR (f + (l.flatMap cueLns).length) h c ((l.flatMap cueLns).flatMap cl ++ r) = restR f h { c with cues := c.cues ++ l } r
  | [], f, h, c, r, _ => by simp
  | q :: l, f, h, c, r, hx => by
    have hq := hx q (by simp)
    have e : ((q :: l).flatMap cueLns).flatMap cl ++ r = cl (cueLn q) ++ ((q.moves.map moveLn).flatMap cl ++ ((l.flatMap cueLns).flatMap cl ++ r)) := by simp [cueLns]
    have n : f + ((q :: l).flatMap cueLns).length = f + (l.flatMap cueLns).length + q.moves.length + 1 := by simp [cueLns]; omega
    rw [e, n, rest_step rfl (stmt_cue hq _), rest_moves q.moves _ h _ c.cues _ _ (fun x hx => (hq.moves x hx).2) rfl, rest_cues l f h _ r (fun y hy => hx y (by simp [hy]))]
    simp
theorem rest_apart : ∀ (l : List (ByteArray × ByteArray)) (f : Nat) (h : HouseP) (c : SheetP) (r : List TokD),
    restR (f + l.length) h c ((l.map apartLn).flatMap cl ++ r) = restR f h { c with apart := c.apart ++ l } r
  | [], f, h, c, r => by simp
  | x :: l, f, h, c, r => by
    have e : ((x :: l).map apartLn).flatMap cl ++ r = cl (apartLn x) ++ ((l.map apartLn).flatMap cl ++ r) := by simp
    rw [e, List.length_cons, ← Nat.add_assoc, rest_step rfl (stmt_apart _), rest_apart l f h _ r]
    simp
theorem head_read {h : HouseP} (hh : shortN h.height) (r : List TokD) : headR (cl (houseLn h) ++ r) = .ok ((h.name, h.height), r) := by
  have e0 : houseLn h = .wd wHouse :: nameW h.name :: [.num h.height] := rfl
  have e1 : cl [] ++ r = tk0 4 [] :: r := rfl
  rw [headR, e0, (kind_wd _ _ r).2, cl_cons, cl_cons, cl_cons, e1, takeR_w (by decide)]
  simp only [bindR]
  rw [nameR_w]
  simp only
  rw [numR_w hh]
  simp only
  rw [endR_w]
theorem ca_len (ls : List (List Wd)) : ls.length < (ca ls).length := by
  have key : ∀ ls : List (List Wd), ls.length ≤ (ls.flatMap cl).length := fun ls => by
    induction ls with
    | nil => simp
    | cons l ls ih => rw [List.flatMap_cons, List.length_append, List.length_cons]; have : 1 ≤ (cl l).length := by simp [cl]
                      omega
  rw [ca, List.length_append]
  have := key ls
  simp only [List.length_singleton]; omega
/-- the tokens of the lines of a house and a sheet that can be written say them -/
theorem read_canon {h : HouseP} {c : SheetP} (hh : h.fit) (hc : c.fit) : readR (ca (linesP h c)) = .ok ((h, c), [tk0 5 []]) := by
  have hlen := ca_len (linesP h c)
  have e : ca (linesP h c) = cl (houseLn h) ++ ((h.roofs.map roofLn).flatMap cl ++ ((h.sets.flatMap setLns).flatMap cl ++ ((c.cues.flatMap cueLns).flatMap cl ++ ((c.apart.map apartLn).flatMap cl ++ [tk0 5 []])))) := by
    simp [ca, linesP]
  have n : (ca (linesP h c)).length = ((((ca (linesP h c)).length - (linesP h c).length - 1 + 1 + 1) + c.apart.length) + (c.cues.flatMap cueLns).length + (h.sets.flatMap setLns).length) + h.roofs.length := by
    have : (linesP h c).length = 1 + h.roofs.length + (h.sets.flatMap setLns).length + (c.cues.flatMap cueLns).length + c.apart.length := by
      simp only [linesP, List.length_cons, List.length_append, List.length_map]; omega
    omega
  unfold readR
  rw [n]
  conv => lhs; rw [e]
  rw [head_read hh.height]
  simp only [bindR]
  rw [rest_roofs _ _ _ _ _ (fun x hx => (hh.roofs x hx).2), rest_sets _ _ _ _ _ hh.sets, rest_cues _ _ _ _ _ hc.cues, rest_apart, restR]
  rw [if_pos (by rw [blankR_other (by simp [tk0])]; rfl), blankR_other (by simp [tk0])]
  simp
/-- the text of a house and a sheet that can be written is read back -/
theorem read_text {h : HouseP} {c : SheetP} (hh : h.fit) (hc : c.fit) : toks (textP h c) = .good (allToks 1 (linesP h c)) ∧ ∃ r, readR (allToks 1 (linesP h c)) = .ok ((h, c), r) := by
  refine ⟨toks_text (lines_fit hh hc), ?_⟩
  have h1 := read_sim (Sq.same (all_kt (linesP h c) 1)).blank
  rw [read_canon hh hc] at h1
  cases hx : readR (allToks 1 (linesP h c)) with
  | error p => rw [hx] at h1; exact h1.elim
  | ok v =>
    rw [hx] at h1
    obtain ⟨a, r⟩ := v
    obtain ⟨rfl, _⟩ := h1
    exact ⟨r, rfl⟩
end Go.Proofs.YtcdkhlndohokcaaGreatDoor
namespace Go.Proofs.YtcdkhlndohokcaaGreatDoor
open Go Go.Lib

/-- the tokens end with the end of the text -/
def Last5 (ts : List TokD) : Prop := ∃ p e, ts = p ++ [e] ∧ e.kind = 5
theorem Last5.tail {t : TokD} {r : List TokD} (h : Last5 (t :: r)) (hk : t.kind ≠ 5) : Last5 r := by
  obtain ⟨p, e, h1, h2⟩ := h
  cases p with
  | nil =>
    simp only [List.nil_append, List.cons.injEq] at h1
    rw [h1.1] at hk
    exact absurd h2 hk
  | cons a p =>
    simp only [List.cons_append, List.cons.injEq] at h1
    exact ⟨p, e, h1.2, h2⟩
theorem Last5.ne {ts : List TokD} (h : Last5 ts) : ts ≠ [] := by
  obtain ⟨p, e, h1, _⟩ := h
  rw [h1]; simp
/-- a reading of these tokens takes some off the front, or stops at one of them -/
def Gd {α : Type} (ts : List TokD) (x : Rd α) : Prop :=
  Last5 ts → match x with
    | .ok (_, r) => (∃ p, ts = p ++ r) ∧ Last5 r
    | .error q => ∃ t ∈ ts, q = (t.line, t.col)
theorem Gd.bind_eq {α β : Type} {ts : List TokD} {x : Rd α} {f : α → List TokD → Rd β} (h : Gd ts x) (hf : ∀ a r, x = .ok (a, r) → Gd r (f a r)) : Gd ts (bindR x f) := by
  intro hl
  have h1 := h hl
  cases x with
  | error q => exact h1
  | ok v =>
    obtain ⟨a, r⟩ := v
    obtain ⟨⟨p, hp⟩, hr⟩ := h1
    have h2 := hf a r rfl hr
    simp only [bindR]
    cases hy : f a r with
    | error q =>
      rw [hy] at h2
      obtain ⟨t, ht, hq⟩ := h2
      exact ⟨t, by rw [hp]; exact List.mem_append_right _ ht, hq⟩
    | ok v =>
      rw [hy] at h2
      obtain ⟨b, r'⟩ := v
      obtain ⟨⟨p', hp'⟩, hr'⟩ := h2
      exact ⟨⟨p ++ p', by rw [hp, hp', List.append_assoc]⟩, hr'⟩
theorem Gd.bind {α β : Type} {ts : List TokD} {x : Rd α} {f : α → List TokD → Rd β} (h : Gd ts x) (hf : ∀ a r, Gd r (f a r)) : Gd ts (bindR x f) := h.bind_eq fun a r _ => hf a r
theorem Gd.ok {α : Type} {a : α} {r : List TokD} : Gd r (.ok (a, r)) := fun h => ⟨⟨[], rfl⟩, h⟩
theorem Gd.here {α : Type} {t : TokD} {r : List TokD} : Gd (α := α) (t :: r) (.error (t.line, t.col)) := fun _ => ⟨t, by simp, rfl⟩
theorem Gd.none_ {α : Type} {x : Rd α} : Gd [] x := fun h => absurd rfl h.ne
theorem Gd.next {α : Type} {a : α} {t : TokD} {r : List TokD} (hk : t.kind ≠ 5) : Gd (t :: r) (.ok (a, r)) := fun h => ⟨⟨[t], rfl⟩, h.tail hk⟩
theorem take_gd {k : Int} (hk : k ≠ 5) (ok : List UInt8 → Bool) (ts : List TokD) : Gd ts (takeR k ok ts) := by
  cases ts with
  | nil => exact Gd.none_
  | cons t r =>
    simp only [takeR]
    split
    · rename_i h; exact Gd.next (by rw [h.1]; exact hk)
    · exact Gd.here
theorem num1_gd (neg : Bool) (ts : List TokD) : Gd ts (numR1 neg ts) := by
  cases ts with
  | nil => exact Gd.none_
  | cons t r =>
    simp only [numR1]
    split
    · rename_i h
      split
      · exact Gd.next (by rw [h]; decide)
      · exact Gd.here
    · exact Gd.here
theorem Gd.cons {α : Type} {t : TokD} {r : List TokD} {x : Rd α} (hk : t.kind ≠ 5) (h : Gd r x) : Gd (t :: r) x := by
  intro hl
  have h1 := h (hl.tail hk)
  cases x with
  | error q =>
    obtain ⟨u, hu, hq⟩ := h1
    exact ⟨u, by simp [hu], hq⟩
  | ok v =>
    obtain ⟨a, r'⟩ := v
    obtain ⟨⟨p, hp⟩, hr⟩ := h1
    exact ⟨⟨t :: p, by rw [hp]; rfl⟩, hr⟩
theorem num_gd (ts : List TokD) : Gd ts (numR ts) := by
  cases ts with
  | nil => exact Gd.none_
  | cons t r =>
    simp only [numR]
    split
    · rename_i h
      simp only [minusT, Bool.and_eq_true, decide_eq_true_eq] at h
      exact Gd.cons (by rw [h.1]; decide) (num1_gd true r)
    · exact num1_gd false (t :: r)
theorem nums_gd : ∀ (k : Nat) (ts : List TokD), Gd ts (numsR k ts)
  | 0, ts => Gd.ok
  | k + 1, ts => by
    rw [nums_bind]
    exact (num_gd ts).bind fun n r => (nums_gd k r).bind fun l r => Gd.ok
theorem name_gd (ts : List TokD) : Gd ts (nameR ts) := take_gd (by decide) _ ts
theorem end_gd (ts : List TokD) : Gd ts (endR ts) := take_gd (by decide) _ ts
theorem more_gd : ∀ (f : Nat) (ts : List TokD), ts.length ≤ f → Gd ts (moreR f ts)
  | 0, ts, h => by
    cases ts with
    | nil => exact Gd.none_
    | cons t r => simp at h
  | f + 1, ts, h => by
    have l1 := num_less ts
    rw [more_bind]
    refine (num_gd ts).bind_eq fun n r hx => ?_
    have hlt := l1 _ _ hx
    split
    · exact Gd.ok
    · exact (more_gd f r (by omega)).bind fun l r => Gd.ok
theorem link_gd (ts : List TokD) : Gd ts (linkR ts) := (take_gd (by decide) _ ts).bind fun w r => by
  split
  · exact Gd.ok
  · exact (name_gd r).bind fun _ _ => Gd.ok
theorem body_gd (h : HouseP) (c : SheetP) (w : List UInt8) {t : TokD} {p : Int × Int} (ts : List TokD) (hp : p = (t.line, t.col)) (ht : t.kind ≠ 5) : Gd (t :: ts) (bodyR h c w p ts) := by
  have nn : ∀ {α : Type} (k : Nat) (ts : List TokD) (g : ByteArray → List Int → α), Gd ts (bindR (nameR ts) fun nm r => bindR (numsR k r) fun a r => .ok (g nm a, r)) := fun k ts g => (name_gd ts).bind fun _ r => (nums_gd k r).bind fun _ _ => Gd.ok
  have er : ∀ {α : Type}, Gd (α := α) (t :: ts) (.error p) := by intro α; rw [hp]; exact Gd.here
  unfold bodyR
  split
  · exact Gd.cons ht ((nn 3 ts _).bind fun _ _ => Gd.ok)
  split
  · exact Gd.cons ht (((name_gd ts).bind fun _ r => (nums_gd 9 r).bind fun _ r => (more_gd _ r (Nat.le_refl _)).bind fun _ _ => Gd.ok).bind fun _ _ => Gd.ok)
  split
  · split
    · exact er
    · exact Gd.cons ht ((nn 6 ts _).bind fun _ _ => Gd.ok)
  split
  · split
    · exact er
    · exact Gd.cons ht ((nn 2 ts _).bind fun _ _ => Gd.ok)
  split
  · exact Gd.cons ht (((name_gd ts).bind fun _ r => (link_gd r).bind fun _ r => (nums_gd 3 r).bind fun _ _ => Gd.ok).bind fun _ _ => Gd.ok)
  split
  · split
    · exact er
    · exact Gd.cons ht ((nn 4 ts _).bind fun _ _ => Gd.ok)
  · exact Gd.cons ht (((name_gd ts).bind fun _ r => (name_gd r).bind fun _ _ => Gd.ok).bind fun _ _ => Gd.ok)
theorem stmt_gd (h : HouseP) (c : SheetP) (ts : List TokD) : Gd ts (stmtR h c ts) := by
  cases ts with
  | nil => exact Gd.none_
  | cons t r =>
    unfold stmtR
    simp only [takeR]
    split
    · rename_i hk
      simp only [bindR]
      exact (body_gd h c _ r (show posT (t :: r) = (t.line, t.col) from rfl) (by rw [hk.1]; decide)).bind fun x r => (end_gd r).bind fun _ _ => Gd.ok
    · exact Gd.here
theorem blank_gd : ∀ ts : List TokD, Last5 ts → (∃ p, ts = p ++ blankR ts) ∧ Last5 (blankR ts)
  | [], h => absurd rfl h.ne
  | t :: r, h => by
    by_cases hk : t.kind = 4
    · rw [blankR_line hk]
      obtain ⟨⟨p, hp⟩, h2⟩ := blank_gd r (h.tail (by rw [hk]; decide))
      exact ⟨⟨t :: p, by rw [List.cons_append, ← hp]⟩, h2⟩
    · rw [blankR_other hk]
      exact ⟨⟨[], rfl⟩, h⟩
theorem Gd.blank {α : Type} {ts : List TokD} {x : Rd α} (h : Gd (blankR ts) x) : Gd ts x := by
  intro hl
  obtain ⟨⟨p, hp⟩, h2⟩ := blank_gd ts hl
  have h1 := h h2
  cases x with
  | error q =>
    obtain ⟨t, ht, hq⟩ := h1
    exact ⟨t, by rw [hp]; exact List.mem_append_right _ ht, hq⟩
  | ok v =>
    obtain ⟨a, r⟩ := v
    obtain ⟨⟨p', hp'⟩, hr⟩ := h1
    exact ⟨⟨p ++ p', by rw [List.append_assoc, ← hp', ← hp]⟩, hr⟩
theorem rest_gd : ∀ (f : Nat) (h : HouseP) (c : SheetP) (ts : List TokD), ts.length < f → Gd ts (restR f h c ts)
  | 0, _, _, _, hf => absurd hf (Nat.not_lt_zero _)
  | f + 1, h, c, ts, hf => by
    have hb := blankR_len ts
    rw [restR]
    refine Gd.blank ?_
    split
    · exact Gd.ok
    · refine (stmt_gd h c (blankR ts)).bind_eq fun x r hx => rest_gd f x.1 x.2 r ?_
      have := stmt_less h c (blankR ts) x r hx
      omega
theorem head_gd (ts : List TokD) : Gd ts (headR ts) := Gd.blank ((take_gd (by decide) _ _).bind fun _ r => (name_gd r).bind fun _ r => (num_gd r).bind fun _ r => (end_gd r).bind fun _ _ => Gd.ok)
theorem read_gd (ts : List TokD) : Gd ts (readR ts) :=
  (head_gd ts).bind_eq fun x r hx => rest_gd _ _ _ r (head_less ts x r hx)
end Go.Proofs.YtcdkhlndohokcaaGreatDoor
namespace Go.Proofs.YtcdkhlndohokcaaGreatDoor
open Go Go.Lib

/-! ### kinds and texts alone -/
def ktF : Nat → List UInt8 → Option (List (Int × List UInt8))
  | 0, _ => none
  | _ + 1, [] => some []
  | f + 1, c :: l =>
    match nextTk (c :: l) with
    | .blank n => ktF f ((c :: l).drop n)
    | .line => (ktF f l).map ((4, []) :: ·)
    | .tok k n => (ktF f ((c :: l).drop n)).map ((k, (c :: l).take n) :: ·)
    | .bad => none
theorem nextTk_pos {c : UInt8} {l : List UInt8} {n : Nat} (h : nextTk (c :: l) = .blank n) : 1 ≤ n := by
  rw [nextTk] at h
  split at h
  · injection h with h; omega
  split at h
  · cases h
  split at h
  · injection h with h
    rename_i h1 h2 h3
    subst h3
    rw [← h, comLen, if_neg (by decide)]
    omega
  split at h
  · split at h <;> cases h
  split at h
  · cases h
  split at h <;> cases h
theorem nextTk_tok {c : UInt8} {l : List UInt8} {k : Int} {n : Nat} (h : nextTk (c :: l) = .tok k n) : 1 ≤ n ∧ n ≤ (c :: l).length := by
  rw [nextTk] at h
  split at h
  · cases h
  split at h
  · cases h
  split at h
  · cases h
  split at h
  · rename_i hl
    split at h
    · injection h with _ h
      subst h
      exact ⟨wordLen_pos hl, wordLen_le _⟩
    · cases h
  split at h
  · rename_i hd
    injection h with _ h
    subst h
    exact ⟨numLen_pos hd, numLen_le _⟩
  split at h
  · cases h
  · rename_i hs
    injection h with _ h
    subst h
    exact ⟨by omega, symLen_le⟩
/-- the tokens' kinds and texts are these, whatever the places -/
theorem toksF_kt : ∀ (f : Nat) (acc : List TokD) (l : List UInt8) (line col : Int), l.length < f →
    (∀ K, ktF f l = some K → ∃ L, toksF f acc l line col = .good L ∧ L.map kt = acc.map kt ++ K ++ [(5, [])]) ∧ (ktF f l = none → ∃ a b, toksF f acc l line col = .bad a b)
  | 0, _, _, _, _, h => absurd h (Nat.not_lt_zero _)
  | f + 1, acc, [], line, col, _ => by
    refine ⟨fun K hK => ?_, fun h => ?_⟩
    · rw [ktF] at hK
      injection hK with hK
      subst hK
      exact ⟨_, rfl, by simp [kt, bs_of]⟩
    · rw [ktF] at h; cases h
  | f + 1, acc, c :: l, line, col, hf => by
    have hl : l.length < f := by simpa using hf
    rw [ktF, toksF]
    cases hk : nextTk (c :: l) with
    | blank n =>
      have := nextTk_pos hk
      exact toksF_kt f acc _ line _ (by rw [List.length_drop, List.length_cons]; omega)
    | bad => exact ⟨fun K h => (by cases h), fun _ => ⟨_, _, rfl⟩⟩
    | line =>
      obtain ⟨h1, h2⟩ := toksF_kt f (acc ++ [⟨4, ⟨#[]⟩, line, col⟩]) l (line + 1) 1 hl
      refine ⟨fun K h => ?_, fun h => ?_⟩
      · simp only [Option.map_eq_some_iff] at h
        obtain ⟨K', hK, rfl⟩ := h
        obtain ⟨L, h3, h4⟩ := h1 K' hK
        refine ⟨L, h3, ?_⟩
        rw [h4]
        simp [kt, bs_of]
      · simp only [Option.map_eq_none_iff] at h
        exact h2 h
    | tok k n =>
      obtain ⟨q1, q2⟩ := nextTk_tok hk
      obtain ⟨h1, h2⟩ := toksF_kt f (acc ++ [⟨k, ⟨((c :: l).take n).toArray⟩, line, col⟩]) ((c :: l).drop n) line (col + n) (by rw [List.length_drop, List.length_cons]; omega)
      refine ⟨fun K h => ?_, fun h => ?_⟩
      · simp only [Option.map_eq_some_iff] at h
        obtain ⟨K', hK, rfl⟩ := h
        obtain ⟨L, h3, h4⟩ := h1 K' hK
        refine ⟨L, h3, ?_⟩
        rw [h4]
        simp [kt, bs_of]
      · simp only [Option.map_eq_none_iff] at h
        exact h2 h
theorem ktF_fuel : ∀ (f f' : Nat) (l : List UInt8), l.length < f → l.length < f' → ktF f l = ktF f' l
  | 0, _, _, h, _ => absurd h (Nat.not_lt_zero _)
  | _ + 1, 0, _, _, h => absurd h (Nat.not_lt_zero _)
  | f + 1, f' + 1, [], _, _ => rfl
  | f + 1, f' + 1, c :: l, h, h' => by
    have hl : l.length < f := by simpa using h
    have hl' : l.length < f' := by simpa using h'
    rw [ktF, ktF]
    cases hk : nextTk (c :: l) with
    | bad => rfl
    | line => simp only; rw [ktF_fuel f f' l hl hl']
    | blank n =>
      have := nextTk_pos hk
      exact ktF_fuel f f' _ (by rw [List.length_drop, List.length_cons]; omega) (by rw [List.length_drop, List.length_cons]; omega)
    | tok k n =>
      obtain ⟨q1, q2⟩ := nextTk_tok hk
      simp only
      rw [ktF_fuel f f' _ (by rw [List.length_drop, List.length_cons]; omega) (by rw [List.length_drop, List.length_cons]; omega)]
def kts (l : List UInt8) : Option (List (Int × List UInt8)) := ktF (l.length + 1) l
theorem toks_good {l : List UInt8} {K : List (Int × List UInt8)} (h : kts l = some K) : ∃ L, toks l = .good L ∧ L.map kt = K ++ [(5, [])] := by
  obtain ⟨L, h1, h2⟩ := (toksF_kt _ [] l 1 1 (Nat.lt_succ_self _)).1 K h
  exact ⟨L, h1, by simpa using h2⟩
theorem toks_bad {l : List UInt8} (h : kts l = none) : ∃ a b, toks l = .bad a b := (toksF_kt _ [] l 1 1 (Nat.lt_succ_self _)).2 h
theorem kts_nil : kts [] = some [] := rfl
theorem kts_blank {c : UInt8} {l : List UInt8} {n : Nat} (h : nextTk (c :: l) = .blank n) : kts (c :: l) = kts ((c :: l).drop n) := by
  have := nextTk_pos h
  rw [kts, ktF, h]
  exact ktF_fuel _ _ _ (by rw [List.length_drop, List.length_cons]; omega) (Nat.lt_succ_self _)
theorem kts_line {c : UInt8} {l : List UInt8} (h : nextTk (c :: l) = .line) : kts (c :: l) = (kts l).map ((4, []) :: ·) := by
  rw [kts, ktF, h]
  rfl
theorem kts_tok {c : UInt8} {l : List UInt8} {k : Int} {n : Nat} (h : nextTk (c :: l) = .tok k n) : kts (c :: l) = (kts ((c :: l).drop n)).map ((k, (c :: l).take n) :: ·) := by
  obtain ⟨q1, q2⟩ := nextTk_tok h
  rw [kts, ktF, h]
  simp only
  rw [kts, ktF_fuel _ _ _ (by rw [List.length_drop, List.length_cons]; omega) (Nat.lt_succ_self _)]
theorem kts_bad {c : UInt8} {l : List UInt8} (h : nextTk (c :: l) = .bad) : kts (c :: l) = none := by
  rw [kts, ktF, h]

/-! ### the wide text -/
/-- what stands in the place of a line's end -/
def sepL (cm : List UInt8) : List UInt8 := 32 :: 9 :: 32 :: 35 :: 32 :: (cm ++ [10, 10, 32, 32, 32, 10])
def replL (cm : List UInt8) : List UInt8 → List UInt8
  | [] => []
  | c :: l => if c = 10 then sepL cm ++ replL cm l else c :: replL cm l
def wideL (cm l : List UInt8) : List UInt8 := 10 :: 35 :: (cm ++ 10 :: replL cm l)
def rep3 (K : List (Int × List UInt8)) : List (Int × List UInt8) := K.flatMap fun x => if x.1 = 4 then [x, x, x] else [x]
theorem comLen_stop : ∀ (p r : List UInt8), (∀ c ∈ p, c ≠ 10) → comLen (p ++ 10 :: r) = p.length
  | [], r, _ => by simp [comLen]
  | c :: p, r, h => by
    rw [List.cons_append, comLen, if_neg (h c (by simp)), comLen_stop p r (fun d hd => h d (by simp [hd]))]
    simp
theorem kts_three (r : List UInt8) : kts (10 :: 10 :: 32 :: 32 :: 32 :: 10 :: r) = (kts r).map fun K => (4, []) :: (4, []) :: (4, []) :: K := by
  rw [kts_line (by rfl), kts_line (by rfl), kts_blank (n := 1) (by rfl)]
  show ((kts (32 :: 32 :: 10 :: r)).map _).map _ = _
  rw [kts_blank (n := 1) (by rfl)]
  show ((kts (32 :: 10 :: r)).map _).map _ = _
  rw [kts_blank (n := 1) (by rfl)]
  show ((kts (10 :: r)).map _).map _ = _
  rw [kts_line (by rfl)]
  cases kts r <;> rfl
theorem kts_comment {p r : List UInt8} (h : ∀ c ∈ p, c ≠ 10) : kts (35 :: (p ++ 10 :: r)) = kts (10 :: r) := by
  have e : comLen (35 :: (p ++ 10 :: r)) = p.length + 1 := by
    rw [← List.cons_append, comLen_stop (35 :: p) r (fun c hc => by
      rcases List.mem_cons.1 hc with rfl | hc
      · decide
      · exact h c hc)]
    rfl
  rw [kts_blank (n := p.length + 1) (by rw [nextTk, if_neg (by decide), if_neg (by decide), if_pos rfl, e]), List.drop_succ_cons, List.drop_left]
theorem kts_sep {cm r : List UInt8} (h : ∀ c ∈ cm, c ≠ 10) : kts (sepL cm ++ r) = (kts r).map fun K => (4, []) :: (4, []) :: (4, []) :: K := by
  have e : sepL cm ++ r = 32 :: 9 :: 32 :: 35 :: ((32 :: cm) ++ 10 :: (10 :: 32 :: 32 :: 32 :: 10 :: r)) := by simp [sepL]
  rw [e, kts_blank (n := 1) (by rfl)]
  show kts (9 :: 32 :: 35 :: _) = _
  rw [kts_blank (n := 1) (by rfl)]
  show kts (32 :: 35 :: _) = _
  rw [kts_blank (n := 1) (by rfl)]
  show kts (35 :: _) = _
  rw [kts_comment (fun c hc => by
    rcases List.mem_cons.1 hc with rfl | hc
    · decide
    · exact h c hc)]
  exact kts_three r
theorem replL_head (cm : List UInt8) (l : List UInt8) : (replL cm l).head? = l.head?.map fun c => if c = 10 then 32 else c := by
  cases l with
  | nil => rfl
  | cons c l =>
    simp only [replL, List.head?_cons, Option.map_some]
    split <;> rfl
theorem replL_prefix (cm : List UInt8) : ∀ (n : Nat) (l : List UInt8), (∀ x ∈ l.take n, x ≠ 10) → replL cm l = l.take n ++ replL cm (l.drop n)
  | 0, l, _ => by simp
  | n + 1, [], _ => by simp [replL]
  | n + 1, c :: l, h => by
    rw [List.take_succ_cons] at h
    rw [List.take_succ_cons, List.drop_succ_cons, replL, if_neg (h c (by simp)), replL_prefix cm n l (fun x hx => h x (by simp [hx]))]
    rfl
theorem wordLen_repl (cm : List UInt8) : ∀ l : List UInt8, wordLen (replL cm l) = wordLen l
  | [] => rfl
  | c :: l => by
    rw [replL]
    by_cases h : c = 10
    · subst h
      rw [if_pos rfl]
      rfl
    · rw [if_neg h, wordLen, wordLen, wordLen_repl cm l]
theorem digLen_repl (cm : List UInt8) : ∀ l : List UInt8, digLen (replL cm l) = digLen l
  | [] => rfl
  | c :: l => by
    rw [replL]
    by_cases h : c = 10
    · subst h
      rw [if_pos rfl]
      rfl
    · rw [if_neg h, digLen, digLen, digLen_repl cm l]
theorem word_clean : ∀ (l : List UInt8), ∀ x ∈ l.take (wordLen l), x ≠ 10
  | [], x, h => by simp at h
  | c :: l, x, h => by
    rw [wordLen] at h
    split at h
    · rename_i hc
      rw [List.take_succ_cons] at h
      rcases List.mem_cons.1 h with rfl | h
      · intro e; subst e; revert hc; decide
      · exact word_clean l x h
    · simp at h
theorem dig_clean : ∀ (l : List UInt8), ∀ x ∈ l.take (digLen l), x ≠ 10
  | [], x, h => by simp at h
  | c :: l, x, h => by
    rw [digLen] at h
    split at h
    · rename_i hc
      rw [List.take_succ_cons] at h
      rcases List.mem_cons.1 h with rfl | h
      · intro e; subst e; revert hc; decide
      · exact dig_clean l x h
    · simp at h
theorem take_len {l : List UInt8} {n : Nat} (h : n ≤ l.length) : (l.take n).length = n := by rw [List.length_take]; omega
theorem point_at (p x : List UInt8) : pointAt (p ++ x) p.length = pointAt x 0 := by
  unfold pointAt
  rw [List.getElem?_append_right (Nat.le_refl _), List.getElem?_append_right (by omega), Nat.sub_self, show p.length + 1 - p.length = 0 + 1 by omega]
theorem point_repl (cm : List UInt8) (m : List UInt8) : pointAt (replL cm m) 0 = pointAt m 0 := by
  cases m with
  | nil => rfl
  | cons c m =>
    by_cases h : c = 10
    · subst h
      rw [replL, if_pos rfl]
      unfold pointAt
      rfl
    · rw [replL, if_neg h]
      unfold pointAt
      have hh := replL_head cm m
      have e1 : ∀ (a : UInt8) (l : List UInt8), (a :: l)[0]? = some a := fun _ _ => rfl
      have e2 : ∀ (a : UInt8) (l : List UInt8), (a :: l)[0 + 1]? = l.head? := fun a l => by rw [List.getElem?_cons_succ, List.head?_eq_getElem?]
      rw [e1, e1, e2, e2, hh]
      cases m with
      | nil => rfl
      | cons d m =>
        simp only [List.head?_cons, Option.map_some]
        by_cases hd : d = 10
        · subst hd; rfl
        · rw [if_neg hd]
theorem num_clean (l : List UInt8) : ∀ x ∈ l.take (numLen l), x ≠ 10 := by
  unfold numLen
  split
  · rename_i hp
    have h1 := digLen_le l
    unfold pointAt at hp
    rw [Bool.and_eq_true, beq_iff_eq] at hp
    obtain ⟨hlt, e46⟩ := List.getElem?_eq_some_iff.1 hp.1
    have e : l.take (digLen l + 1 + digLen (l.drop (digLen l + 1))) = l.take (digLen l) ++ 46 :: (l.drop (digLen l + 1)).take (digLen (l.drop (digLen l + 1))) := by
      rw [List.take_add, List.take_succ_eq_append_getElem hlt, e46, List.append_assoc]
      rfl
    rw [e]
    intro x hx
    rcases List.mem_append.1 hx with hx | hx
    · exact dig_clean l x hx
    · rcases List.mem_cons.1 hx with rfl | hx
      · decide
      · exact dig_clean _ x hx
  · exact dig_clean l
theorem drop_app {p x : List UInt8} {n : Nat} (h : p.length = n) : (p ++ x).drop n = x := by rw [← h, List.drop_left]
theorem num_repl (cm : List UInt8) (l : List UInt8) : numLen (replL cm l) = numLen l := by
  have h1 := digLen_le l
  have hp := replL_prefix cm (digLen l) l (dig_clean l)
  have hpt : pointAt (replL cm l) (digLen l) = pointAt l (digLen l) := by
    have a1 := point_at (l.take (digLen l)) (replL cm (l.drop (digLen l)))
    have a2 := point_at (l.take (digLen l)) (l.drop (digLen l))
    rw [take_len h1, ← hp] at a1
    rw [take_len h1, List.take_append_drop] at a2
    rw [a1, a2, point_repl]
  unfold numLen
  rw [digLen_repl, hpt]
  split
  · rename_i hq
    unfold pointAt at hq
    rw [Bool.and_eq_true, beq_iff_eq] at hq
    obtain ⟨hlt, e46⟩ := List.getElem?_eq_some_iff.1 hq.1
    have hp2 := replL_prefix cm (digLen l + 1) l (fun x hx => by
      rw [List.take_succ_eq_append_getElem hlt, e46] at hx
      rcases List.mem_append.1 hx with hx | hx
      · exact dig_clean l x hx
      · rw [List.mem_singleton] at hx; subst hx; decide)
    have hd : (replL cm l).drop (digLen l + 1) = replL cm (l.drop (digLen l + 1)) := by
      conv => lhs; rw [hp2]
      exact drop_app (take_len (by omega))
    rw [hd, digLen_repl]
  · rfl
theorem sym_repl (cm : List UInt8) (c : UInt8) (l : List UInt8) : symLen (c :: replL cm l) = symLen (c :: l) := by
  have hh := replL_head cm l
  have key : ∀ (a : UInt8), [a, 61].isPrefixOf (c :: replL cm l) = [a, 61].isPrefixOf (c :: l) := fun a => by
    cases l with
    | nil => rfl
    | cons d l =>
      rw [replL]
      by_cases hd : d = 10
      · subst hd
        rw [if_pos rfl]
        simp [List.isPrefixOf, sepL]
      · rw [if_neg hd]
        simp [List.isPrefixOf]
  unfold symLen twoB
  rw [key, key, key]
  rfl
theorem sym_clean {c : UInt8} (hc : c ≠ 10) (l : List UInt8) : ∀ x ∈ (c :: l).take (symLen (c :: l)), x ≠ 10 := by
  unfold symLen
  split
  · rename_i h
    unfold twoB at h
    cases l with
    | nil => simp [List.isPrefixOf] at h
    | cons d l =>
      simp only [List.isPrefixOf, Bool.or_eq_true, Bool.and_eq_true, beq_iff_eq, Bool.and_true] at h
      have hd : d = 61 := by rcases h with (h | h) | h <;> simp_all
      intro x hx
      simp only [List.take_succ_cons, List.take_zero, List.mem_cons, List.not_mem_nil, or_false] at hx
      rcases hx with rfl | rfl
      · exact hc
      · rw [hd]; decide
  · split
    · intro x hx
      simp only [List.take_succ_cons, List.take_zero, List.mem_cons, List.not_mem_nil, or_false] at hx
      subst hx; exact hc
    · simp
/-- a token of a text is a token of the wide text -/
theorem nextTk_repl (cm : List UInt8) {c : UInt8} {l : List UInt8} (hc : c ≠ 10) (h35 : c ≠ 35) : nextTk (c :: replL cm l) = nextTk (c :: l) ∧ ∀ k n, nextTk (c :: l) = .tok k n → ∀ x ∈ (c :: l).take n, x ≠ 10 := by
  have e : c :: replL cm l = replL cm (c :: l) := by rw [replL, if_neg hc]
  have hw := wordLen_repl cm (c :: l)
  have hn := num_repl cm (c :: l)
  have hs := sym_repl cm c l
  rw [← e] at hw hn
  constructor
  · rw [nextTk, nextTk]
    rw [hw, hn, hs]
    simp only [if_neg hc, if_neg h35]
  · intro k n h
    rw [nextTk] at h
    rw [if_neg hc, if_neg h35] at h
    split at h
    · cases h
    split at h
    · split at h
      · injection h with _ h; subst h; exact word_clean _
      · cases h
    split at h
    · injection h with _ h; subst h; exact num_clean _
    split at h
    · cases h
    · injection h with _ h; subst h; exact sym_clean hc l
theorem rep3_cons (k : Int) (t : List UInt8) (h : k ≠ 4) (K : List (Int × List UInt8)) : rep3 ((k, t) :: K) = (k, t) :: rep3 K := by
  rw [rep3, List.flatMap_cons, if_neg h]; rfl
theorem rep3_line (K : List (Int × List UInt8)) : rep3 ((4, []) :: K) = (4, []) :: (4, []) :: (4, []) :: rep3 K := by
  rw [rep3, List.flatMap_cons, if_pos rfl]; rfl
theorem tok_kind {l : List UInt8} {k : Int} {n : Nat} (h : nextTk l = .tok k n) : k ≠ 4 := by
  cases l with
  | nil => cases h
  | cons c l =>
    rw [nextTk] at h
    split at h
    · cases h
    split at h
    · cases h
    split at h
    · cases h
    split at h
    · split at h
      · injection h with h _; subst h; decide
      · cases h
    split at h
    · injection h with h _; subst h; decide
    split at h
    · cases h
    · injection h with h _; subst h; decide
/-- the tokens of the wide text: each end of a line three times -/
theorem kts_repl {cm : List UInt8} (hcm : ∀ c ∈ cm, c ≠ 10) : ∀ (n : Nat) (l : List UInt8), l.length ≤ n → kts (replL cm l) = (kts l).map rep3
  | _, [], _ => rfl
  | 0, _ :: _, h => by simp at h
  | n + 1, c :: l, h => by
    have hl : l.length ≤ n := by simpa using h
    by_cases h10 : c = 10
    · subst h10
      rw [replL, if_pos rfl, kts_sep hcm, kts_repl hcm n l hl, kts_line (c := 10) (by rfl)]
      cases kts l with
      | none => rfl
      | some K => simp [rep3_line]
    · by_cases h35 : c = 35
      · subst h35
        -- a comment: to the end of the line
        have hcl := comLen_le l
        have hp := replL_prefix cm (comLen l) l (by
          have key : ∀ (l : List UInt8), ∀ x ∈ l.take (comLen l), x ≠ 10 := by
            intro l
            induction l with
            | nil => simp
            | cons d l ih =>
              intro x hx
              rw [comLen] at hx
              split at hx
              · simp at hx
              · rename_i hd
                rw [List.take_succ_cons] at hx
                rcases List.mem_cons.1 hx with rfl | hx
                · exact hd
                · exact ih x hx
          exact key l)
        have e0 : comLen (35 :: l) = comLen l + 1 := by rw [comLen, if_neg (by decide)]
        rw [replL, if_neg h10, kts_blank (c := 35) (l := l) (n := comLen l + 1) (by rw [nextTk, if_neg (by decide), if_neg (by decide), if_pos rfl, e0]), List.drop_succ_cons]
        have hd : l.drop (comLen l) = [] ∨ ∃ r, l.drop (comLen l) = 10 :: r := by
          have key : ∀ (l : List UInt8), l.drop (comLen l) = [] ∨ ∃ r, l.drop (comLen l) = 10 :: r := by
            intro l
            induction l with
            | nil => exact Or.inl rfl
            | cons d l ih =>
              rw [comLen]
              split
              · rename_i hd; subst hd; exact Or.inr ⟨l, rfl⟩
              · rw [List.drop_succ_cons]; exact ih
          exact key l
        have hclean : ∀ x ∈ l.take (comLen l), x ≠ 10 := by
          have key : ∀ (l : List UInt8), ∀ x ∈ l.take (comLen l), x ≠ 10 := by
            intro l
            induction l with
            | nil => simp
            | cons d l ih =>
              intro x hx
              rw [comLen] at hx
              split at hx
              · simp at hx
              · rename_i hd
                rw [List.take_succ_cons] at hx
                rcases List.mem_cons.1 hx with rfl | hx
                · exact hd
                · exact ih x hx
          exact key l
        rw [hp]
        rcases hd with hd | ⟨r, hd⟩
        · rw [hd, replL, List.append_nil, kts_nil]
          have e1 : ∀ p : List UInt8, (∀ x ∈ p, x ≠ 10) → kts (35 :: p) = some [] := fun p hp => by
            have : comLen (35 :: p) = p.length + 1 := by
              have key : ∀ p : List UInt8, (∀ x ∈ p, x ≠ 10) → comLen p = p.length := by
                intro p
                induction p with
                | nil => intro _; rfl
                | cons d p ih => intro h; rw [comLen, if_neg (h d (by simp)), ih (fun x hx => h x (by simp [hx]))]; rfl
              rw [comLen, if_neg (by decide), key p hp]
            rw [kts_blank (n := p.length + 1) (by rw [nextTk, if_neg (by decide), if_neg (by decide), if_pos rfl, this]), List.drop_succ_cons, List.drop_length]
            rfl
          rw [e1 _ hclean]
          rfl
        · have hrl : r.length ≤ n := by
            have := congrArg List.length hd
            rw [List.length_drop, List.length_cons] at this
            omega
          rw [hd, replL, if_pos rfl, kts_line (c := 10) (by rfl)]
          have e2 : 35 :: (l.take (comLen l) ++ (sepL cm ++ replL cm r)) = 35 :: ((l.take (comLen l) ++ (32 :: 9 :: 32 :: 35 :: 32 :: cm)) ++ 10 :: (10 :: 32 :: 32 :: 32 :: 10 :: replL cm r)) := by simp [sepL]
          rw [e2, kts_comment (fun x hx => by
            rcases List.mem_append.1 hx with hx | hx
            · exact hclean x hx
            · simp only [List.mem_cons] at hx
              rcases hx with rfl | rfl | rfl | rfl | rfl | hx
              · decide
              · decide
              · decide
              · decide
              · decide
              · exact hcm x hx), kts_three, kts_repl hcm n r hrl]
          cases kts r with
          | none => rfl
          | some K => simp [rep3_line]
      · obtain ⟨h1, h2⟩ := nextTk_repl cm (l := l) h10 h35
        rw [replL, if_neg h10]
        cases hk : nextTk (c :: l) with
        | bad => rw [kts_bad (h1.trans hk), kts_bad hk]; rfl
        | line =>
          rw [nextTk] at hk
          rw [if_neg h10, if_neg h35] at hk
          split at hk
          · cases hk
          split at hk
          · split at hk <;> cases hk
          split at hk
          · cases hk
          split at hk <;> cases hk
        | blank m =>
          have hm : m = 1 := by
            rw [nextTk] at hk
            rw [if_neg h10, if_neg h35] at hk
            split at hk
            · injection hk with hk; exact hk.symm
            split at hk
            · split at hk <;> cases hk
            split at hk
            · cases hk
            split at hk <;> cases hk
          subst hm
          rw [kts_blank (h1.trans hk), kts_blank hk]
          exact kts_repl hcm n l hl
        | tok k m =>
          have hcl := h2 k m hk
          obtain ⟨q1, q2⟩ := nextTk_tok hk
          have hp := replL_prefix cm m (c :: l) hcl
          rw [replL, if_neg h10] at hp
          have ht : (c :: replL cm l).take m = (c :: l).take m := by
            rw [hp, List.take_append_of_le_length (by rw [take_len q2]; exact Nat.le_refl _), List.take_take, Nat.min_self]
          have hd : (c :: replL cm l).drop m = replL cm ((c :: l).drop m) := by
            rw [hp]
            rw [show List.drop m (List.take m (c :: l) ++ replL cm (List.drop m (c :: l))) = List.drop (List.take m (c :: l)).length (List.take m (c :: l) ++ replL cm (List.drop m (c :: l))) by rw [take_len q2], List.drop_left]
          rw [kts_tok (h1.trans hk), kts_tok hk, ht, hd, kts_repl hcm n _ (by rw [List.length_drop]; simp only [List.length_cons] at h ⊢; omega)]
          cases kts ((c :: l).drop m) with
          | none => rfl
          | some K => simp [rep3_cons _ _ (tok_kind hk)]
theorem kts_wide {cm l : List UInt8} (hcm : ∀ c ∈ cm, c ≠ 10) : kts (wideL cm l) = (kts l).map fun K => (4, []) :: (4, []) :: rep3 K := by
  rw [wideL, kts_line (c := 10) (by rfl), kts_comment hcm, kts_line (c := 10) (by rfl), kts_repl hcm _ l (Nat.le_refl _)]
  cases kts l <;> rfl
theorem sq_rep3 : ∀ (K : List (Int × List UInt8)) (E : List (Int × List UInt8)) (ts us : List TokD), ts.map kt = K ++ E → us.map kt = rep3 K ++ E → Sq ts us
  | [], E, ts, us, h, h' => Sq.same (h.trans (by simpa [rep3] using h'.symm))
  | (k, t) :: K, E, [], us, h, _ => by simp at h
  | (k, t) :: K, E, a :: ts, us, h, h' => by
    simp only [List.map_cons, List.cons_append, List.cons.injEq] at h
    by_cases hk : k = 4
    · subst hk
      have e : rep3 ((4, t) :: K) = (4, t) :: (4, t) :: (4, t) :: rep3 K := by rw [rep3, List.flatMap_cons, if_pos rfl]; rfl
      rw [e] at h'
      match us, h' with
      | b :: c :: d :: us, h' =>
        simp only [List.map_cons, List.cons_append, List.cons.injEq] at h'
        have k1 : a.kind = 4 := congrArg Prod.fst h.1
        have k2 : b.kind = 4 := congrArg Prod.fst h'.1
        have k3 : c.kind = 4 := congrArg Prod.fst h'.2.1
        have k4 : d.kind = 4 := congrArg Prod.fst h'.2.2.1
        refine Sq.line k1 k2 ?_
        rw [blankR_line k3, blankR_line k4]
        exact (sq_rep3 K E ts us h.2 h'.2.2.2).blank
      | [], h' => simp at h'
      | [_], h' => simp at h'
      | [_, _], h' => simp at h'
    · rw [rep3_cons k t hk] at h'
      match us, h' with
      | b :: us, h' =>
        simp only [List.map_cons, List.cons_append, List.cons.injEq] at h'
        exact Sq.cons (h.1.trans h'.1.symm) (by rw [show a.kind = k from congrArg Prod.fst h.1]; exact hk) (sq_rep3 K E ts us h.2 h'.2)
      | [], h' => simp at h'
/-- BLANKS, COMMENTS, AND EMPTY LINES CHANGE NOTHING -/
theorem blanks_same {cm l : List UInt8} (hcm : ∀ c ∈ cm, c ≠ 10) :
    (∃ a b a' b', toks l = .bad a b ∧ toks (wideL cm l) = .bad a' b') ∨ ∃ L L', toks l = .good L ∧ toks (wideL cm l) = .good L' ∧ Sim SqB (readR L) (readR L') := by
  have hw := kts_wide (l := l) hcm
  cases hk : kts l with
  | none =>
    rw [hk] at hw
    obtain ⟨a, b, h1⟩ := toks_bad hk
    obtain ⟨a', b', h2⟩ := toks_bad hw
    exact Or.inl ⟨a, b, a', b', h1, h2⟩
  | some K =>
    rw [hk] at hw
    obtain ⟨L, h1, h2⟩ := toks_good hk
    obtain ⟨L', h3, h4⟩ := toks_good hw
    refine Or.inr ⟨L, L', h1, h3, read_sim ?_⟩
    match L', h4 with
    | a :: b :: us, h4 =>
      simp only [List.map_cons, List.cons_append, List.cons.injEq] at h4
      unfold SqB
      rw [blankR_line (t := a) (congrArg Prod.fst h4.1), blankR_line (t := b) (congrArg Prod.fst h4.2.1)]
      exact (sq_rep3 K [(5, [])] L us h2 h4.2.2).blank
    | [], h4 => simp at h4
    | [_], h4 => simp at h4
end Go.Proofs.YtcdkhlndohokcaaGreatDoor
namespace Go.Proofs.YtcdkhlndohokcaaGreatDoor
open Go Go.Lib

theorem toksF_fit : ∀ (f : Nat) (acc : List TokD) (l : List UInt8) (line col : Int) (L : List TokD), toksF f acc l line col = .good L → ∃ M, L = acc ++ M ∧ Last5 M ∧ M.length ≤ l.length + 1 ∧ ∀ t ∈ M, t.text.size ≤ l.length
  | 0, _, _, _, _, _, h => by simp [toksF] at h
  | f + 1, acc, [], line, col, L, h => by
    simp only [toksF, TRes.good.injEq] at h
    exact ⟨_, h.symm, ⟨[], _, rfl, rfl⟩, by simp, fun t ht => by simp at ht; rw [ht]; exact Nat.zero_le _⟩
  | f + 1, acc, c :: l, line, col, L, h => by
    simp only [toksF] at h
    cases hn : nextTk (c :: l) with
    | blank n =>
      rw [hn] at h
      obtain ⟨M, h1, h2, h3, h4⟩ := toksF_fit f _ _ _ _ _ h
      have hd : ((c :: l).drop n).length ≤ (c :: l).length := by rw [List.length_drop]; omega
      exact ⟨M, h1, h2, by omega, fun t ht => Nat.le_trans (h4 t ht) hd⟩
    | line =>
      rw [hn] at h
      obtain ⟨M, h1, h2, h3, h4⟩ := toksF_fit f _ _ _ _ _ h
      obtain ⟨p, e, hp, he⟩ := h2
      refine ⟨⟨4, ⟨#[]⟩, line, col⟩ :: M, by rw [h1, List.append_assoc]; rfl, ⟨_ :: p, e, by rw [hp]; rfl, he⟩, by simp; omega, fun t ht => ?_⟩
      rcases List.mem_cons.1 ht with rfl | ht
      · exact Nat.zero_le _
      · exact Nat.le_trans (h4 t ht) (by simp)
    | tok k n =>
      rw [hn] at h
      have hp := nextTk_tok hn
      obtain ⟨M, h1, h2, h3, h4⟩ := toksF_fit f _ _ _ _ _ h
      obtain ⟨p, e, hpe, he⟩ := h2
      have hd : ((c :: l).drop n).length + 1 ≤ (c :: l).length := by rw [List.length_drop]; omega
      refine ⟨⟨k, ⟨((c :: l).take n).toArray⟩, line, col⟩ :: M, by rw [h1, List.append_assoc]; rfl, ⟨_ :: p, e, by rw [hpe]; rfl, he⟩, by simp only [List.length_cons] at hd h3 ⊢; omega, fun t ht => ?_⟩
      rcases List.mem_cons.1 ht with rfl | ht
      · show ((c :: l).take n).toArray.size ≤ _
        rw [List.size_toArray, List.length_take]
        exact Nat.min_le_right _ _
      · exact Nat.le_trans (h4 t ht) (by omega)
    | bad => rw [hn] at h; cases h
theorem toks_fit {l : List UInt8} {L : List TokD} (h : toks l = .good L) : Last5 L ∧ L.length ≤ l.length + 1 ∧ ∀ t ∈ L, t.text.size ≤ l.length := by
  obtain ⟨M, h1, h2⟩ := toksF_fit _ _ _ _ _ _ h
  rw [List.nil_append] at h1
  rw [h1]; exact h2
end Go.Proofs.YtcdkhlndohokcaaGreatDoor
