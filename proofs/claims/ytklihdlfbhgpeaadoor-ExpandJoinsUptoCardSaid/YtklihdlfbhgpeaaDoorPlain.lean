/-
  Patterns of the shell as plain lists: characters, pieces, what they match; and the laws that are claimed of them. No program in sight.
-/
namespace Go.Proofs.YtklihdlfbhgpeaaDoor

/-- A character of a pattern: its byte, and whether it is quoted. -/
abbrev Ch := UInt8 × Bool
theorem u8_beq (a b : UInt8) : (a == b) = decide (a = b) := by rw [Bool.eq_iff_iff, beq_iff_eq, decide_eq_true_iff]
/-- Is it that byte, unquoted? -/
def isC (c : Ch) (b : UInt8) : Bool := !c.2 && c.1 == b
/-- ! or ^ -/
def isNot (c : Ch) : Bool := isC c 33 || isC c 94

inductive Pc where
  | star
  | any
  | set (neg : Bool) (l : List Ch)
  | lit (b : UInt8)


/-- Is a byte among what stands in a set? -/
def inSet : List Ch → UInt8 → Bool
  | [], _ => false
  | [a], b => b == a.1
  | [a, d], b => b == a.1 || b == d.1
  | a :: d :: e :: r, b => if isC d 45 then (decide (a.1 ≤ b) && decide (b ≤ e.1)) || inSet r b else b == a.1 || inSet (d :: e :: r) b

def Pc.one : Pc → UInt8 → Bool
  | .star, _ => false
  | .any, _ => true
  | .set neg l, b => inSet l b != neg
  | .lit c, b => b == c
def Pc.isStar : Pc → Bool
  | .star => true
  | _ => false
def Pc.odd : Pc → Bool
  | .lit _ => false
  | _ => true

/-- Where a set's characters begin. -/
def setFrom (l : List Ch) : Nat := if (l.getD 1 (0, true)) |> isNot then 2 else 1
/-- The place of the first ] in a list. -/
def endAt (l : List Ch) : Option Nat := l.findIdx? fun c => isC c 93
/-- The set that begins a list: whether it is turned, what stands in it, how many characters it takes. -/
def setOf (l : List Ch) : Option (Bool × List Ch × Nat) :=
  if isC (l.getD 0 (0, true)) 91 then
    match endAt (l.drop (setFrom l + 1)) with
    | none => none
    | some k => some (isNot (l.getD 1 (0, true)), (l.drop (setFrom l)).take (k + 1), setFrom l + k + 2)
  else none

/-- The first piece of a list that is not empty, and how many characters it takes. -/
def pieceOf (l : List Ch) : Pc × Nat :=
  match setOf l with
  | some (neg, ins, n) => (.set neg ins, n)
  | none => (if isC (l.getD 0 (0, true)) 42 then .star else if isC (l.getD 0 (0, true)) 63 then .any else .lit (l.getD 0 (0, true)).1, 1)
def piecesF : Nat → List Ch → List Pc
  | 0, _ => []
  | _, [] => []
  | f + 1, l => (pieceOf l).1 :: piecesF f (l.drop (pieceOf l).2)
def pieces (l : List Ch) : List Pc := piecesF l.length l

/-- Does it hold of some tail? -/
def anyTail (f : List UInt8 → Bool) : List UInt8 → Bool
  | [] => f []
  | b :: s => f (b :: s) || anyTail f s
/-- Do pieces match a text? -/
def matchP : List Pc → List UInt8 → Bool
  | [], s => s.isEmpty
  | .star :: r, s => anyTail (matchP r) s
  | p :: r, s => match s with
    | [] => false
    | b :: s => p.one b && matchP r s

theorem matchP_nil (s : List UInt8) : matchP [] s = s.isEmpty := rfl
theorem matchP_star (r : List Pc) (s : List UInt8) : matchP (.star :: r) s = anyTail (matchP r) s := rfl
theorem matchP_cons {p : Pc} (hp : p.isStar = false) (r : List Pc) (b : UInt8) (s : List UInt8) : matchP (p :: r) (b :: s) = (p.one b && matchP r s) := by
  cases p <;> first | rfl | cases hp
theorem matchP_end {p : Pc} (hp : p.isStar = false) (r : List Pc) : matchP (p :: r) [] = false := by
  cases p <;> first | rfl | cases hp
theorem anyTail_iff (f : List UInt8 → Bool) : ∀ s, anyTail f s = true ↔ ∃ k, k ≤ s.length ∧ f (s.drop k) = true
  | [] => by simp [anyTail]
  | b :: s => by
    rw [anyTail, Bool.or_eq_true, anyTail_iff f s]
    constructor
    · rintro (h | ⟨k, hk, h⟩)
      · exact ⟨0, by simp, h⟩
      · exact ⟨k + 1, by simpa using hk, h⟩
    · rintro ⟨k, hk, h⟩
      cases k with
      | zero => exact .inl h
      | succ k => exact .inr ⟨k, by simpa using hk, h⟩

/-! ### The pieces, one by one -/
theorem setFrom_pos (l : List Ch) : 1 ≤ setFrom l := by unfold setFrom; split <;> omega
theorem setOf_len {l : List Ch} {a : Bool} {b : List Ch} {n : Nat} (h : setOf l = some (a, b, n)) : 0 < n ∧ n ≤ l.length := by
  unfold setOf at h
  split at h
  · split at h
    · cases h
    · rename_i k hk
      simp only [Option.some.injEq, Prod.mk.injEq] at h
      have := (List.findIdx?_eq_some_iff_getElem.1 hk).1
      simp only [List.length_drop] at this
      omega
  · cases h
theorem pieceOf_pos (l : List Ch) : 0 < (pieceOf l).2 := by
  unfold pieceOf
  cases h : setOf l with
  | none => simp
  | some x => obtain ⟨a, b, n⟩ := x; exact (setOf_len h).1
theorem pieceOf_le (l : List Ch) (h0 : l ≠ []) : (pieceOf l).2 ≤ l.length := by
  have : 0 < l.length := List.length_pos_iff.2 h0
  unfold pieceOf
  cases h : setOf l with
  | none => simp; omega
  | some x => obtain ⟨a, b, n⟩ := x; exact (setOf_len h).2
theorem piecesF_more : ∀ (f g : Nat) (l : List Ch), l.length ≤ f → l.length ≤ g → piecesF f l = piecesF g l
  | 0, g, l, h, _ => by
    obtain rfl : l = [] := List.length_eq_zero_iff.1 (by omega)
    cases g <;> rfl
  | f + 1, 0, l, _, h => by
    obtain rfl : l = [] := List.length_eq_zero_iff.1 (by omega)
    rfl
  | f + 1, g + 1, [], _, _ => rfl
  | f + 1, g + 1, c :: l, h1, h2 => by
    have hp := pieceOf_pos (c :: l)
    simp only [piecesF]
    rw [piecesF_more f g _ (by simp at h1 ⊢; omega) (by simp at h2 ⊢; omega)]
theorem pieces_nil : pieces [] = [] := rfl
theorem pieces_cons (l : List Ch) (h : l ≠ []) : pieces l = (pieceOf l).1 :: pieces (l.drop (pieceOf l).2) := by
  cases l with
  | nil => exact absurd rfl h
  | cons c l =>
    have hp := pieceOf_pos (c :: l)
    show piecesF (l.length + 1) (c :: l) = _
    simp only [piecesF]
    rw [piecesF_more _ (List.drop (pieceOf (c :: l)).2 (c :: l)).length _ (by simp; omega) (Nat.le_refl _)]
    rfl
theorem pieces_set {l : List Ch} {a : Bool} {b : List Ch} {n : Nat} (h : setOf l = some (a, b, n)) : pieces l = .set a b :: pieces (l.drop n) := by
  have hl := setOf_len h
  rw [pieces_cons l (by rintro rfl; simp at hl; omega)]
  simp only [pieceOf, h]
theorem pieces_one {c : Ch} {l : List Ch} (h : setOf (c :: l) = none) : pieces (c :: l) = (if isC c 42 then .star else if isC c 63 then .any else .lit c.1) :: pieces l := by
  rw [pieces_cons _ (by simp)]
  simp [pieceOf, h]
theorem setOf_none {c : Ch} {l : List Ch} (h : isC c 91 = false) : setOf (c :: l) = none := by
  simp [setOf, h]
theorem pieces_lit {c : Ch} {l : List Ch} (h : isC c 91 = false) (h1 : isC c 42 = false) (h2 : isC c 63 = false) : pieces (c :: l) = .lit c.1 :: pieces l := by
  rw [pieces_one (setOf_none h), h1, h2]; rfl
theorem pieces_quoted (l : List UInt8) (r : List Ch) : pieces (l.map (fun b => (b, true)) ++ r) = l.map .lit ++ pieces r := by
  induction l with
  | nil => rfl
  | cons b l ih =>
    rw [List.map_cons, List.cons_append, pieces_lit rfl rfl rfl, ih]
    rfl

/-! ### What literal pieces match -/
theorem matchP_lits : ∀ (l s : List UInt8), matchP (l.map .lit) s = decide (s = l)
  | [], [] => rfl
  | [], b :: s => rfl
  | a :: l, [] => rfl
  | a :: l, b :: s => by
    rw [List.map_cons, matchP_cons rfl, matchP_lits l s]
    simp [Pc.one, u8_beq]
theorem pieces_plain (l : List Ch) : ((pieces l).any Pc.odd = false) → pieces l = (l.map (·.1)).map .lit := by
  generalize hn : l.length = n
  induction n using Nat.strongRecOn generalizing l with
  | _ n ih =>
    intro h
    cases l with
    | nil => rfl
    | cons c l =>
      cases hs : setOf (c :: l) with
      | some x =>
        obtain ⟨a, b, m⟩ := x
        rw [pieces_set hs] at h
        simp [Pc.odd] at h
      | none =>
        rw [pieces_one hs] at h ⊢
        rw [List.any_cons, Bool.or_eq_false_iff] at h
        have h1 : isC c 42 = false := by
          cases he : isC c 42 with
          | false => rfl
          | true => rw [he] at h; simp [Pc.odd] at h
        have h2 : isC c 63 = false := by
          cases he : isC c 63 with
          | false => rfl
          | true => rw [h1, he] at h; simp [Pc.odd] at h
        rw [h1, h2]
        rw [ih l.length (by simp at hn; omega) l rfl h.2]
        rfl
/-- A pattern without special pieces matches its text alone. -/
theorem match_plain (l : List Ch) (s : List UInt8) (h : (pieces l).any Pc.odd = false) : matchP (pieces l) s = decide (s = l.map (·.1)) := by
  rw [pieces_plain l h, matchP_lits]

/-- A star between two plain texts. -/
theorem matchP_app_lits : ∀ (a : List UInt8) (r : List Pc) (s : List UInt8), matchP (a.map .lit ++ r) s = (a.isPrefixOf s && matchP r (s.drop a.length))
  | [], r, s => by simp
  | a :: l, r, [] => by
    rw [List.map_cons, List.cons_append, matchP_end rfl]
    simp
  | a :: l, r, b :: s => by
    rw [List.map_cons, List.cons_append, matchP_cons rfl, matchP_app_lits l r s]
    have : (b == a) = (a == b) := by rw [Bool.eq_iff_iff, beq_iff_eq, beq_iff_eq]; exact eq_comm
    rw [List.isPrefixOf_cons_cons]
    simp [Pc.one, this, Bool.and_assoc]
theorem anyTail_lits (b s : List UInt8) : anyTail (matchP (b.map .lit)) s = b.isSuffixOf s := by
  rw [Bool.eq_iff_iff, anyTail_iff, List.isSuffixOf_iff_suffix]
  constructor
  · rintro ⟨k, _, h⟩
    rw [matchP_lits, decide_eq_true_iff] at h
    rw [← h]
    exact List.drop_suffix k s
  · rintro ⟨t, rfl⟩
    exact ⟨t.length, by simp, by rw [matchP_lits]; simp⟩
theorem pieces_between (a b : List UInt8) : pieces (a.map (fun b => (b, true)) ++ (42, false) :: b.map (fun b => (b, true))) = a.map .lit ++ .star :: b.map .lit := by
  rw [pieces_quoted, pieces_one (setOf_none rfl)]
  have := pieces_quoted b []
  rw [List.append_nil, pieces_nil, List.append_nil] at this
  rw [this]
  rfl
theorem match_between (a b s : List UInt8) : matchP (pieces (a.map (fun b => (b, true)) ++ (42, false) :: b.map (fun b => (b, true)))) s =
    (decide (a.length + b.length ≤ s.length) && (a.isPrefixOf s && b.isSuffixOf s)) := by
  rw [pieces_between, matchP_app_lits, matchP_star, anyTail_lits, Bool.eq_iff_iff]
  simp only [Bool.and_eq_true, List.isSuffixOf_iff_suffix, List.isPrefixOf_iff_prefix, decide_eq_true_iff]
  constructor
  · rintro ⟨h1, h2⟩
    refine ⟨?_, h1, h2.trans (List.drop_suffix _ _)⟩
    have l1 := h1.length_le
    have l2 := h2.length_le
    rw [List.length_drop] at l2
    omega
  · rintro ⟨h0, h1, h2⟩
    refine ⟨h1, ?_⟩
    obtain ⟨t, rfl⟩ := h2
    rw [List.drop_append_of_le_length (by simp at h0; omega)]
    exact List.suffix_append _ _
theorem match_around (a b s : List UInt8) : matchP (pieces (a.map (fun b => (b, true)) ++ (42, false) :: b.map (fun b => (b, true)))) (a ++ s ++ b) = true := by
  rw [match_between, Bool.and_eq_true, Bool.and_eq_true, List.isSuffixOf_iff_suffix, List.isPrefixOf_iff_prefix, decide_eq_true_iff]
  exact ⟨by simp, by rw [List.append_assoc]; exact List.prefix_append _ _, List.suffix_append _ _⟩
theorem odd_between (a b : List UInt8) : (pieces (a.map (fun b => (b, true)) ++ (42, false) :: b.map (fun b => (b, true)))).any Pc.odd = true := by
  rw [pieces_between]
  simp [Pc.odd]

/-! ### Sets -/
theorem inSet_plain : ∀ (l : List Ch) (b : UInt8), (∀ c ∈ l, isC c 45 = false) → inSet l b = (l.map (·.1)).contains b
  | [], b, _ => rfl
  | [a], b, _ => by simp [inSet, u8_beq]
  | [a, d], b, _ => by simp [inSet, u8_beq]
  | a :: d :: e :: r, b, h => by
    have hd := h d (by simp)
    rw [inSet, hd]
    rw [inSet_plain (d :: e :: r) b (fun c hc => h c (List.mem_cons_of_mem _ hc))]
    rfl
theorem endAt_app : ∀ (ts : List Ch) (r : List Ch), (∀ c ∈ ts, isC c 93 = false) → endAt (ts ++ (93, false) :: r) = some ts.length
  | [], r, _ => rfl
  | c :: ts, r, h => by
    have ih := endAt_app ts r (fun c hc => h c (List.mem_cons_of_mem _ hc))
    unfold endAt at ih ⊢
    rw [List.cons_append, List.findIdx?_cons, h c (by simp), ih]
    rfl
theorem set_plain (ts : List Ch) (h0 : ts ≠ []) (h1 : ∀ c ∈ ts, isC c 93 = false) (h2 : ∀ c ∈ ts, isNot c = false) :
    setOf ((91, false) :: (ts ++ [(93, false)])) = some (false, ts, ts.length + 2) := by
  cases ts with
  | nil => exact absurd rfl h0
  | cons c ts =>
    have hc : isNot c = false := h2 c (by simp)
    have hf : setFrom ((91, false) :: (c :: ts ++ [(93, false)])) = 1 := by
      unfold setFrom
      simp [hc]
    unfold setOf
    rw [hf]
    have he := endAt_app ts [] (fun c hc => h1 c (List.mem_cons_of_mem _ hc))
    simp only [List.drop_succ_cons, List.drop_zero, List.cons_append, List.getD_cons_zero, List.getD_cons_succ, he, hc]
    simp [isC]
    omega
theorem set_turned (n : Ch) (hn : isNot n = true) (ts : List Ch) (h0 : ts ≠ []) (h1 : ∀ c ∈ ts, isC c 93 = false) :
    setOf ((91, false) :: n :: (ts ++ [(93, false)])) = some (true, ts, ts.length + 3) := by
  cases ts with
  | nil => exact absurd rfl h0
  | cons c ts =>
    have hf : setFrom ((91, false) :: n :: (c :: ts ++ [(93, false)])) = 2 := by
      unfold setFrom
      simp [hn]
    unfold setOf
    rw [hf]
    have he := endAt_app ts [] (fun c hc => h1 c (List.mem_cons_of_mem _ hc))
    simp only [List.drop_succ_cons, List.drop_zero, List.cons_append, List.getD_cons_zero, List.getD_cons_succ, he, hn]
    simp [isC]
    omega
theorem match_set (ts : List Ch) (h0 : ts ≠ []) (h1 : ∀ c ∈ ts, isC c 93 = false) (h2 : ∀ c ∈ ts, isNot c = false) (h3 : ∀ c ∈ ts, isC c 45 = false) (b : UInt8) :
    matchP (pieces ((91, false) :: (ts ++ [(93, false)]))) [b] = (ts.map (·.1)).contains b := by
  rw [pieces_set (set_plain ts h0 h1 h2), List.drop_of_length_le (by simp), pieces_nil, matchP_cons rfl, Pc.one, inSet_plain _ _ h3]
  simp [matchP]
theorem match_notset (n : Ch) (hn : isNot n = true) (ts : List Ch) (h0 : ts ≠ []) (h1 : ∀ c ∈ ts, isC c 93 = false) (h3 : ∀ c ∈ ts, isC c 45 = false) (b : UInt8) :
    matchP (pieces ((91, false) :: n :: (ts ++ [(93, false)]))) [b] = !(ts.map (·.1)).contains b := by
  rw [pieces_set (set_turned n hn ts h0 h1), List.drop_of_length_le (by simp), pieces_nil, matchP_cons rfl, Pc.one, inSet_plain _ _ h3]
  simp [matchP]

/-! ### The text's way: the last star is tried on -/
/-- A run of pieces that are no stars takes a byte each. -/
theorem matchP_run : ∀ (q r : List Pc) (t : List UInt8), (∀ p ∈ q, p.isStar = false) → matchP (q ++ r) t = true → q.length ≤ t.length ∧ matchP r (t.drop q.length) = true
  | [], r, t, _, h => ⟨Nat.zero_le _, h⟩
  | p :: q, r, [], hq, h => by
    rw [List.cons_append, matchP_end (hq p (by simp))] at h
    cases h
  | p :: q, r, b :: t, hq, h => by
    rw [List.cons_append, matchP_cons (hq p (by simp)), Bool.and_eq_true] at h
    have := matchP_run q r t (fun p hp => hq p (List.mem_cons_of_mem _ hp)) h.2
    exact ⟨by simp; omega, this.2⟩

/-- What may still be tried: the rest behind the last star, at a later place. -/
def later (L : List Pc) (s : List UInt8) (back : Option Nat) (fr : Nat) : Bool :=
  match back with
  | none => false
  | some bk => decide (fr < s.length) && anyTail (matchP (L.drop bk)) (s.drop (fr + 1))
/-- The loop's head. -/
structure Way (L : List Pc) (s : List UInt8) (at_ i : Nat) (back : Option Nat) (fr : Nat) : Prop where
  ha : at_ ≤ L.length
  hi : i ≤ s.length
  run : ∀ bk, back = some bk → bk ≤ at_ ∧ i = fr + (at_ - bk) ∧ ∀ p ∈ (L.drop bk).take (at_ - bk), p.isStar = false
  none_ : back = none → fr = 0
  ans : matchP L s = (matchP (L.drop at_) (s.drop i) || later L s back fr)

theorem Way.start (L : List Pc) (s : List UInt8) : Way L s 0 0 none 0 := ⟨Nat.zero_le _, Nat.zero_le _, (by rintro _ ⟨⟩), fun _ => rfl, by simp [later]⟩
theorem Way.later_end {L : List Pc} {s : List UInt8} {at_ i : Nat} {back : Option Nat} {fr : Nat} (h : Way L s at_ i back fr) (j : Nat) (_hj : fr < j) (hjs : j ≤ s.length) (bk : Nat) (hb : back = some bk)
    (hm : matchP (L.drop bk) (s.drop j) = true) : j + (at_ - bk) ≤ s.length ∧ matchP (L.drop at_) (s.drop (j + (at_ - bk))) = true := by
  obtain ⟨h1, h2, h3⟩ := h.run bk hb
  have hsp : L.drop bk = (L.drop bk).take (at_ - bk) ++ L.drop at_ := by
    have := (List.take_append_drop (at_ - bk) (L.drop bk)).symm
    rwa [List.drop_drop, show bk + (at_ - bk) = at_ by omega] at this
  rw [hsp] at hm
  obtain ⟨k1, k2⟩ := matchP_run _ _ _ h3 hm
  have hlen : ((L.drop bk).take (at_ - bk)).length = at_ - bk := by
    have := h.ha
    simp; omega
  rw [hlen, List.drop_drop] at k2
  rw [hlen, List.length_drop] at k1
  exact ⟨by omega, k2⟩
theorem later_some {L : List Pc} {s : List UInt8} {bk fr : Nat} : later L s (some bk) fr = true ↔ ∃ j, fr < j ∧ j ≤ s.length ∧ matchP (L.drop bk) (s.drop j) = true := by
  rw [later, Bool.and_eq_true, decide_eq_true_iff, anyTail_iff]
  constructor
  · rintro ⟨h0, k, hk, hm⟩
    rw [List.length_drop] at hk
    rw [List.drop_drop] at hm
    exact ⟨fr + 1 + k, by omega, by omega, hm⟩
  · rintro ⟨j, h1, h2, hm⟩
    exact ⟨by omega, j - (fr + 1), by rw [List.length_drop]; omega, by rw [List.drop_drop, show fr + 1 + (j - (fr + 1)) = j by omega]; exact hm⟩
theorem drop_at {L : List Pc} {k : Nat} (h : k < L.length) : L.drop k = L.getD k .star :: L.drop (k + 1) := by
  rw [List.drop_eq_getElem_cons h]
  simp [List.getD, List.getElem?_eq_getElem h]
/-- A star. -/
theorem Way.star {L : List Pc} {s : List UInt8} {at_ i : Nat} {back : Option Nat} {fr : Nat} (h : Way L s at_ i back fr) (hl : at_ < L.length) (hs : (L.getD at_ .star).isStar = true) : Way L s (at_ + 1) i (some (at_ + 1)) i := by
  refine ⟨hl, h.hi, ?_, (by rintro ⟨⟩), ?_⟩
  · rintro bk ⟨⟩
    exact ⟨Nat.le_refl _, by omega, by simp⟩
  · have hst : L.getD at_ .star = .star := by
      cases hp : L.getD at_ .star <;> rw [hp] at hs <;> first | rfl | cases hs
    rw [h.ans, drop_at hl, hst, matchP_star, Bool.eq_iff_iff, Bool.or_eq_true, Bool.or_eq_true, later_some, anyTail_iff]
    constructor
    · rintro (⟨k, hk, hm⟩ | hl2)
      · rw [List.drop_drop] at hm
        rw [List.length_drop] at hk
        cases k with
        | zero => exact .inl hm
        | succ k => exact .inr ⟨i + (k + 1), by omega, by have := h.hi; omega, hm⟩
      · cases hb : back with
        | none => rw [hb] at hl2; cases hl2
        | some bk =>
          rw [hb, later_some] at hl2
          obtain ⟨j, hj, hjs, hm⟩ := hl2
          obtain ⟨h5, h6⟩ := h.later_end j hj hjs bk hb hm
          have h7 := (h.run bk hb).2.1
          rw [drop_at hl, hst, matchP_star, anyTail_iff] at h6
          obtain ⟨k, hk, h6⟩ := h6
          rw [List.drop_drop] at h6
          rw [List.length_drop] at hk
          exact .inr ⟨j + (at_ - bk) + k, by omega, by omega, h6⟩
    · rintro (hm | ⟨j, h1, h2, hm⟩)
      · exact .inl ⟨0, by simp, by simpa using hm⟩
      · exact .inl ⟨j - i, by rw [List.length_drop]; omega, by rw [List.drop_drop, show i + (j - i) = j by omega]; exact hm⟩
theorem drop_byte {s : List UInt8} {i : Nat} (h : i < s.length) : s.drop i = s.getD i 0 :: s.drop (i + 1) := by
  rw [List.drop_eq_getElem_cons h]
  simp [List.getD, List.getElem?_eq_getElem h]
/-- A piece that matches. -/
theorem Way.hit {L : List Pc} {s : List UInt8} {at_ i : Nat} {back : Option Nat} {fr : Nat} (h : Way L s at_ i back fr) (hl : at_ < L.length) (hi : i < s.length) (hs : (L.getD at_ .star).isStar = false)
    (ho : (L.getD at_ .star).one (s.getD i 0) = true) : Way L s (at_ + 1) (i + 1) back fr := by
  refine ⟨hl, hi, ?_, h.none_, ?_⟩
  · intro bk hb
    obtain ⟨h1, h2, h3⟩ := h.run bk hb
    refine ⟨by omega, by omega, ?_⟩
    rw [show at_ + 1 - bk = (at_ - bk) + 1 by omega, List.take_succ_eq_append_getElem (by rw [List.length_drop]; omega)]
    intro p hp
    rw [List.mem_append, List.mem_singleton] at hp
    rcases hp with hp | rfl
    · exact h3 p hp
    · rw [List.getElem_drop]
      simp only [show bk + (at_ - bk) = at_ by omega]
      rw [List.getD, List.getElem?_eq_getElem hl] at hs
      exact hs
  · rw [h.ans, drop_at hl, drop_byte hi, matchP_cons hs, ho]
    rfl
theorem Way.miss_ans {L : List Pc} {s : List UInt8} {at_ i : Nat} {back : Option Nat} {fr : Nat} (h : Way L s at_ i back fr) (hi : i < s.length)
    (hm : at_ < L.length → (L.getD at_ .star).isStar = false ∧ (L.getD at_ .star).one (s.getD i 0) = false) : matchP L s = later L s back fr := by
  rw [h.ans]
  have : matchP (L.drop at_) (s.drop i) = false := by
    by_cases hl : at_ < L.length
    · rw [drop_at hl, drop_byte hi, matchP_cons (hm hl).1, (hm hl).2]; rfl
    · rw [List.drop_of_length_le (by omega), drop_byte hi]; rfl
  rw [this]; rfl
/-- None that matches: the last star takes one byte more. -/
theorem Way.miss {L : List Pc} {s : List UInt8} {at_ i : Nat} {bk fr : Nat} (h : Way L s at_ i (some bk) fr) (hi : i < s.length)
    (hm : at_ < L.length → (L.getD at_ .star).isStar = false ∧ (L.getD at_ .star).one (s.getD i 0) = false) : Way L s bk (fr + 1) (some bk) (fr + 1) := by
  obtain ⟨h1, h2, h3⟩ := h.run bk rfl
  refine ⟨by have := h.ha; omega, by omega, ?_, (by rintro ⟨⟩), ?_⟩
  · rintro bk' ⟨⟩
    exact ⟨Nat.le_refl _, by omega, by simp⟩
  · rw [h.miss_ans hi hm, Bool.eq_iff_iff, Bool.or_eq_true, later_some, later_some]
    constructor
    · rintro ⟨j, k1, k2, hm⟩
      by_cases hj : j = fr + 1
      · subst hj; exact .inl hm
      · exact .inr ⟨j, by omega, k2, hm⟩
    · rintro (hm | ⟨j, k1, k2, hm⟩)
      · exact ⟨fr + 1, by omega, by omega, hm⟩
      · exact ⟨j, by omega, k2, hm⟩
/-- None that matches, and no star. -/
theorem Way.lost {L : List Pc} {s : List UInt8} {at_ i : Nat} {fr : Nat} (h : Way L s at_ i none fr) (hi : i < s.length)
    (hm : at_ < L.length → (L.getD at_ .star).isStar = false ∧ (L.getD at_ .star).one (s.getD i 0) = false) : matchP L s = false := by
  rw [h.miss_ans hi hm]; rfl
/-- How many stars stand next. -/
def stars (L : List Pc) : Nat := (L.takeWhile Pc.isStar).length
theorem matchP_nilText : ∀ L : List Pc, matchP L [] = decide (stars L = L.length)
  | [] => rfl
  | p :: L => by
    cases hp : p.isStar with
    | false =>
      rw [matchP_end hp]
      simp [stars, hp]
    | true =>
      have : p = .star := by cases p <;> first | rfl | cases hp
      subst this
      rw [matchP_star, anyTail, matchP_nilText L, Bool.eq_iff_iff, decide_eq_true_iff, decide_eq_true_iff]
      rw [stars, stars, List.takeWhile_cons_of_pos hp, List.length_cons, List.length_cons]
      omega
/-- The text is at its end. -/
theorem Way.done {L : List Pc} {s : List UInt8} {at_ : Nat} {back : Option Nat} {fr : Nat} (h : Way L s at_ s.length back fr) : matchP L s = matchP (L.drop at_) [] := by
  have hlt : later L s back fr = false := by
    cases hb : back with
    | none => rfl
    | some bk =>
      rw [← Bool.not_eq_true, later_some]
      rintro ⟨j, h1, h2, hm⟩
      have h5 := (h.later_end j h1 h2 bk hb hm).1
      have h6 := (h.run bk hb).2.1
      omega
  rw [h.ans, hlt, List.drop_length, Bool.or_false]
/-- At the text's end a star changes nothing. -/
theorem matchP_skip {L : List Pc} {k : Nat} (hl : k < L.length) (hs : (L.getD k .star).isStar = true) : matchP (L.drop k) [] = matchP (L.drop (k + 1)) [] := by
  have hst : L.getD k .star = .star := by
    cases hp : L.getD k .star <;> rw [hp] at hs <;> first | rfl | cases hs
  rw [drop_at hl, hst, matchP_star]
  rfl
theorem matchP_stand {L : List Pc} {k : Nat} (hl : k < L.length) (hs : (L.getD k .star).isStar = false) : matchP (L.drop k) [] = false := by
  rw [drop_at hl, matchP_end hs]
theorem matchP_over {L : List Pc} {k : Nat} (hl : L.length ≤ k) : matchP (L.drop k) [] = true := by
  rw [List.drop_of_length_le hl]; rfl

/-- A text without the last piece's byte. -/
theorem matchP_last (c : UInt8) : ∀ (L : List Pc) (s : List UInt8), matchP (L ++ [.lit c]) s = true → c ∈ s
  | [], s, h => by
    rw [List.nil_append, show [Pc.lit c] = [c].map .lit from rfl, matchP_lits, decide_eq_true_iff] at h
    rw [h]; simp
  | p :: L, s, h => by
    cases hp : p.isStar with
    | true =>
      have : p = .star := by cases p <;> first | rfl | cases hp
      subst this
      rw [List.cons_append, matchP_star, anyTail_iff] at h
      obtain ⟨k, _, hm⟩ := h
      exact List.mem_of_mem_drop (matchP_last c L _ hm)
    | false =>
      cases s with
      | nil => rw [List.cons_append, matchP_end hp] at h; cases h
      | cons b s =>
        rw [List.cons_append, matchP_cons hp, Bool.and_eq_true] at h
        exact List.mem_cons_of_mem _ (matchP_last c L s h.2)

/-! ### Is it special? -/
def specialAt (l : List Ch) : Bool := (setOf l).isSome || isC (l.getD 0 (0, true)) 42 || isC (l.getD 0 (0, true)) 63
def magicL : List Ch → Bool
  | [] => false
  | c :: l => specialAt (c :: l) || magicL l
theorem odd_magic : ∀ l : List Ch, (pieces l).any Pc.odd = magicL l
  | [] => rfl
  | c :: l => by
    cases hs : setOf (c :: l) with
    | some x =>
      obtain ⟨a, b, n⟩ := x
      rw [pieces_set hs, magicL, specialAt, hs]
      rfl
    | none =>
      rw [pieces_one hs, magicL, specialAt, hs, List.any_cons, odd_magic l]
      cases h1 : isC c 42 <;> cases h2 : isC c 63 <;> simp [Pc.odd, h1, h2]
theorem magic_drop (l : List Ch) (k : Nat) (h : k < l.length) : magicL (l.drop k) = (specialAt (l.drop k) || magicL (l.drop (k + 1))) := by
  rw [List.drop_eq_getElem_cons h, magicL]
theorem match_star {c : Ch} {l : List Ch} (h : isC c 42 = true) (s : List UInt8) : matchP (pieces (c :: l)) s = anyTail (matchP (pieces l)) s := by
  have h9 : isC c 91 = false := by
    unfold isC at h ⊢
    rw [Bool.and_eq_true, beq_iff_eq] at h
    rw [h.2]; simp
  rw [pieces_one (setOf_none h9), h]
  rfl
theorem match_any {c : Ch} {l : List Ch} (h : isC c 63 = true) (b : UInt8) (s : List UInt8) : matchP (pieces (c :: l)) (b :: s) = matchP (pieces l) s := by
  have h9 : isC c 91 = false := by
    unfold isC at h ⊢
    rw [Bool.and_eq_true, beq_iff_eq] at h
    rw [h.2]; simp
  have h4 : isC c 42 = false := by
    unfold isC at h ⊢
    rw [Bool.and_eq_true, beq_iff_eq] at h
    rw [h.2]; simp
  rw [pieces_one (setOf_none h9), h4, h]
  rfl
theorem match_theSet {l : List Ch} {a : Bool} {ins : List Ch} {n : Nat} (h : setOf l = some (a, ins, n)) (b : UInt8) (s : List UInt8) :
    matchP (pieces l) (b :: s) = ((inSet ins b != a) && matchP (pieces (l.drop n)) s) := by
  rw [pieces_set h, matchP_cons rfl]
  rfl
theorem match_lit {c : Ch} {l : List Ch} (hs : setOf (c :: l) = none) (h1 : isC c 42 = false) (h2 : isC c 63 = false) (b : UInt8) (s : List UInt8) :
    matchP (pieces (c :: l)) (b :: s) = (b == c.1 && matchP (pieces l) s) := by
  rw [pieces_one hs, h1, h2]
  rfl
theorem match_stop {c : Ch} {l : List Ch} (h1 : isC c 42 = false) : matchP (pieces (c :: l)) [] = false := by
  cases hs : setOf (c :: l) with
  | some x =>
    obtain ⟨a, b, n⟩ := x
    rw [pieces_set hs, matchP_end rfl]
  | none =>
    rw [pieces_one hs, h1]
    cases isC c 63 <;> rfl
end Go.Proofs.YtklihdlfbhgpeaaDoor
