/-
  What a word comes to, in plain Lean; no program in sight.
-/
import Derived.Test.YtklihdlfbhgpeaaDoorG4
import Derived.Lib.ItoaNum
import Derived.Lib.ItoaLen
import Derived.Lib.Join
namespace Go.Proofs.YtklihdlfbhgpeaaDoor
open Go.RowKit
set_option linter.unusedVariables false

abbrev Str := List UInt8
/-- Of a command: what the law's environment reads. -/
structure CmdV where
  name : Str
  no : Bool
/-- A part of a word. -/
inductive PartV where
  | mk (kind : Int) (text op : Str) (q : Bool) (word : List PartV) (body : Option CmdV)
namespace PartV
def kind : PartV → Int | mk k _ _ _ _ _ => k
def text : PartV → Str | mk _ t _ _ _ _ => t
def op : PartV → Str | mk _ _ o _ _ _ => o
def q : PartV → Bool | mk _ _ _ q _ _ => q
def word : PartV → List PartV | mk _ _ _ _ w _ => w
def body : PartV → Option CmdV | mk _ _ _ _ _ b => b
end PartV
/-- An environment. -/
structure EnvV where
  vars : List (Str × Str)
  args : List Str
  status : Int
  seen : List Str
def EnvV.say (σ : EnvV) (s : Str) : EnvV := { σ with seen := σ.seen ++ [s] }
/-- The value of the last variable of that name. -/
def getL (l : List (Str × Str)) (n : Str) : Option Str := l.foldl (fun o v => if v.1 = n then some v.2 else o) none
theorem getL_nil (n : Str) : getL [] n = none := rfl
theorem getL_snoc (l : List (Str × Str)) (v : Str × Str) (n : Str) : getL (l ++ [v]) n = if v.1 = n then some v.2 else getL l n := by
  simp [getL, List.foldl_append]
def argsB : Str := [97, 114, 103, 115]
def statusB : Str := [115, 116, 97, 116, 117, 115]
def getB : Str := [103, 101, 116, 32]
def setB : Str := [115, 101, 116, 32]
def sayB : Str := [115, 97, 121, 32]
def nothingB : Str := [110, 111, 116, 104, 105, 110, 103]
/-- What is asked for a parameter. -/
structure Asked where
  value : Str
  set : Bool
  args : List Str
  missing : Bool
def isAll (t : Str) : Bool := t == [64] || t == [42]
def digitOf : Str → Option Nat
  | [c] => if 49 ≤ c.toNat ∧ c.toNat ≤ 57 then some (c.toNat - 48) else none
  | _ => none
def colon (op : Str) : Bool := op.head? == some 58
def ask0 (t : Str) (σ : EnvV) : Str × Bool × List Str :=
  match digitOf t with
  | some n => if n ≤ σ.args.length then (σ.args.getD (n - 1) [], true, []) else ([], false, [])
  | none =>
    if t = [35] then (Lib.itoa σ.args.length, true, [])
    else if t = [63] then (Lib.itoa σ.status, true, [])
    else if isAll t = true then (Lib.join σ.args [32], decide (0 < σ.args.length), σ.args)
    else match getL σ.vars t with
      | some v => (v, true, [])
      | none => ([], false, [])
/-- What the environment is asked. -/
def askS (t : Str) : Str :=
  match digitOf t with
  | some _ => argsB
  | none => if t = [35] then argsB else if t = [63] then statusB else if isAll t = true then argsB else getB ++ t
def askV (t op : Str) (σ : EnvV) : Asked :=
  let a := ask0 t σ
  ⟨a.1, a.2.1, a.2.2, !a.2.1 || colon op && a.1 == []⟩
abbrev Flds := List (List RunV)
/-- Fields behind fields: the first one behind the last one. -/
def joinF (F : Flds) : Flds → Flds
  | [] => F
  | g :: gs => F.dropLast ++ (F.getLastD [] ++ g) :: gs
def runOf (q : Bool) (s : Str) : RunV := ⟨s, q, !q⟩
def spR : RunV := ⟨[32], false, false⟩
def flatR : Flds → List RunV
  | [] => []
  | g :: gs => g ++ gs.flatMap fun h => spR :: h
def plainR (rs : List RunV) : Str := rs.flatMap RunV.t
def goodB (c : UInt8) : Bool := c == 95 || (97 ≤ c.toNat && c.toNat ≤ 122) || (65 ≤ c.toNat && c.toNat ≤ 90) || (48 ≤ c.toNat && c.toNat ≤ 57)
def isNameV : Str → Bool
  | [] => false
  | c :: s => !(48 ≤ c.toNat && c.toNat ≤ 57) && (c :: s).all goodB
def hashOp (op : Str) : Bool := op.head? == some 35
/-- What is left, if k bytes are taken; and does the pattern match what is taken? -/
def leftV (op : Str) (s : Str) (k : Nat) : Str := if hashOp op = true then s.drop k else s.take (s.length - k)
def cutV (op : Str) (p : List RunV) (s : Str) (k : Nat) : Bool := matchP (pieces (chs p)) (if hashOp op = true then s.take k else s.drop (s.length - k))
def kAt (op s : Str) (i : Nat) : Nat := if op.length = 2 then s.length - i else i
/-- From the i-th try on, with so many left. -/
def trimGo (op : Str) (p : List RunV) (s : Str) : Nat → Nat → Str
  | 0, _ => s
  | m + 1, i => if cutV op p s (kAt op s i) = true then leftV op s (kAt op s i) else trimGo op p s m (i + 1)
def trimV (op : Str) (p : List RunV) (s : Str) : Str := trimGo op p s (s.length + 1) 0
inductive OpK | plain | size | orElse | instead | assign | must | trim
def opOf (op : Str) : Option OpK :=
  if op = [] then some .plain else if op = [108, 101, 110] then some .size
  else if op = [58, 45] then some .orElse else if op = [45] then some .orElse else if op = [58, 43] then some .instead else if op = [43] then some .instead
  else if op = [58, 61] then some .assign else if op = [61] then some .assign else if op = [58, 63] then some .must else if op = [63] then some .must
  else if op = [35] then some .trim else if op = [35, 35] then some .trim else if op = [37] then some .trim else if op = [37, 37] then some .trim else none
/-- An error's number; fields; the environment behind it. -/
structure Out where
  e : Int
  F : Flds
  s : EnvV
def tellV (q : Bool) (v : Str) (σ : EnvV) : Out := ⟨0, [[runOf q v]], σ⟩
def plainV (t : Str) (q : Bool) (x : Asked) (σ : EnvV) : Out :=
  if (!isAll t || t == [42] && q) = true then tellV q x.value σ else ⟨0, x.args.map fun s => [runOf q s], σ⟩
def sizeV (t : Str) (q : Bool) (x : Asked) (σ : EnvV) : Out := tellV q (Lib.itoa (if isAll t = true then (x.args.length : Int) else (x.value.length : Int))) σ
def setV (t v : Str) (σ : EnvV) : EnvV := if 90 < v.length then σ.say (setB ++ t ++ [61] ++ v) else { σ.say (setB ++ t ++ [61] ++ v) with vars := σ.vars ++ [(t, v)] }
def assignV (rec : List PartV → EnvV → Out) (p : PartV) (x : Asked) (σ : EnvV) : Out :=
  if x.missing = true then
    let o := rec p.word σ
    if o.e = 0 then
      if isNameV p.text = true then
        let v := plainR (flatR o.F)
        if 90 < v.length then ⟨10, [], setV p.text v o.s⟩ else tellV p.q v (setV p.text v o.s)
      else ⟨2, [], o.s⟩
    else ⟨o.e, [], o.s⟩
  else tellV p.q x.value σ
def trimOut (rec : List PartV → EnvV → Out) (p : PartV) (x : Asked) (σ : EnvV) : Out :=
  let o := rec p.word σ
  if o.e = 0 then tellV p.q (trimV p.op (flatR o.F) x.value) o.s else ⟨o.e, [], o.s⟩
def doV (rec : List PartV → EnvV → Out) (p : PartV) (x : Asked) (σ : EnvV) : OpK → Out
  | .plain => plainV p.text p.q x σ
  | .size => sizeV p.text p.q x σ
  | .orElse => if x.missing = true then rec p.word σ else tellV p.q x.value σ
  | .instead => if x.missing = true then ⟨0, [], σ⟩ else rec p.word σ
  | .assign => assignV rec p x σ
  | .must => if x.missing = true then ⟨2, [], σ⟩ else tellV p.q x.value σ
  | .trim => trimOut rec p x σ
def paramV (rec : List PartV → EnvV → Out) (p : PartV) (σ : EnvV) : Out :=
  match opOf p.op with
  | none => ⟨2, [], σ.say (askS p.text)⟩
  | some k => doV rec p (askV p.text p.op σ) (σ.say (askS p.text)) k
def substV (p : PartV) (σ : EnvV) : Out :=
  match p.body with
  | none => tellV p.q [] (σ.say nothingB)
  | some c => if c.no = true then ⟨14, [], σ.say (sayB ++ c.name)⟩ else tellV p.q c.name (σ.say (sayB ++ c.name))
def evalPart (rec : List PartV → EnvV → Out) (d : Bool) (p : PartV) (σ : EnvV) : Out :=
  if p.kind = 0 then ⟨0, [[⟨p.text, false, d⟩]], σ⟩
  else if p.kind = 1 then ⟨0, [[⟨p.text, true, false⟩]], σ⟩
  else if p.kind = 2 then paramV rec p σ
  else if p.kind = 3 then substV p σ
  else ⟨2, [], σ⟩
def evalL (rec : List PartV → EnvV → Out) (d : Bool) : List PartV → Flds → EnvV → Out
  | [], F, σ => ⟨0, F, σ⟩
  | p :: ps, F, σ => if (evalPart rec d p σ).e = 0 then evalL rec d ps (joinF F (evalPart rec d p σ).F) (evalPart rec d p σ).s else ⟨(evalPart rec d p σ).e, [], (evalPart rec d p σ).s⟩
/-- With so many depths left. -/
def evalW : Nat → List PartV → EnvV → Out
  | 0, _, σ => ⟨3, [], σ⟩
  | n + 1, w, σ => evalL (evalW n) (decide (n < 19)) w [[]] σ

theorem joinF_nil (F : Flds) : joinF F [] = F := rfl
theorem joinF_snoc (X : Flds) (y g : List RunV) (gs : Flds) : joinF (X ++ [y]) (g :: gs) = X ++ (y ++ g) :: gs := by simp [joinF]
theorem joinF_one (F : Flds) (h : F ≠ []) : joinF F [[]] = F := by
  rw [← List.dropLast_concat_getLast h, joinF_snoc]; simp
theorem joinF_unit (G : Flds) (h : G ≠ []) : joinF [[]] G = G := by cases G <;> simp_all [joinF]
theorem joinF_ne (F G : Flds) (h : F ≠ []) : joinF F G ≠ [] := by cases G <;> simp_all [joinF]
theorem snoc_of_ne {α : Type} {l : List α} (h : l ≠ []) : ∃ X y, l = X ++ [y] := ⟨_, _, (List.dropLast_concat_getLast h).symm⟩
theorem joinF_assoc (F G H : Flds) (hF : F ≠ []) (hG : G ≠ []) : joinF (joinF F G) H = joinF F (joinF G H) := by
  obtain ⟨X, y, rfl⟩ := snoc_of_ne hF
  cases H with
  | nil => rfl
  | cons h hs =>
    cases G with
    | nil => exact absurd rfl hG
    | cons g gs =>
      rw [joinF_snoc]
      rcases List.eq_nil_or_concat gs with rfl | ⟨Z, z, rfl⟩
      · rw [joinF_snoc, show ([g] : Flds) = [] ++ [g] from rfl, joinF_snoc, List.nil_append, joinF_snoc, List.append_assoc]
      · rw [List.concat_eq_append, show X ++ (y ++ g) :: (Z ++ [z]) = (X ++ (y ++ g) :: Z) ++ [z] by simp, joinF_snoc, show g :: (Z ++ [z]) = (g :: Z) ++ [z] by simp, joinF_snoc, List.cons_append, joinF_snoc]
        simp
theorem joinF_ex (F G : Flds) (hF : F ≠ []) : joinF F (if G = [] then [[]] else G) = joinF F G := by
  split
  · rename_i h; rw [h, joinF_one F hF]; rfl
  · rfl
theorem evalL_join (rec : List PartV → EnvV → Out) (d : Bool) : ∀ (ps : List PartV) (F G : Flds) (σ : EnvV), F ≠ [] → G ≠ [] →
    evalL rec d ps (joinF F G) σ = ⟨(evalL rec d ps G σ).e, if (evalL rec d ps G σ).e = 0 then joinF F (evalL rec d ps G σ).F else [], (evalL rec d ps G σ).s⟩
  | [], F, G, σ, _, _ => by simp [evalL]
  | p :: ps, F, G, σ, hF, hG => by
    simp only [evalL]
    by_cases h : (evalPart rec d p σ).e = 0
    · simp only [if_pos h]
      rw [joinF_assoc F G _ hF hG, evalL_join rec d ps F _ _ hF (joinF_ne _ _ hG)]
    · simp [h]
theorem evalL_append (rec : List PartV → EnvV → Out) (d : Bool) : ∀ (a b : List PartV) (F : Flds) (σ : EnvV),
    evalL rec d (a ++ b) F σ = if (evalL rec d a F σ).e = 0 then evalL rec d b (evalL rec d a F σ).F (evalL rec d a F σ).s else evalL rec d a F σ
  | [], b, F, σ => by simp [evalL]
  | p :: a, b, F, σ => by
    simp only [List.cons_append, evalL]
    by_cases h : (evalPart rec d p σ).e = 0
    · simp only [if_pos h]
      rw [evalL_append rec d a b]
    · simp only [if_neg h]
theorem evalL_ne (rec : List PartV → EnvV → Out) (d : Bool) : ∀ (a : List PartV) (F : Flds) (σ : EnvV), F ≠ [] → (evalL rec d a F σ).e = 0 → (evalL rec d a F σ).F ≠ []
  | [], F, σ, hF, _ => hF
  | p :: a, F, σ, hF, h => by
    simp only [evalL] at h ⊢
    by_cases h1 : (evalPart rec d p σ).e = 0
    · simp only [if_pos h1] at h ⊢
      exact evalL_ne rec d a _ _ (joinF_ne _ _ hF) h
    · simp only [if_neg h1] at h
      exact absurd h h1
/-- A word behind a word. -/
theorem evalW_append (n : Nat) (a b : List PartV) (σ : EnvV) :
    evalW (n + 1) (a ++ b) σ = if (evalW (n + 1) a σ).e = 0 then
      ⟨(evalW (n + 1) b (evalW (n + 1) a σ).s).e, if (evalW (n + 1) b (evalW (n + 1) a σ).s).e = 0 then joinF (evalW (n + 1) a σ).F (evalW (n + 1) b (evalW (n + 1) a σ).s).F else [], (evalW (n + 1) b (evalW (n + 1) a σ).s).s⟩
      else evalW (n + 1) a σ := by
  rw [show evalW (n + 1) (a ++ b) σ = evalL (evalW n) (decide (n < 19)) (a ++ b) [[]] σ from rfl, evalL_append]
  change (if (evalW (n + 1) a σ).e = 0 then evalL (evalW n) (decide (n < 19)) b (evalW (n + 1) a σ).F (evalW (n + 1) a σ).s else evalW (n + 1) a σ) = _
  by_cases h : (evalW (n + 1) a σ).e = 0
  · rw [if_pos h, if_pos h]
    have hne : (evalW (n + 1) a σ).F ≠ [] := evalL_ne _ _ a [[]] σ (by simp) h
    have := evalL_join (evalW n) (decide (n < 19)) b _ [[]] (evalW (n + 1) a σ).s hne (by simp)
    rw [joinF_one _ hne] at this
    exact this
  · rw [if_neg h, if_neg h]
end Go.Proofs.YtklihdlfbhgpeaaDoor
