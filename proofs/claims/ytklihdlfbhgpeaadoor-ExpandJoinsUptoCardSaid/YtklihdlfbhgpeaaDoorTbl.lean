/-
  A map with texts for keys that the call makes by a literal, whatever its elements: insert, and 'v, ok := m[k]'. No function is walked here.
-/
import Derived.Test.YtklihdlfbhgpeaaDoorGen
import Derived.MapKept
import Derived.Carry
namespace Go.Proofs.YtklihdlfbhgpeaaDoor
open Go.RowKit
set_option linter.unusedVariables false

def ents : List (List UInt8 × Value) → Nat → List MapEntry
  | [], _ => []
  | x :: r, k => ⟨.string ⟨x.1.toArray⟩, x.2, k⟩ :: ents r (k + 1)
theorem ents_length : ∀ (l : List (List UInt8 × Value)) (k : Nat), (ents l k).length = l.length
  | [], _ => rfl
  | x :: r, k => by simp [ents, ents_length r (k + 1)]
theorem ents_snoc (x : List UInt8 × Value) : ∀ (l : List (List UInt8 × Value)) (k : Nat), ents (l ++ [x]) k = ents l k ++ [⟨.string ⟨x.1.toArray⟩, x.2, k + l.length⟩]
  | [], k => rfl
  | y :: r, k => by
    simp only [List.cons_append, ents, ents_snoc x r (k + 1), List.length_cons]
    rw [show k + 1 + r.length = k + (r.length + 1) by omega]
/-- The first entry of that key. -/
def lookL : List (List UInt8 × Value) → List UInt8 → Option Value
  | [], _ => none
  | x :: r, k => if k = x.1 then some x.2 else lookL r k
def MapAt (w : World) (b : Nat) (l : List (List UInt8 × Value)) : Prop := w.heap[b]? = some (.map (ents l 0).toArray l.length)
theorem str_beq (a b : List UInt8) : ((ByteArray.mk a.toArray) == (ByteArray.mk b.toArray)) = decide (a = b) := by
  change (a.toArray == b.toArray) = _
  rw [Bool.eq_iff_iff]
  simp
theorem findNow_ents (key : List UInt8) : ∀ (l : List (List UInt8 × Value)) (k j : Nat), ∃ r, Instr.findNow .string (.string ⟨key.toArray⟩) (ents l k) j = some r ∧ r.map (·.2) = lookL l key
  | [], _, _ => ⟨none, rfl, rfl⟩
  | x :: l, k, j => by
    obtain ⟨r, h1, h2⟩ := findNow_ents key l (k + 1) (j + 1)
    by_cases he : key = x.1
    · refine ⟨some (j, x.2), ?_, by simp [lookL, he]⟩
      simp only [ents, Instr.findNow, Instr.sameNow, str_beq, decide_eq_true he]
    · refine ⟨r, ?_, by rw [h2, lookL, if_neg he]⟩
      simp only [ents, Instr.findNow, Instr.sameNow, str_beq, decide_eq_false he]
      exact h1
section
variable {P : Program} {w : World} {ops : Array Oper} {rest : List Oper} {o : Oper} {a : Act} {Q : Exit → Act → World → Prop}
theorem mapAt_made (w : World) : MapAt (w.alloc (.map #[] 0)) w.heap.size [] := (MapKept.heap_alloc w _).1
theorem run_insert (t kt et : TypeId) (hm : P.underlying t = some (.map kt et)) (hk : P.underlying kt = some .string) (b : Nat) (l : List (List UInt8 × Value)) (hM : MapAt w b l) (key : List UInt8) (val : Value) (hn : lookL l key = none) :
    ∃ w', (Instr.mapUpdate t (.map (some b)) (.string ⟨key.toArray⟩) val).run P w = .ok () w' ∧ MapAt w' b (l ++ [(key, val)]) ∧ Below b w w' := by
  obtain ⟨r, hf, hr⟩ := findNow_ents key l 0 0
  have hr0 : r = none := by
    rw [hn] at hr
    cases r with
    | none => rfl
    | some x => cases hr
  subst hr0
  have hc : (Instr.checkKey false 10000 kt (.string ⟨key.toArray⟩)).run P w = .ok () w := MapKept.run_checkKey (k := .string _) hk (by simp [MapKept.IsKey]) false 9999
  have hb : w.heap[b]? = some (.map (ents l 0).toArray l.length) := hM
  have hlt : b < w.heap.size := (Array.getElem?_eq_some_iff.1 hb).1
  refine ⟨{ w with heap := w.heap.setIfInBounds b (.map (ents l 0 ++ [({ key := .string ⟨key.toArray⟩, val := val, born := l.length } : MapEntry)]).toArray (l.length + 1)) }, by simp [Instr.mapUpdate, run_underlying hm, MapKept.run_getObj_map hb, hc, MapKept.run_findKey hk hf, MapKept.run_setObj_map _ hb, Result.andThen], ?_, ⟨rfl, rfl, rfl, by simp, fun k hk' => ?_⟩⟩
  · unfold MapAt
    simp only [List.length_append, List.length_singleton, ents_snoc, Nat.zero_add]
    rw [Array.getElem?_setIfInBounds_self_of_lt hlt]
  · simp only []
    rw [Array.getElem?_setIfInBounds_ne (by omega)]
theorem wpList_insert_map (hgd : o.guard = none) (t : TypeId) (m v : Operand) (key : List UInt8) (ho : o.op = .insert t m (.const (.string ⟨key.toArray⟩)) v) (kt et : TypeId) (ht : P.underlying t = some (.map kt et)) (hk : P.underlying kt = some .string)
    (b : Nat) (l : List (List UInt8 × Value)) (hm : a.eval m = .map (some b)) (hM : MapAt w b l) (hn : lookL l key = none) (val : Value) (hv : a.eval v = val)
    (h : ∀ w', MapAt w' b (l ++ [(key, val)]) → Below b w w' → wpList P ops Q rest (a.put o.dst undef) w') : wpList P ops Q (o :: rest) a w := by
  refine wpList_plain hgd fun K' hK' => ?_
  obtain ⟨w', hrun, r1, r2⟩ := run_insert (P := P) t kt et ht hk b l hM key val hn
  unfold Oper.wp
  have hc : a.eval (.const (.string ⟨key.toArray⟩)) = .string ⟨key.toArray⟩ := rfl
  simp [execOp, ho, hm, hv, hc, hrun, Result.andThen]
  exact hK' _ _ (h w' r1 r2)
theorem run_look (t kt et : TypeId) (hm : P.underlying t = some (.map kt et)) (hk : P.underlying kt = some .string) (z : Value) (hz : (zeroValue et).run P w = .ok z w) (b : Nat) (l : List (List UInt8 × Value)) (hM : MapAt w b l) (key : List UInt8) :
    (Instr.lookup t (.map (some b)) (.string ⟨key.toArray⟩) true).run P w = .ok (.tuple #[(lookL l key).getD z, .bool (lookL l key).isSome]) w := by
  obtain ⟨r, hf, hr⟩ := findNow_ents key l 0 0
  have hb : w.heap[b]? = some (.map (ents l 0).toArray l.length) := hM
  have hc : ∀ e, (Instr.checkKey e 10000 kt (.string ⟨key.toArray⟩)).run P w = .ok () w := fun e => MapKept.run_checkKey (k := .string _) hk (by simp [MapKept.IsKey]) e 9999
  rw [← hr]
  cases r with
  | none => simp [Instr.lookup, run_underlying hm, MapKept.run_getObj_map hb, hc, MapKept.run_findKey hk hf, Result.andThen, hz]
  | some x => simp [Instr.lookup, run_underlying hm, MapKept.run_getObj_map hb, hc, MapKept.run_findKey hk hf, Result.andThen]
end
end Go.Proofs.YtklihdlfbhgpeaaDoor
