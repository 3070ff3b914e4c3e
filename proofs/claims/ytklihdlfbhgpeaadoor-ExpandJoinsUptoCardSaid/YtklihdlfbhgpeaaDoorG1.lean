/-
  The walks of a character's is, of the reference's is, and of the library's IndexFunc over characters.
-/
import Derived.Test.YtklihdlfbhgpeaaDoorStr
import Derived.Test.YtklihdlfbhgpeaaDoorPlain
import Derived.Test.YtklihdlfbhgpeaaDoorShelf
import Derived.BigQuiet
namespace Go.Proofs.YtklihdlfbhgpeaaDoor
open Go.RowKit
set_option linter.unusedVariables false

/-- The cells of a row of characters. -/
def chv (l : List Ch) : List Value := l.flatMap fun c => [Value.int .u8 (c.1.toNat : Int), .bool c.2]
theorem chv_nil : chv [] = [] := rfl
theorem chv_cons (c : Ch) (l : List Ch) : chv (c :: l) = Value.int .u8 (c.1.toNat : Int) :: .bool c.2 :: chv l := rfl
theorem chv_append (l k : List Ch) : chv (l ++ k) = chv l ++ chv k := by simp [chv]
theorem chv_length : ∀ l : List Ch, (chv l).length = l.length * 2
  | [] => rfl
  | c :: l => by rw [chv_cons]; simp only [List.length_cons, chv_length l]; omega
theorem chv_drop : ∀ (l : List Ch) (n : Nat), (chv l).drop (n * 2) = chv (l.drop n)
  | l, 0 => by simp
  | [], n + 1 => by simp [chv]
  | c :: l, n + 1 => by rw [chv_cons, show (n + 1) * 2 = n * 2 + 1 + 1 by omega, List.drop_succ_cons, List.drop_succ_cons, chv_drop l n, List.drop_succ_cons]
theorem chv_take : ∀ (l : List Ch) (n : Nat), (chv l).take (n * 2) = chv (l.take n)
  | l, 0 => by simp [chv]
  | [], n + 1 => by simp [chv]
  | c :: l, n + 1 => by rw [chv_cons, show (n + 1) * 2 = n * 2 + 1 + 1 by omega, List.take_succ_cons, List.take_succ_cons, chv_take l n, List.take_succ_cons, chv_cons]
theorem chv_get : ∀ (l : List Ch) (i : Nat), i < l.length → (chv l)[i * 2]? = some (.int .u8 ((l.getD i (0, true)).1.toNat : Int)) ∧ (chv l)[i * 2 + 1]? = some (.bool (l.getD i (0, true)).2)
  | [], i, h => by simp at h
  | c :: l, 0, _ => ⟨rfl, rfl⟩
  | c :: l, i + 1, h => by
    have := chv_get l i (by simpa using h)
    rw [chv_cons, show (i + 1) * 2 = i * 2 + 1 + 1 by omega]
    simpa using this
theorem chv_one (l : List Ch) : ∀ v ∈ chv l, v.oneCell' = true := by
  intro v hv
  obtain ⟨c, _, hc⟩ := List.mem_flatMap.1 hv
  simp at hc
  rcases hc with rfl | rfl <;> rfl

/-- A slice of characters. -/
abbrev Cs (w : World) (A : Option Addr) (l : List Ch) : Prop := Rc w 2 A l.length (chv l)
theorem Cs.at_ {w : World} {A : Option Addr} {l : List Ch} (h : Cs w A l) {i : Nat} (hi : i < l.length) : ∃ b off, A = some ⟨b, off, none⟩ ∧ b < w.heap.size ∧
    w.cell? ⟨b, off + i * 2, none⟩ = some (.int .u8 ((l.getD i (0, true)).1.toNat : Int)) ∧ w.cell? ⟨b, off + i * 2 + 1, none⟩ = some (.bool (l.getD i (0, true)).2) := by
  obtain ⟨b, off, e, hb, hc⟩ := h.2 (by omega)
  obtain ⟨h1, h2⟩ := chv_get l i hi
  exact ⟨b, off, e, hb, hc _ _ h1, by have := hc _ _ h2; rwa [← Nat.add_assoc] at this⟩

theorem Cs.cell {w : World} {b off : Nat} {l : List Ch} (h : Cs w (some ⟨b, off, none⟩) l) {i : Nat} (hi : i < l.length) :
    w.cell? ⟨b, off + i * 2, none⟩ = some (.int .u8 ((l.getD i (0, true)).1.toNat : Int)) ∧ w.cell? ⟨b, off + i * 2 + 1, none⟩ = some (.bool (l.getD i (0, true)).2) := by
  obtain ⟨b', off', e, _, h1, h2⟩ := Cs.at_ h hi
  injection e with e
  injection e with e1 e2
  subst e1 e2
  exact ⟨h1, h2⟩

theorem indexByte_mem : ∀ (l : List UInt8) (c : UInt8), (l.contains c = true → 0 ≤ Lib.indexByte l c) ∧ (l.contains c = false → Lib.indexByte l c = -1)
  | [], c => by simp [Lib.indexByte]
  | b :: l, c => by
    have ih := indexByte_mem l c
    unfold Lib.indexByte
    by_cases h : b = c
    · subst h; simp
    · have h' : (b == c) = false := by simp [h]
      rw [h']
      have hc : (b :: l).contains c = l.contains c := by simp [Ne.symm h]
      rw [hc]
      refine ⟨fun h1 => ?_, fun h1 => ?_⟩
      · have := ih.1 h1
        have h2 : (Lib.indexByte l c == -1) = false := by simp; omega
        rw [h2]
        simp
        omega
      · rw [ih.2 h1]; rfl

set_option maxRecDepth 100000 in
set_option maxHeartbeats 400000 in
theorem is_any (c : Ch) (l : List UInt8) (w : World) :
    Calls Tryd.prog 61 #[.agg #[.int .u8 (c.1.toNat : Int), .bool c.2], .string ⟨l.toArray⟩] w fun e w' => e = .returned (.bool (!c.2 && l.contains c.1)) ∧ Below w.heap.size w w' := by
  obtain ⟨b, q⟩ := c
  cases q with
  | true =>
    go_enter Tryd.func61, Tryd.ntmps61
    go_wp2_with fail
    go_ret
    exact ⟨rfl, (Below.refl _ _).alloc (Nat.le_refl _) _⟩
  | false =>
    go_enter Tryd.func61, Tryd.ntmps61
    go_wp2_with fail
    refine (Tryd.strings_IndexByte _ _ _).mono ?_
    rintro e w1 ⟨rfl, rfl⟩
    have e1 : (b.toNat : Int).toNat.toUInt8 = b := by
      have : (b.toNat : Int).toNat = b.toNat := by omega
      rw [this]; simp
    rw [e1]
    have hi := indexByte_mem l b
    have hl : (ByteArray.mk l.toArray).data.toList = l := by simp
    rw [hl]
    generalize Lib.indexByte l b = v at *
    cases hm : l.contains b with
    | true =>
      have h0 := hi.1 hm
      have HM := hid hm
      clear hm
      go_wp2_with fail
      go_ret
      exact ⟨by rw [HM.out]; rfl, (Below.refl _ _).alloc (Nat.le_refl _) _⟩
    | false =>
      obtain rfl := hi.2 hm
      have HM := hid hm
      clear hm
      go_wp2_with fail
      go_ret
      exact ⟨by rw [HM.out]; rfl, (Below.refl _ _).alloc (Nat.le_refl _) _⟩
theorem is_one (c : Ch) (b : UInt8) (w : World) :
    Calls Tryd.prog 61 #[.agg #[.int .u8 (c.1.toNat : Int), .bool c.2], .string ⟨#[b]⟩] w fun e w' => e = .returned (.bool (isC c b)) ∧ Below w.heap.size w w' :=
  (is_any c [b] w).mono fun e w' ⟨he, hb⟩ => ⟨by rw [he]; simp [isC, u8_beq], hb⟩
theorem is_not (c : Ch) (w : World) :
    Calls Tryd.prog 61 #[.agg #[.int .u8 (c.1.toNat : Int), .bool c.2], .string ⟨#[33, 94]⟩] w fun e w' => e = .returned (.bool (isNot c)) ∧ Below w.heap.size w w' :=
  (is_any c [33, 94] w).mono fun e w' ⟨he, hb⟩ => ⟨by rw [he]; obtain ⟨b, q⟩ := c; cases q <;> simp [isC, isNot, u8_beq], hb⟩

set_option maxRecDepth 100000 in
theorem isClose_any (c : Ch) (w : World) :
    Calls Tryd.prog 73 #[.agg #[.int .u8 (c.1.toNat : Int), .bool c.2]] w fun e w' => e = .returned (.bool (isC c 93)) ∧ Below w.heap.size w w' := by
  go_enter Tryd.func73, Tryd.ntmps73
  go_wp2_with fail
  refine (is_one c 93 _).mono ?_
  rintro e w1 ⟨rfl, hb⟩
  have hB : Below w.heap.size w w1 := ((Below.refl _ _).alloc (Nat.le_refl _) _).trans (hb.mono (by simp))
  go_wp2_with fail
  go_ret
  exact ⟨rfl, hB⟩
end Go.Proofs.YtklihdlfbhgpeaaDoor
