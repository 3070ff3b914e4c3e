/-
  What the functions of pieces answer; the laws of the loop of Match that want no program.
-/
import Derived.Test.YtklihdlfbhgpeaaDoorG6
import Derived.Test.YtklihdlfbhgpeaaDoorTail
namespace Go.Proofs.YtklihdlfbhgpeaaDoor
open Go.RowKit
set_option linter.unusedVariables false

theorem PcsAt.below {w w' : World} {Lb : Nat} {v : Value} {L : List Pc} (h : PcsAt w Lb v L) (hb : Below w.heap.size w w') : PcsAt w' Lb v L := by
  obtain ⟨ps, A, c, h1, h2, h3, h4⟩ := h
  exact ⟨ps, A, c, h1, fun p hp => (h2 p hp).keep (K2.below hb), h3, h4.below hb⟩
theorem pcv_get : ∀ (l : List (Value × Pc)) (i : Nat), i < l.length → (pcv l)[i * 3]? = some (.bool (l.getD i (.nilFunc, .star)).2.isStar) ∧ (pcv l)[i * 3 + 1]? = some (l.getD i (.nilFunc, .star)).1 ∧ (pcv l)[i * 3 + 2]? = some (.bool (l.getD i (.nilFunc, .star)).2.odd)
  | [], i, h => by simp at h
  | c :: l, 0, _ => ⟨rfl, rfl, rfl⟩
  | c :: l, i + 1, h => by
    have := pcv_get l i (by simpa using h)
    rw [pcv_cons, show (i + 1) * 3 = i * 3 + 1 + 1 + 1 by omega]
    simpa using this
/-- The slice, and each of its pieces. -/
theorem PcsAt.form {w : World} {Lb : Nat} {v : Value} {L : List Pc} (h : PcsAt w Lb v L) : ∃ A c, v = .slice A L.length c ∧ ∀ i, i < L.length → ∃ b off f, A = some ⟨b, off, none⟩ ∧ b < w.heap.size ∧
    w.cell? ⟨b, off + i * 3, none⟩ = some (.bool (L.getD i .star).isStar) ∧ w.cell? ⟨b, off + i * 3 + 1, none⟩ = some f ∧ w.cell? ⟨b, off + i * 3 + 2, none⟩ = some (.bool (L.getD i .star).odd) ∧ PieceT w Lb f (L.getD i .star) := by
  obtain ⟨ps, A, c, rfl, h2, rfl, h4⟩ := h
  refine ⟨A, c, by rw [List.length_map], fun i hi => ?_⟩
  rw [List.length_map] at hi
  obtain ⟨b, off, e, hb, hc⟩ := h4.2 (by omega)
  obtain ⟨h1, h2', h3⟩ := pcv_get ps i hi
  have hg : (ps.map (·.2)).getD i .star = (ps.getD i (.nilFunc, .star)).2 := by simp [List.getD, List.getElem?_eq_getElem hi]
  have hm : ps.getD i (.nilFunc, .star) ∈ ps := by rw [List.getD, List.getElem?_eq_getElem hi]; exact List.getElem_mem hi
  rw [hg]
  exact ⟨b, off, _, e, hb, hc _ _ h1, by have := hc _ _ h2'; rwa [← Nat.add_assoc] at this, by have := hc _ _ h3; rwa [← Nat.add_assoc] at this, h2 _ hm⟩

theorem anyOne (b : UInt8) (w : World) : Calls Tryd.prog 62 #[.int .u8 (b.toNat : Int)] w fun e w' => e = .returned (.bool true) ∧ w' = w := by
  go_enter Tryd.func62, Tryd.ntmps62
  go_wp2
  go_ret
  exact ⟨rfl, rfl⟩
theorem litOne (b x : UInt8) (B : Nat) (q : Bool) (w : World) (h : At w B 121 #[.int .u8 (x.toNat : Int), .bool q]) : Calls Tryd.prog 63 #[.int .u8 (b.toNat : Int), .pointer (some ⟨B, 0, none⟩)] w fun e w' => e = .returned (.bool (b == x)) ∧ w' = w := by
  have c0 := h.cell 0
  simp only [List.getElem?_toArray, List.getElem?_cons_zero] at c0
  have hb := u8_eqI b x
  go_enter Tryd.func63, Tryd.ntmps63
  go_wp2
  go_ret
  exact ⟨by rw [← hb]; rfl, rfl⟩
/-- The function value f answers as the piece does. -/
def FnOf (w : World) (f : Value) (p : Pc) : Prop :=
  ∃ k caps, f = .func (.func k) #[] caps ∧ (∀ args W, (callFunc k args).run Tryd.prog W = .ok (.enter k args) W) ∧
    ∀ (b : UInt8) W, Below w.heap.size w W → Calls Tryd.prog k (#[.int .u8 (b.toNat : Int)] ++ caps) W fun e W' => e = .returned (.bool (p.one b)) ∧ Below W.heap.size W W'
theorem PieceT.fn {w : World} {Lb : Nat} {f : Value} {p : Pc} (h : PieceT w Lb f p) (hp : p.isStar = false) : FnOf w f p := by
  cases p with
  | star => cases hp
  | any => exact ⟨62, #[], h, enters_of Tryd.func62 (by kernel_rfl) rfl, fun b W _ => (anyOne b W).mono fun e W' ⟨h1, h2⟩ => ⟨h1, h2 ▸ Below.refl _ _⟩⟩
  | set neg ins =>
    obtain ⟨B1, B2, A, c, hf, h1, h2, hl, c1, c2, hr⟩ := h
    exact ⟨74, _, hf, enters_of Tryd.func74 (by kernel_rfl) rfl, fun b W hW => setOne_any b ins neg hl W B1 B2 A c (Nat.lt_of_lt_of_le c1.lt hW.size) (Nat.lt_of_lt_of_le c2.lt hW.size) ((c1.below hW c1.lt).cell 0) ((c2.below hW c2.lt).cell 0) (Rc.below hr.cs hW)⟩
  | lit x =>
    obtain ⟨B, q, hf, h1, c1⟩ := h
    exact ⟨63, _, hf, enters_of Tryd.func63 (by kernel_rfl) rfl, fun b W hW => (litOne b x B q W (c1.below hW c1.lt)).mono fun e W' ⟨h1, h2⟩ => ⟨h1, h2 ▸ Below.refl _ _⟩⟩

/-! ### The measure of Match's loop -/
def mu (n N : Nat) (back : Option Nat) (fr i : Nat) : Nat := (match back with | none => n + 1 | some b => n - b) * ((N + 1) * (N + 1)) + (N - fr) * (N + 1) + (N - i)
theorem mu_hit {n N : Nat} {back : Option Nat} {fr i : Nat} (hi : i < N) : mu n N back fr (i + 1) < mu n N back fr i := by unfold mu; omega
theorem mu_miss {n N bk fr i : Nat} (hi : i < N) (hf : fr ≤ i) : mu n N (some bk) (fr + 1) (fr + 1) < mu n N (some bk) fr i := by
  unfold mu
  obtain ⟨d, rfl⟩ : ∃ d, N = fr + 1 + d := ⟨N - (fr + 1), by omega⟩
  have e1 : fr + 1 + d - (fr + 1) = d := by omega
  have e2 : fr + 1 + d - fr = d + 1 := by omega
  rw [e1, e2]
  have : (d + 1) * (fr + 1 + d + 1) = d * (fr + 1 + d + 1) + (fr + 1 + d + 1) := by rw [Nat.add_mul, Nat.one_mul]
  omega
theorem mu_star {n N at_ : Nat} {back : Option Nat} {fr i : Nat} (ha : at_ < n) (hb : ∀ b, back = some b → b ≤ at_) : mu n N (some (at_ + 1)) i i ≤ mu n N back fr i := by
  unfold mu
  have h1 : (N - i) * (N + 1) + (N - i) ≤ (N + 1) * (N + 1) := by
    have : (N - i) * (N + 1) ≤ N * (N + 1) := Nat.mul_le_mul_right _ (by omega)
    have e : (N + 1) * (N + 1) = N * (N + 1) + (N + 1) := by rw [Nat.add_mul, Nat.one_mul]
    omega
  have key : ∀ m, n - (at_ + 1) + 1 ≤ m → (n - (at_ + 1)) * ((N + 1) * (N + 1)) + (N - i) * (N + 1) + (N - i) ≤ m * ((N + 1) * (N + 1)) + (N - fr) * (N + 1) + (N - i) := fun m hm => by
    have h2 : (n - (at_ + 1) + 1) * ((N + 1) * (N + 1)) ≤ m * ((N + 1) * (N + 1)) := Nat.mul_le_mul_right _ hm
    rw [Nat.add_mul, Nat.one_mul] at h2
    omega
  cases back with
  | none => exact key (n + 1) (by omega)
  | some b => exact key _ (by have := hb b rfl; show n - (at_ + 1) + 1 ≤ n - b; omega)
def backI : Option Nat → Int
  | none => -1
  | some b => (b : Int)
end Go.Proofs.YtklihdlfbhgpeaaDoor
