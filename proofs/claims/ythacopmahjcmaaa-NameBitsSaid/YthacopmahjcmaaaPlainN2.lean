/-
  A hash read back. No program in sight.
-/
import Derived.Test.YthacopmahjcmaaaPlainN
namespace Go.Proofs.Ythacopmahjcmaaa
open Go.RowKit
set_option linter.unusedVariables false

theorem numL_cons (b : UInt8) (l : List UInt8) : numL (b :: l) = b.toNat * 256 ^ l.length + numL l := by
  have h3 : numL (b :: l) = (0 * 256 + b.toNat) * 256 ^ l.length + numL l := foldl_num l _
  rw [h3, Nat.zero_mul, Nat.zero_add]
theorem numL_inj : ∀ l k : List UInt8, l.length = k.length → numL l = numL k → l = k
  | [], [], _, _ => rfl
  | b :: l, c :: k, h, e => by
    have hl : l.length = k.length := by simpa using h
    rw [numL_cons, numL_cons, hl] at e
    have h1 := numL_lt l
    have h2 := numL_lt k
    rw [hl] at h1
    have hp : 0 < 256 ^ k.length := Nat.pow_pos (by decide)
    have e1 : b.toNat = c.toNat := by
      have := congrArg (· / 256 ^ k.length) e
      simp only [Nat.mul_comm _ (256 ^ k.length), Nat.mul_add_div hp, Nat.div_eq_of_lt h1, Nat.div_eq_of_lt h2, Nat.add_zero] at this
      exact this
    have e2 : numL l = numL k := by rw [e1] at e; omega
    rw [UInt8.toNat_inj.1 e1, numL_inj l k hl e2]
  | [], _ :: _, h, _ => by simp at h
  | _ :: _, [], h, _ => by simp at h
theorem top_step (N i : Nat) (hi : i < 32) : N / 2 ^ (160 - 5 * (i + 1)) = N / 2 ^ (160 - 5 * i) * 32 + digN N i := by
  rw [digN, show 160 - 5 * (i + 1) = 155 - 5 * i by omega, show 160 - 5 * i = (155 - 5 * i) + 5 by omega, Nat.pow_add, ← Nat.div_div_eq_div_mul]
  omega
theorem digN_inj (N M : Nat) (hN : N < 2 ^ 160) (hM : M < 2 ^ 160) (h : ∀ i, i < 32 → digN N i = digN M i) : N = M := by
  have key : ∀ i, i ≤ 32 → N / 2 ^ (160 - 5 * i) = M / 2 ^ (160 - 5 * i) := by
    intro i
    induction i with
    | zero => intro _; rw [Nat.mul_zero, Nat.sub_zero, Nat.div_eq_of_lt hN, Nat.div_eq_of_lt hM]
    | succ i ih => intro hi; rw [top_step N i (by omega), top_step M i (by omega), ih (by omega), h i (by omega)]
  have := key 32 (by omega)
  simpa using this
theorem LT_inj : ∀ a b : Fin 32, LT.getD a.val 0 = LT.getD b.val 0 → a = b := by decide +kernel
theorem digN_lt (N i : Nat) : digN N i < 32 := Nat.mod_lt _ (by decide)
theorem ltrs_get (N n i : Nat) (h : i < n) : (ltrs N n).getD i 0 = ltr N i := by
  simp [ltrs, List.getD, h]
theorem ltrs_inj (N M : Nat) (hN : N < 2 ^ 160) (hM : M < 2 ^ 160) (h : ltrs N 32 = ltrs M 32) : N = M := by
  refine digN_inj N M hN hM fun i hi => ?_
  have h1 := ltrs_get N 32 i hi
  have h2 := ltrs_get M 32 i hi
  rw [h, h2] at h1
  have := LT_inj ⟨digN M i, digN_lt _ _⟩ ⟨digN N i, digN_lt _ _⟩ h1
  exact (congrArg Fin.val this).symm
theorem num20_lt (l : List UInt8) (h : l.length = 20) : numL l < 2 ^ 160 := by
  have := numL_lt l
  rw [h] at this
  exact this
theorem hashOf_inj (s t : List UInt8) (hs : s.length = 32) (ht : t.length = 32) (h : hashOf s = hashOf t) : s.take 20 = t.take 20 := by
  have l1 : (s.take 20).length = 20 := by rw [List.length_take]; omega
  have l2 : (t.take 20).length = 20 := by rw [List.length_take]; omega
  exact numL_inj _ _ (by omega) (ltrs_inj _ _ (num20_lt _ l1) (num20_lt _ l2) h)
/-- Five bits more behind r bits. -/
theorem have5 (M r : Nat) (hr : r ≤ 7) : M / 32 % 2 ^ r * 32 + M % 32 = M % 2 ^ (r + 5) := by
  match r, hr with
  | 0, _ => simp only [Nat.reducePow, Nat.reduceAdd]; omega
  | 1, _ => simp only [Nat.reducePow, Nat.reduceAdd]; omega
  | 2, _ => simp only [Nat.reducePow, Nat.reduceAdd]; omega
  | 3, _ => simp only [Nat.reducePow, Nat.reduceAdd]; omega
  | 4, _ => simp only [Nat.reducePow, Nat.reduceAdd]; omega
  | 5, _ => simp only [Nat.reducePow, Nat.reduceAdd]; omega
  | 6, _ => simp only [Nat.reducePow, Nat.reduceAdd]; omega
  | 7, _ => simp only [Nat.reducePow, Nat.reduceAdd]; omega
theorem take_byte (M r : Nat) (h3 : 3 ≤ r) (hr : r ≤ 7) : M % 2 ^ (r + 5) / 2 ^ (r - 3) = M / 2 ^ (r - 3) % 256 := by
  rw [show r + 5 = (r - 3) + 8 by omega, Nat.pow_add, Nat.mod_mul_right_div_self]
/-- The byte number q of twenty. -/
theorem byte_at (l : List UInt8) (h : l.length = 20) (q : Nat) (hq : q < 20) : (l.getD q 0).toNat = numL l / 2 ^ (8 * (19 - q)) % 256 := by
  have hi : q < l.length := by omega
  have h1 := numL_take l (q + 1) (by omega)
  rw [List.take_succ_eq_append_getElem hi, numL_snoc, h, show 20 - (q + 1) = 19 - q by omega] at h1
  rw [← h1]
  simp [List.getD, List.getElem?_eq_getElem hi]
end Go.Proofs.Ythacopmahjcmaaa
