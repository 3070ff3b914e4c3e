/-
  The hash of bytes: five bits a letter. No program in sight.
-/
import Derived.Test.YthacopmahjcmaaaPlainC
namespace Go.Proofs.Ythacopmahjcmaaa
open Go.RowKit
set_option linter.unusedVariables false

def LT : List UInt8 := [48, 49, 50, 51, 52, 53, 54, 55, 56, 57, 97, 98, 99, 100, 102, 103, 104, 105, 106, 107, 108, 109, 110, 112, 113, 114, 115, 118, 119, 120, 121, 122]
theorem LT_len : LT.length = 32 := rfl
/-- Bytes as one number, the first one highest. -/
def numL (l : List UInt8) : Nat := l.foldl (fun n b => n * 256 + b.toNat) 0
theorem foldl_num (l : List UInt8) : ∀ n, l.foldl (fun n b => n * 256 + b.toNat) n = n * 256 ^ l.length + numL l := by
  induction l with
  | nil => intro n; simp [numL]
  | cons b l ih =>
    intro n
    have h1 := ih (n * 256 + b.toNat)
    have h2 := ih (0 * 256 + b.toNat)
    have h3 : numL (b :: l) = (0 * 256 + b.toNat) * 256 ^ l.length + numL l := h2
    rw [List.foldl_cons, h1, h3, List.length_cons, Nat.pow_succ]
    simp [Nat.add_mul, Nat.mul_assoc, Nat.mul_comm 256, Nat.add_assoc]
theorem numL_append (l k : List UInt8) : numL (l ++ k) = numL l * 256 ^ k.length + numL k := by
  rw [numL, List.foldl_append, foldl_num]
  rfl
theorem numL_snoc (l : List UInt8) (b : UInt8) : numL (l ++ [b]) = numL l * 256 + b.toNat := by
  rw [numL_append]
  simp [numL]
theorem numL_lt : ∀ l : List UInt8, numL l < 256 ^ l.length
  | [] => by simp [numL]
  | b :: l => by
    have hb := b.toNat_lt
    have ih := numL_lt l
    have h3 : numL (b :: l) = (0 * 256 + b.toNat) * 256 ^ l.length + numL l := foldl_num l _
    have h4 : (b.toNat + 1) * 256 ^ l.length ≤ 256 * 256 ^ l.length := Nat.mul_le_mul_right _ (by omega)
    rw [Nat.add_mul] at h4
    rw [h3, List.length_cons, Nat.pow_succ, Nat.mul_comm (256 ^ l.length)]
    simp only [Nat.zero_mul, Nat.zero_add]
    omega
/-- What stands ahead is the number, cut off. -/
theorem numL_take (l : List UInt8) (i : Nat) (h : i ≤ l.length) : numL (l.take i) = numL l / 2 ^ (8 * (l.length - i)) := by
  have h1 := numL_append (l.take i) (l.drop i)
  have h2 := numL_lt (l.drop i)
  rw [List.take_append_drop] at h1
  rw [List.length_drop] at h1 h2
  have hp : 256 ^ (l.length - i) = 2 ^ (8 * (l.length - i)) := by rw [show (256 : Nat) = 2 ^ 8 from rfl, ← Nat.pow_mul]
  rw [hp] at h1 h2
  rw [h1, Nat.mul_comm, Nat.mul_add_div (Nat.two_pow_pos _), Nat.div_eq_of_lt h2, Nat.add_zero]
/-- Five bits. -/
def digN (n j : Nat) : Nat := n / 2 ^ (155 - 5 * j) % 32
def ltr (n j : Nat) : UInt8 := LT.getD (digN n j) 0
def ltrs (n q : Nat) : List UInt8 := (List.range q).map (ltr n)
theorem ltrs_len (n q : Nat) : (ltrs n q).length = q := by simp [ltrs]
theorem ltrs_succ (n q : Nat) : ltrs n (q + 1) = ltrs n q ++ [ltr n q] := by simp [ltrs, List.range_succ]
/-- The hash of a sum's first twenty bytes. -/
def hashOf (bs : List UInt8) : List UInt8 := ltrs (numL (bs.take 20)) 32
def hashL (l : List UInt8) : List UInt8 := hashOf (sumL l)
theorem hashL_len (l : List UInt8) : (hashL l).length = 32 := ltrs_len _ _
theorem mod_div_mod (n a t : Nat) (h : t + 5 ≤ a) : n % 2 ^ a / 2 ^ t % 32 = n / 2 ^ t % 32 := by
  obtain ⟨d, rfl⟩ : ∃ d, a = t + (5 + d) := ⟨a - t - 5, by omega⟩
  rw [Nat.pow_add, Nat.mod_mul_right_div_self, Nat.pow_add, Nat.mod_mul_right_mod]
/-- The digit that comes behind t bits of the first i bytes. -/
theorem digN_part (bs : List UInt8) (hb : bs.length = 20) (i q t : Nat) (hi : i ≤ 20) (ht : 5 * (q + 1) + t = 8 * i) : numL (bs.take i) / 2 ^ t % 32 = digN (numL bs) q := by
  rw [numL_take bs i (by omega), Nat.div_div_eq_div_mul, ← Nat.pow_add, digN, hb]
  congr 3
  omega
/-- One byte more. -/
theorem have_step (n r : Nat) (b : UInt8) (hr : r ≤ 4) : n % 2 ^ r * 256 + b.toNat = (n * 256 + b.toNat) % 2 ^ (r + 8) := by
  have hb := b.toNat_lt
  match r, hr with
  | 0, _ => simp only [Nat.reducePow, Nat.reduceAdd]; omega
  | 1, _ => simp only [Nat.reducePow, Nat.reduceAdd]; omega
  | 2, _ => simp only [Nat.reducePow, Nat.reduceAdd]; omega
  | 3, _ => simp only [Nat.reducePow, Nat.reduceAdd]; omega
  | 4, _ => simp only [Nat.reducePow, Nat.reduceAdd]; omega
theorem mod_mod_pow (n a t : Nat) (h : t ≤ a) : n % 2 ^ a % 2 ^ t = n % 2 ^ t := Nat.mod_mod_of_dvd n (Nat.pow_dvd_pow 2 h)
end Go.Proofs.Ythacopmahjcmaaa
