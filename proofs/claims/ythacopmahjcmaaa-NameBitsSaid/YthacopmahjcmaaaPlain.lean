/-
  The first primes, and what trial division finds of them. No program in sight.
-/
import Derived.Test.YthacopmahjcmaaaGen
namespace Go.Proofs.Ythacopmahjcmaaa
open Go.RowKit

def P64 : List Nat := [2, 3, 5, 7, 11, 13, 17, 19, 23, 29, 31, 37, 41, 43, 47, 53, 59, 61, 67, 71, 73, 79, 83, 89, 97, 101, 103, 107, 109, 113, 127, 131, 137, 139, 149, 151, 157, 163, 167, 173, 179, 181, 191, 193, 197, 199, 211, 223, 227, 229, 233, 239, 241, 251, 257, 263, 269, 271, 277, 281, 283, 293, 307, 311]
/-- Those below x. -/
def pre (x : Nat) : List Nat := P64.filter fun p => decide (p < x)
/-- No one of a list divides x. -/
def noneDiv (x : Nat) (l : List Nat) : Bool := l.all fun p => x % p != 0

theorem pre_all : ∀ x, x < 312 → 2 ≤ x → pre (x + 1) = (if noneDiv x (pre x) = true then pre x ++ [x] else pre x) ∧ (pre x).length < 64 := by decide +kernel
theorem pre_end : pre 312 = P64 := by decide +kernel
theorem pre_bd : ∀ p ∈ P64, 2 ≤ p ∧ p < 312 := by decide +kernel
theorem pre_mem (x p : Nat) (h : p ∈ pre x) : 2 ≤ p ∧ p < 312 := pre_bd p (List.mem_filter.1 h).1
theorem pre_two : pre 2 = [] := by decide +kernel
theorem pre_len (x : Nat) : (pre x).length ≤ 64 := Nat.le_trans (List.length_filter_le _ _) (by decide)

/-- The cells of numbers. -/
def pv (l : List Nat) : List Value := l.map fun (n : Nat) => Value.int .u64 (n : Int)
theorem pv_length (l : List Nat) : (pv l).length = l.length := by simp [pv]
theorem pv_get (l : List Nat) (j : Nat) (h : j < l.length) : (pv l)[j]? = some (.int .u64 (l[j] : Int)) := by simp [pv, h]
theorem pv_snoc (l : List Nat) (n : Nat) : pv (l ++ [n]) = pv l ++ [.int .u64 (n : Int)] := by simp [pv]

theorem own_at {w : World} {base : Nat} {e : TypeId} {v : Value} {n : Nat} {xs : List Value} (h : w.ownsRow base e 1 v n xs) {k : Nat} (hk : k < n) :
    ∃ g cap u, v = .slice (some ⟨g, 0, none⟩) n cap ∧ base ≤ g ∧ g < w.heap.size ∧ xs[k]? = some u ∧ w.cell? ⟨g, k, none⟩ = some u := by
  rcases h.2 with ⟨_, h0⟩ | ⟨g, cap, cur, rfl, hb, hg, hc, hm, hs, ht⟩
  · omega
  · have hl : k < xs.length := by have := h.1; omega
    have hlt : g < w.heap.size := by
      rcases Nat.lt_or_ge g w.heap.size with q | q
      · exact q
      · rw [Array.getElem?_eq_none q] at hg; cases hg
    refine ⟨g, cap, xs[k], rfl, hb, hlt, List.getElem?_eq_getElem hl, ?_⟩
    rw [h.cellAt k (by omega), List.getElem?_eq_getElem hl]

theorem noneDiv_step (x : Nat) (l : List Nat) (i : Nat) (h : i < l.length) : noneDiv x (l.take (i + 1)) = (noneDiv x (l.take i) && (x % l[i] != 0)) := by
  unfold noneDiv
  rw [List.take_succ_eq_append_getElem h, List.all_append]
  simp
theorem noneDiv_false (x : Nat) (l : List Nat) (i : Nat) (h : noneDiv x (l.take i) = false) : noneDiv x l = false := by
  unfold noneDiv at *
  rw [List.all_eq_false] at h ⊢
  obtain ⟨p, hp, hq⟩ := h
  exact ⟨p, List.mem_of_mem_take hp, hq⟩
end Go.Proofs.Ythacopmahjcmaaa
