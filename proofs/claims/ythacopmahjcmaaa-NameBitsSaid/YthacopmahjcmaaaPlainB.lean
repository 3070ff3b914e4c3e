/-
  What a block comes to: words, the schedule, the rounds.
-/
import Derived.Test.YthacopmahjcmaaaS4
import Derived.Test.YthacopmahjcmaaaS5
namespace Go.Proofs.Ythacopmahjcmaaa
open Go.RowKit
set_option linter.unusedVariables false

/-! ## What a block comes to -/
/-- A word out of four bytes. -/
def be4 (p0 p1 p2 p3 : UInt8) : UInt32 := wo (wo (wo (UInt32.ofNat (p0.toNat * 16777216)) (UInt32.ofNat (p1.toNat * 65536))) (UInt32.ofNat (p2.toNat * 256))) (UInt32.ofNat p3.toNat)
def beAt (bs : List UInt8) (i : Nat) : UInt32 := be4 (bs.getD (4 * i) 0) (bs.getD (4 * i + 1) 0) (bs.getD (4 * i + 2) 0) (bs.getD (4 * i + 3) 0)
def sg0 (x : UInt32) : UInt32 := wx (wx (rotr x 7) (rotr x 18)) (wsr x 3)
def sg1 (x : UInt32) : UInt32 := wx (wx (rotr x 17) (rotr x 19)) (wsr x 10)
def schedWord (bs : List UInt8) (l : List UInt32) (i : Nat) : UInt32 :=
  if i < 16 then beAt bs i else wa (wa (wa (l.getD (i - 16) 0) (sg0 (l.getD (i - 15) 0))) (l.getD (i - 7) 0)) (sg1 (l.getD (i - 2) 0))
def sched (bs : List UInt8) : Nat → List UInt32
  | 0 => []
  | i + 1 => sched bs i ++ [schedWord bs (sched bs i) i]
theorem sched_len (bs : List UInt8) : ∀ i, (sched bs i).length = i
  | 0 => rfl
  | i + 1 => by simp [sched, sched_len bs i]
/-- The row of words that is filled so far. -/
def schedRow (bs : List UInt8) (i : Nat) : List UInt32 := sched bs i ++ List.replicate (64 - i) 0
theorem schedRow_len (bs : List UInt8) (i : Nat) (h : i ≤ 64) : (schedRow bs i).length = 64 := by simp [schedRow, sched_len]; omega
theorem schedRow_set (bs : List UInt8) (i : Nat) (h : i < 64) : (schedRow bs i).set i (schedWord bs (sched bs i) i) = schedRow bs (i + 1) := by
  unfold schedRow
  rw [List.set_append_right _ _ (by rw [sched_len]; exact Nat.le_refl _), sched_len, Nat.sub_self]
  obtain ⟨d, hd⟩ : ∃ d, 64 - i = d + 1 := ⟨64 - i - 1, by omega⟩
  rw [hd, show 64 - (i + 1) = d by omega, List.replicate_succ, List.set_cons_zero, sched, List.append_assoc]
  rfl
theorem schedRow_get (bs : List UInt8) (i j : Nat) (h : j < i) (hi : i ≤ 64) : (schedRow bs i)[j]? = some ((sched bs i).getD j 0) := by
  unfold schedRow
  have hl : j < (sched bs i).length := by rw [sched_len]; exact h
  rw [List.getElem?_append_left hl, List.getElem?_eq_getElem hl]
  simp [List.getD, List.getElem?_eq_getElem hl]


theorem wx_zero (x : UInt32) : wx 0 x = x := by simp [wx]
theorem rots_two (x : UInt32) (a b : Nat) : rots x [a, b] = wx (rotr x a) (rotr x b) := by simp [rots, wx_zero]
theorem rots_three (x : UInt32) (a b c : Nat) : rots x [a, b, c] = wx (wx (rotr x a) (rotr x b)) (rotr x c) := by simp [rots, wx_zero]
/-- One round. -/
def bg1 (e : UInt32) : UInt32 := wx (wx (rotr e 6) (rotr e 11)) (rotr e 25)
def bg0 (a : UInt32) : UInt32 := wx (wx (rotr a 2) (rotr a 13)) (rotr a 22)
def chs (e f g : UInt32) : UInt32 := wx (wn e f) (wn (wc e) g)
def maj (a b c : UInt32) : UInt32 := wx (wx (wn a b) (wn a c)) (wn b c)
def rx (e f g h k w : UInt32) : UInt32 := wa (wa (wa (wa h (bg1 e)) (chs e f g)) k) w
def ry (a b c : UInt32) : UInt32 := wa (bg0 a) (maj a b c)
def rnd (v : List UInt32) (k w : UInt32) : List UInt32 :=
  match v with
  | [a, b, c, d, e, f, g, h] => [wa (rx e f g h k w) (ry a b c), a, b, c, wa d (rx e f g h k w), e, f, g]
  | _ => v
theorem rnd_len (v : List UInt32) (k w : UInt32) : (rnd v k w).length = v.length := by
  unfold rnd
  split <;> rfl
/-- The words behind i rounds. -/
def rnds (ks ws : List UInt32) (v : List UInt32) : Nat → List UInt32
  | 0 => v
  | i + 1 => rnd (rnds ks ws v i) (ks.getD i 0) (ws.getD i 0)
theorem rnds_len (ks ws v : List UInt32) : ∀ i, (rnds ks ws v i).length = v.length
  | 0 => rfl
  | i + 1 => by rw [rnds, rnd_len, rnds_len ks ws v i]
/-- The sums of two rows of words. -/
def addW (h v : List UInt32) : List UInt32 := List.zipWith wa h v
/-- What a block comes to. -/
def blockF (h : List UInt32) (bs : List UInt8) : List UInt32 := addW h (rnds Kc (sched bs 64) h 64)
theorem blockF_len (h : List UInt32) (bs : List UInt8) : (blockF h bs).length = h.length := by simp [blockF, addW, rnds_len]
theorem eight (l : List UInt32) (h : l.length = 8) : ∃ a b c d e f g k, l = [a, b, c, d, e, f, g, k] := by
  match l, h with
  | [a, b, c, d, e, f, g, k], _ => exact ⟨a, b, c, d, e, f, g, k, rfl⟩
end Go.Proofs.Ythacopmahjcmaaa
