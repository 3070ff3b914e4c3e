/-
  Words of 32 bits: turns; the walks of the reference's turned, of RotateLeft32 and of the program's closure that joins turns.
-/
import Derived.Test.YthacopmahjcmaaaS3
import Derived.Deep.QuietTactic
import Derived.BigQuiet
namespace Go.Proofs.Ythacopmahjcmaaa
open Go.RowKit
set_option linter.unusedVariables false

/-- x turned right by n. -/
def rotr (x : UInt32) (n : Nat) : UInt32 := UInt32.ofNat ((x.toNat / 2 ^ n) ||| (x.toNat * 2 ^ (32 - n) % 4294967296))
theorem rotr_nat (x : UInt32) (n : Nat) : (rotr x n).toNat = (x.toNat / 2 ^ n) ||| (x.toNat * 2 ^ (32 - n) % 4294967296) := by
  have h1 : x.toNat / 2 ^ n < 2 ^ 32 := Nat.lt_of_le_of_lt (Nat.div_le_self _ _) x.toNat_lt
  have h2 : x.toNat * 2 ^ (32 - n) % 4294967296 < 2 ^ 32 := Nat.mod_lt _ (by decide)
  have := Nat.or_lt_two_pow h1 h2
  unfold rotr
  rw [UInt32.toNat_ofNat']
  exact Nat.mod_eq_of_lt this
theorem rotr_int (x : UInt32) (n : Nat) : bits .or .u32 ((x.toNat : Int) / 2 ^ n) ((x.toNat : Int) * 2 ^ (32 - n) % 4294967296) = ((rotr x n).toNat : Int) := by
  have e1 : (x.toNat : Int) / 2 ^ n = ((x.toNat / 2 ^ n : Nat) : Int) := by rw [Int.natCast_ediv]; simp
  have e2 : (x.toNat : Int) * 2 ^ (32 - n) % 4294967296 = ((x.toNat * 2 ^ (32 - n) % 4294967296 : Nat) : Int) := by rw [Int.natCast_emod, Int.natCast_mul]; simp
  have h1 : x.toNat / 2 ^ n < 4294967296 := Nat.lt_of_le_of_lt (Nat.div_le_self _ _) x.toNat_lt
  have h2 : x.toNat * 2 ^ (32 - n) % 4294967296 < 4294967296 := Nat.mod_lt _ (by decide)
  rw [e1, e2, u32_or_nat _ _ h1 h2, rotr_nat]

theorem rotr_int2 (x : UInt32) (n : Nat) (h : n ≤ 31) : bits .or .u32 ((x.toNat : Int) * 2 ^ (32 - n) % 4294967296) ((x.toNat : Int) / 2 ^ (32 - (32 - n))) = ((rotr x n).toNat : Int) := by
  have e1 : (x.toNat : Int) / 2 ^ n = ((x.toNat / 2 ^ n : Nat) : Int) := by rw [Int.natCast_ediv]; simp
  have e2 : (x.toNat : Int) * 2 ^ (32 - n) % 4294967296 = ((x.toNat * 2 ^ (32 - n) % 4294967296 : Nat) : Int) := by rw [Int.natCast_emod, Int.natCast_mul]; simp
  have h1 : x.toNat / 2 ^ n < 4294967296 := Nat.lt_of_le_of_lt (Nat.div_le_self _ _) x.toNat_lt
  have h2 : x.toNat * 2 ^ (32 - n) % 4294967296 < 4294967296 := Nat.mod_lt _ (by decide)
  rw [show 32 - (32 - n) = n by omega, e1, e2, u32_or_nat _ _ h2 h1, rotr_nat, Nat.or_comm]

set_option maxHeartbeats 400000 in
theorem turned_any (x : UInt32) (n : Nat) (h1 : 1 ≤ n) (h2 : n ≤ 31) (w : World) :
    Calls Try.prog 57 #[.int .u32 x.toNat, .int .i64 n] w fun e w' => e = .returned (.int .u32 (rotr x n).toNat) ∧ w' = w.drewN 1 := by
  have g1 : (0 : Int) ≤ (n : Int) := by omega
  have g2 : (0 : Int) ≤ 32 - (n : Int) := by omega
  have hw : IntKind.i64.wrap (32 - (n : Int)) = 32 - (n : Int) := IntWalk.i64_in _ (by omega)
  go_enter Try.func57, Try.ntmps57
  go_wp2
  go_region
  go_wp2
  go_ret
  exact ⟨ret_int (rotr_int x n), rfl⟩

theorem mask31 (n : Nat) (h1 : 1 ≤ n) (h2 : n ≤ 31) : bits .and .u64 (IntKind.u64.wrap (-(n : Int))) 31 = 32 - (n : Int) := by
  have e : IntKind.u64.wrap (-(n : Int)) = ((18446744073709551616 - n : Nat) : Int) := by rw [IntKind.wrap_u64]; omega
  have h := u64_and_nat (18446744073709551616 - n) 31 (by omega) (by omega)
  rw [nat_mask5] at h
  rw [e]
  refine h.trans ?_
  omega

set_option maxHeartbeats 400000 in
theorem rot_any (x : UInt32) (n : Nat) (h1 : 1 ≤ n) (h2 : n ≤ 31) (w : World) :
    Calls Try.prog 54 #[.int .u32 x.toNat, .int .i64 (-(n : Int))] w fun e w' => e = .returned (.int .u32 (rotr x n).toNat) ∧ w = w' := by
  have g1 : (0 : Int) ≤ (n : Int) := by omega
  have g2 : (0 : Int) ≤ 32 - (n : Int) := by omega
  have hm := mask31 n h1 h2
  go_enter Try.func54, Try.ntmps54
  go_wp2
  go_ret
  exact ⟨ret_int (rotr_int2 x n h2), rfl⟩

/-! ## The walk's words on u32 -/
/- Names of their own, so that the walk's simp leaves them as they are. -/
def wx (x y : UInt32) : UInt32 := x ^^^ y
def wn (x y : UInt32) : UInt32 := x &&& y
def wo (x y : UInt32) : UInt32 := x ||| y
def wa (x y : UInt32) : UInt32 := x + y
def wc (x : UInt32) : UInt32 := ~~~ x
def wsr (x : UInt32) (n : Nat) : UInt32 := UInt32.ofNat (x.toNat / 2 ^ n)
theorem w_xor (x y : UInt32) : bits .xor .u32 (x.toNat : Int) (y.toNat : Int) = ((wx x y).toNat : Int) := by
  rw [u32_xor_nat _ _ x.toNat_lt y.toNat_lt, wx, UInt32.toNat_xor]
theorem w_and (x y : UInt32) : bits .and .u32 (x.toNat : Int) (y.toNat : Int) = ((wn x y).toNat : Int) := by
  rw [u32_and_nat _ _ x.toNat_lt y.toNat_lt, wn, UInt32.toNat_and]
theorem w_or (x y : UInt32) : bits .or .u32 (x.toNat : Int) (y.toNat : Int) = ((wo x y).toNat : Int) := by
  rw [u32_or_nat _ _ x.toNat_lt y.toNat_lt, wo, UInt32.toNat_or]
theorem w_add (x y : UInt32) : IntKind.u32.wrap ((x.toNat : Int) + (y.toNat : Int)) = ((wa x y).toNat : Int) := by
  rw [IntKind.wrap_u32', wa, UInt32.toNat_add]
  omega
theorem w_add' (x y : UInt32) : ((x.toNat : Int) + (y.toNat : Int)) % 4294967296 = ((wa x y).toNat : Int) := by
  rw [wa, UInt32.toNat_add]
  omega

/-- Turns, joined. -/
def rots (x : UInt32) (ns : List Nat) : UInt32 := ns.foldl (fun o n => wx o (rotr x n)) 0
def iv (ns : List Nat) : List Value := ns.map fun (n : Nat) => Value.int .i64 (n : Int)
theorem iv_length (l : List Nat) : (iv l).length = l.length := by simp [iv]
theorem iv_get (l : List Nat) (j : Nat) (h : j < l.length) : (iv l)[j]? = some (.int .i64 (l[j] : Int)) := by simp [iv, h]
theorem rots_step (x : UInt32) (ns : List Nat) (j : Nat) (h : j < ns.length) : rots x (ns.take (j + 1)) = wx (rots x (ns.take j)) (rotr x ns[j]) := by
  unfold rots
  rw [List.take_succ_eq_append_getElem h, List.foldl_append]
  rfl

set_option maxHeartbeats 400000 in
theorem right_any (x : UInt32) (ns : List Nat) (hns : ∀ n ∈ ns, 1 ≤ n ∧ n ≤ 31) (hl : ns.length ≤ 16) (A : Option Addr) (c g : Nat) (w : World) (hr : Rd w g A ns.length (iv ns)) :
    Calls Try.prog 53 #[.int .u32 x.toNat, .slice A ns.length c] w fun e w' => e = .returned (.int .u32 (rots x ns).toNat) ∧ w = w' := by
  go_enter Try.func53, Try.ntmps53
  go_wp2
  go_loopg [4, 9] ns.length (fun m v4 v9 wr => ∃ i : Nat, m + i = ns.length ∧ v9 = .int .i64 i ∧ v4 = .int .u32 (rots x (ns.take i)).toNat ∧ w = wr)
  case atStart => exact ⟨0, by omega, rfl, rfl, rfl⟩
  case round =>
    obtain ⟨i, hi, rfl, rfl, rfl⟩ := hrel
    have HI := hid hi
    clear hi
    by_cases hlt : i < ns.length
    · obtain ⟨b, off, u, rfl, _, _, hu, hc⟩ := hr.at_ hlt
      rw [iv_get ns i hlt] at hu
      injection hu with hu
      subst hu
      obtain ⟨n1, n2⟩ := hns _ (List.getElem_mem hlt)
      have hst := rots_step x ns i hlt
      generalize ns[i] = n at *
      have HR := hid (fun W => rot_any x n n1 n2 W)
      have HS := hid hst
      have hwx := w_xor (rots x (ns.take i)) (rotr x n)
      clear hst hr
      go_wp2_with (go_at_call 54; refine (HR.out _).mono ?_; rintro e w' ⟨rfl, rfl⟩)
      go_roundg (gk - 1)
      case measure => go_light; have := HI.out; omega
      case rel =>
        go_light
        have := HI.out
        exact ⟨i + 1, by omega, int_cast (by omega), by rw [HS.out], rfl⟩
    · have hii : i = ns.length := by have := HI.out; omega
      subst hii
      rw [List.take_length]
      go_wp2
      go_ret
      exact ⟨rfl, rfl⟩
end Go.Proofs.Ythacopmahjcmaaa
