/-
  The walks of name.Path, name.Split, works.
-/
import Derived.Test.YthacopmahjcmaaaN5
import Derived.BigQuiet
namespace Go.Proofs.Ythacopmahjcmaaa
open Go.RowKit Go.Maps
set_option linter.unusedVariables false

def pathL (h n : List UInt8) : List UInt8 × Int := if isH h = false then ([], 2) else if nameE n ≠ 0 then ([], nameE n) else (h ++ 45 :: n, 0)
def splitL (l : List UInt8) : List UInt8 × List UInt8 × Int :=
  if l.length ≤ 32 then ([], [], 4) else if l.getD 32 0 ≠ 45 then ([], [], 4) else
  if isH (l.take 32) = false then ([], [], 4) else if nameE (l.drop 33) ≠ 0 then ([], [], 4) else (l.take 32, l.drop 33, 0)

set_option maxRecDepth 100000 in
set_option maxHeartbeats 1000000 in
theorem path_any (h n : List UInt8) (hh : h.length ≤ 1000) (hn : n.length ≤ 1000) (w : World) :
    Calls Try.prog 20 #[.string ⟨h.toArray⟩, .string ⟨n.toArray⟩] w fun e w' => e = .returned (.tuple #[.string ⟨(pathL h n).1.toArray⟩, .int .i64 (pathL h n).2]) ∧ Below w.heap.size w w' := by
  have hdef : pathL h n = if isH h = false then ([], 2) else if nameE n ≠ 0 then ([], nameE n) else (h ++ 45 :: n, 0) := rfl
  have HD := hid hdef
  clear hdef
  go_enter Try.func20, Try.ntmps20
  go_wp2_with fail
  refine (isHash_any h (by omega) _).mono ?_
  rintro e w1 ⟨rfl, hB1⟩
  cases hi : isH h with
  | false =>
    have HI := hid hi
    clear hi
    go_wp2_with fail
    go_ret2
    exact ⟨by rw [HD.out, if_pos HI.out]; rfl, hB1⟩
  | true =>
    have HI := hid hi
    clear hi
    go_wp2_with fail
    refine (check_any n (by omega) _).mono ?_
    rintro e w2 ⟨rfl, hB2⟩
    have hb12 := hB1.trans (hB2.mono hB1.size)
    obtain ⟨v, hv⟩ : ∃ v, v = nameE n := ⟨_, rfl⟩
    rw [← hv]
    have HV := hid hv
    clear hv
    by_cases hz : v = 0
    · subst hz
      go_wp2_with fail
      go_ret2
      exact ⟨by rw [HD.out, if_neg (by rw [HI.out]; decide), if_neg (by rw [← HV.out]; decide)]; rfl, hb12⟩
    · go_wp2_with fail
      go_ret2
      exact ⟨by rw [HD.out, if_neg (by rw [HI.out]; decide), if_pos (by rw [← HV.out]; exact hz), ← HV.out]; rfl, hb12⟩

set_option maxRecDepth 100000 in
set_option maxHeartbeats 1000000 in
theorem split_any (l : List UInt8) (hl : l.length ≤ 1000) (w : World) :
    Calls Try.prog 22 #[.string ⟨l.toArray⟩] w fun e w' => e = .returned (.tuple #[.string ⟨(splitL l).1.toArray⟩, .string ⟨(splitL l).2.1.toArray⟩, .int .i64 (splitL l).2.2]) ∧ Below w.heap.size w w' := by
  by_cases h32 : l.length ≤ 32
  · have hi : (l.length : Int) ≤ 32 := by omega
    go_enter Try.func22, Try.ntmps22
    go_wp2_with fail
    go_ret3
    exact ⟨by rw [splitL, if_pos h32]; rfl, Below.refl _ _⟩
  · have hi : ¬ (l.length : Int) ≤ 32 := by omega
    have hix := fun W => run_index_at (P := Try.prog) 9 Try.underlying9 l 32 (by omega) _ rfl 32 rfl .i64 W
    obtain ⟨a, ha⟩ : ∃ a, a = l.getD 32 0 := ⟨_, rfl⟩
    rw [← ha] at hix
    by_cases h45 : a = 45
    · subst h45
      have hdef : splitL l = if isH (l.take 32) = false then ([], [], 4) else if nameE (l.drop 33) ≠ 0 then ([], [], 4) else (l.take 32, l.drop 33, 0) := by
        rw [splitL, if_neg h32, if_neg (by rw [← ha]; decide)]
      have HD := hid hdef
      clear hdef ha
      have hs1 : (32 : Int) ≤ l.length := by omega
      have hs2 : (33 : Int) ≤ l.length := by omega
      go_enter Try.func22, Try.ntmps22
      go_wp2_with fail
      go_quiet (fail)
      go_wp2_with fail
      have hB0 : Below w.heap.size w (w.drewN nq) := below_drewN (Below.refl _ _) nq
      have hsz : (w.drewN nq).heap.size = w.heap.size := rfl
      generalize w.drewN nq = w0 at hB0 hsz ⊢
      refine (isHash_any (l.take 32) (by simp; omega) _).mono ?_
      rintro e w1 ⟨rfl, hB1⟩
      rw [hsz] at hB1
      have hb1 := hB0.trans hB1
      clear hB1 hB0 hsz
      cases hi : isH (l.take 32) with
      | false =>
        have HI := hid hi
        clear hi
        go_wp2_with fail
        go_ret3
        exact ⟨by rw [HD.out, if_pos HI.out]; rfl, hb1⟩
      | true =>
        have HI := hid hi
        clear hi
        go_wp2_with fail
        refine (check_any (l.drop 33) (by simp; omega) _).mono ?_
        rintro e w2 ⟨rfl, hB2⟩
        have hb12 := hb1.trans (hB2.mono hb1.size)
        obtain ⟨v, hv⟩ : ∃ v, v = nameE (l.drop 33) := ⟨_, rfl⟩
        rw [← hv]
        have HV := hid hv
        clear hv
        by_cases hz : v = 0
        · subst hz
          go_wp2_with fail
          go_ret3
          exact ⟨by rw [HD.out, if_neg (by rw [HI.out]; decide), if_neg (by rw [← HV.out]; decide)]; rfl, hb12⟩
        · have hzb : (v == 0) = false := by simp [hz]
          go_wp2_with fail
          go_ret3
          exact ⟨by rw [HD.out, if_neg (by rw [HI.out]; decide), if_pos (by rw [← HV.out]; exact hz)]; rfl, hb12⟩
    · have hab : ((a.toNat : Int) == 45) = false := by
        rw [beq_eq_false_iff_ne]
        intro e
        apply h45
        exact UInt8.toNat_inj.1 (by have : a.toNat = 45 := by omega
                                    rw [this]; rfl)
      have hsp : splitL l = ([], [], 4) := by rw [splitL, if_neg h32, if_pos (by rw [← ha]; exact h45)]
      have HS := hid hsp
      clear hsp ha
      go_enter Try.func22, Try.ntmps22
      go_wp2_with fail
      go_ret3
      exact ⟨by rw [HS.out]; rfl, Below.refl _ _⟩
end Go.Proofs.Ythacopmahjcmaaa
