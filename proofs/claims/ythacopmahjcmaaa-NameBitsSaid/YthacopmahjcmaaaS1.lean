/-
  The walks of math/bits.Mul64, Add64, RotateLeft32, of the roots' tests and of the roots themselves.
-/
import Derived.Test.YthacopmahjcmaaaRows
import Derived.Test.YthacopmahjcmaaaGen
import Derived.Lib.Mul64
namespace Go.Proofs.Ythacopmahjcmaaa
open Go.RowKit
set_option linter.unusedVariables false

theorem maskN (a : Nat) (ha : a < 18446744073709551616) : bits .and .u64 (a : Int) 4294967295 = ((a % 4294967296 : Nat) : Int) := by
  have h := u64_and_nat a 4294967295 ha (by omega)
  have e : a &&& 4294967295 = a % 4294967296 := Nat.and_two_pow_sub_one_eq_mod a 32
  rw [e] at h
  exact h
theorem divN (a : Nat) : (a : Int) / 4294967296 = ((a / 4294967296 : Nat) : Int) := by omega
theorem mulN (a b : Nat) : (a : Int) * (b : Int) = ((a * b : Nat) : Int) := (Int.natCast_mul a b).symm
theorem addN (a b : Nat) : (a : Int) + (b : Int) = ((a + b : Nat) : Int) := (Int.natCast_add a b).symm
theorem wrapN (a : Nat) (ha : a < 18446744073709551616) : IntKind.u64.wrap (a : Int) = (a : Int) := by rw [IntKind.wrap_u64]; omega
theorem wrapM (a : Nat) : IntKind.u64.wrap (a : Int) = ((a % 18446744073709551616 : Nat) : Int) := by rw [IntKind.wrap_u64]; omega

/-- A product, in two words. -/
def mulHi (x y : Nat) : Nat := x * y / 18446744073709551616
def mulLo (x y : Nat) : Nat := x * y % 18446744073709551616
theorem mulLo_lt (x y : Nat) : mulLo x y < 18446744073709551616 := Nat.mod_lt _ (by decide)
theorem mulHi_lt (x y : Nat) (hx : x < 18446744073709551616) (hy : y < 18446744073709551616) : mulHi x y < 18446744073709551616 := by
  unfold mulHi
  rw [Nat.div_lt_iff_lt_mul (by decide)]
  exact Nat.mul_lt_mul_of_lt_of_lt hx hy

set_option maxHeartbeats 1000000 in
theorem mul64_any (x y : Nat) (hx : x < 18446744073709551616) (hy : y < 18446744073709551616) (w : World) :
    Calls Try.prog 61 #[.int .u64 x, .int .u64 y] w fun e w' => e = .returned (.tuple #[.int .u64 (mulHi x y : Nat), .int .u64 (mulLo x y : Nat)]) ∧ w = w' := by
  obtain ⟨bd, bt, bw, hhi⟩ := Lib.mul64_hi x y hx hy
  have ba := Lib.half_mul_le (a := x / 4294967296) (b := y / 4294967296) (by omega) (by omega)
  have bb := Lib.half_mul_le (a := x / 4294967296) (b := y % 4294967296) (by omega) (by omega)
  have bc := Lib.half_mul_le (a := x % 4294967296) (b := y / 4294967296) (by omega) (by omega)
  have ba' : x / 4294967296 * (y / 4294967296) < 18446744073709551616 := by omega
  have bb' : x / 4294967296 * (y % 4294967296) < 18446744073709551616 := by omega
  have bc' : x % 4294967296 * (y / 4294967296) < 18446744073709551616 := by omega
  have bh1 : x / 4294967296 * (y / 4294967296) + (x / 4294967296 * (y % 4294967296) + x % 4294967296 * (y % 4294967296) / 4294967296) / 4294967296 < 18446744073709551616 := by omega
  have bh : x / 4294967296 * (y / 4294967296) + (x / 4294967296 * (y % 4294967296) + x % 4294967296 * (y % 4294967296) / 4294967296) / 4294967296 + ((x / 4294967296 * (y % 4294967296) + x % 4294967296 * (y % 4294967296) / 4294967296) % 4294967296 + x % 4294967296 * (y / 4294967296)) / 4294967296 < 18446744073709551616 := by omega
  go_enter Try.func61, Try.ntmps61
  go_wp2
  simp only [maskN x hx, maskN y hy, divN, mulN, addN, wrapN _ bd, wrapN _ bb', wrapN _ bt, maskN _ bt, wrapN _ bc', wrapN _ bw, wrapN _ ba', wrapN _ bh1, wrapN _ bh, wrapM (x * y)]
  rw [hhi]
  go_ret2
  exact ⟨rfl, rfl⟩

/-! ## The roots -/
def squareB (x p : Nat) : Bool := decide (p < mulHi x x) || (decide (mulHi x x = p) && decide (0 < mulLo x x))
/-- The sum of the middle words, its carry. -/
def cubeMid (x : Nat) : Nat := mulHi (mulLo x x) x + mulLo (mulHi x x) x
def cubeB (x p : Nat) : Bool :=
  if 0 < mulHi (mulHi x x) x + cubeMid x / 18446744073709551616 then true
  else decide (p * 4294967296 < cubeMid x % 18446744073709551616) || (decide (cubeMid x % 18446744073709551616 = p * 4294967296) && decide (0 < mulLo (mulLo x x) x))
def rootF (ab : Nat → Bool) : Nat → Nat → Nat → Nat
  | 0, low, _ => low
  | f + 1, low, high => if high - low ≤ 1 then low else if ab ((low + high) / 2) then rootF ab f low ((low + high) / 2) else rootF ab f ((low + high) / 2) high

theorem add64_run (x y : Nat) (hx : x < 18446744073709551616) (hy : y < 18446744073709551616) (w : World) :
    (callFunc 62 #[.int .u64 x, .int .u64 y, .int .u64 0]).run Try.prog w =
      .ok (.value (.tuple #[.int .u64 (((x + y) % 18446744073709551616 : Nat) : Int), .int .u64 (((x + y) / 18446744073709551616 : Nat) : Int)])) w := by
  rw [run_callFunc_extern Try.func62 (by kernel_rfl) (by kernel_rfl) (by kernel_rfl) (e := add64Entry) (by kernel_rfl), run_add64 x y 0 (by omega) (by omega) (by omega) (by omega)]
  simp only [Result.andThen]
  congr 5 <;> omega

set_option maxHeartbeats 400000 in
theorem squareAbove_any (x p : Nat) (hx : x < 18446744073709551616) (hp : p < 18446744073709551616) (w : World) :
    Calls Try.prog 51 #[.int .u64 x, .int .u64 p] w fun e w' => e = .returned (.bool (squareB x p)) ∧ w = w' := by
  have hb : squareB x p = (decide (p < mulHi x x) || (decide (mulHi x x = p) && decide (0 < mulLo x x))) := rfl
  generalize squareB x p = r at *
  have HB := hid hb
  clear hb
  have hM := mul64_any x x hx hx w
  have HM := hid hM
  clear hM
  generalize mulHi x x = h at *
  generalize mulLo x x = l at *
  go_enter Try.func51, Try.ntmps51
  go_wp2_with fail
  refine HM.out.mono ?_
  rintro e w' ⟨rfl, rfl⟩
  go_wp2_with fail
  all_goals
    go_ret
    refine ⟨ret_bool ?_, rfl⟩
    go_light
    rw [HB.out]
    rcases Nat.lt_trichotomy p h with q | q | q
    · simp [q]; try omega
    · subst q; simp; try omega
    · have q1 : ¬ p < h := by omega
      have q2 : ¬ h = p := by omega
      simp [q1, q2]; try omega

theorem mulHi_small (x : Nat) (hx : x < 68719476736) : mulHi x x < 256 ∧ mulHi (mulHi x x) x = 0 := by
  have h1 : mulHi x x < 256 := by
    unfold mulHi
    rw [Nat.div_lt_iff_lt_mul (by decide)]
    exact Nat.lt_of_lt_of_le (Nat.mul_lt_mul_of_lt_of_lt hx hx) (by decide)
  refine ⟨h1, ?_⟩
  generalize mulHi x x = h at h1 ⊢
  unfold mulHi
  exact Nat.div_eq_of_lt (Nat.lt_of_lt_of_le (Nat.mul_lt_mul_of_lt_of_lt h1 hx) (by decide))
theorem cubeB_eq (x p : Nat) (hx : x < 68719476736) : ∃ cy md l1 : Nat, cy = (mulHi (mulLo x x) x + mulLo (mulHi x x) x) / 18446744073709551616 ∧ md = (mulHi (mulLo x x) x + mulLo (mulHi x x) x) % 18446744073709551616 ∧ l1 = mulLo (mulLo x x) x ∧
    cy ≤ 1 ∧ cubeB x p = (if 0 < cy then true else decide (p * 4294967296 < md) || (decide (md = p * 4294967296) && decide (0 < l1))) := by
  obtain ⟨h1, h2⟩ := mulHi_small x hx
  refine ⟨_, _, _, rfl, rfl, rfl, ?_, ?_⟩
  · have c1 := mulHi_lt (mulLo x x) x (mulLo_lt _ _) (by omega)
    have c2 := mulLo_lt (mulHi x x) x
    omega
  · unfold cubeB cubeMid
    rw [h2, Nat.zero_add]

set_option maxHeartbeats 400000 in
theorem cubeAbove_any (x p : Nat) (hx : x < 68719476736) (hp : p < 65536) (w : World) :
    Calls Try.prog 50 #[.int .u64 x, .int .u64 p] w fun e w' => e = .returned (.bool (cubeB x p)) ∧ w = w' := by
  have b1 := mulLo_lt x x
  obtain ⟨b2, h20⟩ := mulHi_small x hx
  obtain ⟨cy, md, l1, ecy, emd, el1, hcy, hb⟩ := cubeB_eq x p hx
  have M1 := fun W => mul64_any x x (by omega) (by omega) W
  have M2 := fun W => mul64_any (mulLo x x) x b1 (by omega) W
  have M3 := fun W => mul64_any (mulHi x x) x (by omega) (by omega) W
  have hadd := fun W => add64_run _ _ (mulHi_lt (mulLo x x) x b1 (by omega)) (mulLo_lt (mulHi x x) x) W
  rw [← ecy, ← emd] at hadd
  rw [← el1] at M2
  rw [h20] at M3
  generalize mulHi (mulLo x x) x = h1 at *
  generalize mulLo (mulHi x x) x = l2 at *
  generalize mulHi x x = hi at *
  generalize mulLo x x = lo at *
  generalize cubeB x p = r at *
  obtain ⟨q, hq⟩ : ∃ q, q = p * 4294967296 := ⟨_, rfl⟩
  rw [← hq] at hb
  have hql : q < 281474976710656 := by omega
  have hm : (p : Int) * 4294967296 = (q : Int) := by omega
  have HB := hid hb
  have HM1 := hid M1
  have HM2 := hid M2
  have HM3 := hid M3
  clear hb M1 M2 M3 b1 ecy emd el1 h20 hq
  go_enter Try.func50, Try.ntmps50
  go_wp2_with fail
  refine (HM1.out _).mono ?_
  rintro e w' ⟨rfl, rfl⟩
  go_wp2_with fail
  refine (HM2.out _).mono ?_
  rintro e w' ⟨rfl, rfl⟩
  go_wp2_with fail
  refine (HM3.out _).mono ?_
  rintro e w' ⟨rfl, rfl⟩
  go_wp2_with fail
  all_goals
    go_ret
    refine ⟨ret_bool ?_, rfl⟩
    go_light
    rw [HB.out]
    by_cases h0 : 0 < cy
    · simp [h0]; try omega
    · rw [if_neg h0]
      rcases Nat.lt_trichotomy q md with k | k | k
      · simp [k]; try omega
      · subst k; simp; try omega
      · have q1 : ¬ q < md := by omega
        have q2 : ¬ md = q := by omega
        simp [q1, q2]; try omega

theorem rootF_lt (ab : Nat → Bool) : ∀ f low high, low < high → rootF ab f low high < high
  | 0, low, high, h => h
  | f + 1, low, high, h => by
    rw [rootF]
    split
    · exact h
    · split
      · have := rootF_lt ab f low ((low + high) / 2) (by omega)
        omega
      · exact rootF_lt ab f ((low + high) / 2) high (by omega)

/-- What a root's loop knows: f rounds at most are to come. -/
def RT (ab : Nat → Bool) (R : Nat) (w : World) (f : Nat) (v5 v6 : Value) (wr : World) : Prop :=
  ∃ low high : Nat, low < high ∧ high ≤ 68719476736 ∧ high - low ≤ 2 ^ f ∧ rootF ab f low high = R ∧ v5 = .int .u64 low ∧ v6 = .int .u64 high ∧ w = wr

theorem RT_step {ab : Nat → Bool} {R : Nat} {f low high : Nat} (h1 : low < high) (h3 : high - low ≤ 2 ^ f) (h4 : rootF ab f low high = R) (hb : 1 < high - low) :
    ∃ g, f = g + 1 ∧ low < (low + high) / 2 ∧ (low + high) / 2 < high ∧ (ab ((low + high) / 2) = true → (low + high) / 2 - low ≤ 2 ^ g ∧ rootF ab g low ((low + high) / 2) = R) ∧
      (ab ((low + high) / 2) = false → high - (low + high) / 2 ≤ 2 ^ g ∧ rootF ab g ((low + high) / 2) high = R) := by
  obtain ⟨g, rfl⟩ : ∃ g, f = g + 1 := by
    rcases Nat.eq_zero_or_pos f with h | h
    · subst h; simp at h3; omega
    · exact ⟨f - 1, by omega⟩
  rw [Nat.pow_succ] at h3
  rw [rootF, if_neg (by omega)] at h4
  refine ⟨g, rfl, by omega, by omega, fun ha => ⟨by omega, ?_⟩, fun ha => ⟨by omega, ?_⟩⟩
  · rw [if_pos ha] at h4; exact h4
  · rw [if_neg (by simp [ha])] at h4; exact h4
theorem RT_end {ab : Nat → Bool} {R : Nat} {f low high : Nat} (h4 : rootF ab f low high = R) (hb : ¬ 1 < high - low) : low = R := by
  rw [← h4]
  cases f with
  | zero => rfl
  | succ g => rw [rootF, if_pos (by omega)]

/-- The constant of a root. -/
def rootC (ab : Nat → Bool) : UInt32 := UInt32.ofNat (rootF ab 36 0 68719476736)

set_option maxHeartbeats 400000 in
theorem root_cube (p : Nat) (hp : p < 65536) (w : World) :
    Calls Try.prog 49 #[.int .u64 p, .func (.func 50) #[] #[]] w fun e w' => e = .returned (.int .u32 ((rootC fun x => cubeB x p).toNat : Nat)) ∧ w = w' := by
  obtain ⟨R, hR⟩ : ∃ R, R = rootF (fun x => cubeB x p) 36 0 68719476736 := ⟨_, rfl⟩
  have hc : (rootC fun x => cubeB x p).toNat = R % 4294967296 := by rw [rootC, ← hR]; simp
  have hRl : R < 68719476736 := by rw [hR]; exact rootF_lt _ _ _ _ (by omega)
  rw [hc]
  have HR := hid hR
  clear hc hR
  go_enter Try.func49, Try.ntmps49
  go_wp2_with fail
  go_loopg [5, 6] 36 (fun f v5 v6 wr => RT (fun x => cubeB x p) R w f v5 v6 wr)
  case atStart => exact ⟨0, 68719476736, by omega, Nat.le_refl _, by decide, HR.out.symm, rfl, rfl, rfl⟩
  case round =>
    obtain ⟨low, high, h1, h2, h3, h4, rfl, rfl, rfl⟩ := hrel
    have h3' := hid h3
    have h4' := hid h4
    clear h3 h4
    by_cases hb : 1 < high - low
    · obtain ⟨g, rfl, m1, m2, s1, s2⟩ := RT_step h1 h3'.out h4'.out hb
      have ha : 0 ≤ ((low : Int) + high) := by omega
      have em : ((low : Int) + (high : Int)) / 2 = (((low + high) / 2 : Nat) : Int) := by omega
      generalize (low + high) / 2 = m at *
      have H1 := hid s1
      have H2 := hid s2
      have C := hid (cubeAbove_any m p (by omega) hp w)
      clear s1 s2
      go_wp2_with fail
      refine C.out.mono ?_
      rintro e w' ⟨rfl, rfl⟩
      by_cases hab : cubeB m p = true
      · obtain ⟨t1, t2⟩ := H1.out hab
        have T1 := hid t1
        have T2 := hid t2
        have EM := hid em
        clear t1 t2 em
        go_wp2_with fail
        go_roundg g
        case measure => omega
        case rel => exact ⟨low, m, m1, by omega, T1.out, T2.out, rfl, int_cast EM.out, rfl⟩
      · have hab' : cubeB m p = false := by simpa using hab
        obtain ⟨t1, t2⟩ := H2.out hab'
        have T1 := hid t1
        have T2 := hid t2
        have EM := hid em
        clear t1 t2 em
        go_wp2_with fail
        go_roundg g
        case measure => omega
        case rel => exact ⟨m, high, m2, by omega, T1.out, T2.out, int_cast EM.out, rfl, rfl⟩
    · have e := RT_end h4'.out hb
      go_wp2_with fail
      go_ret
      exact ⟨ret_int (by omega), rfl⟩

set_option maxHeartbeats 400000 in
theorem root_square (p : Nat) (hp : p < 65536) (w : World) :
    Calls Try.prog 49 #[.int .u64 p, .func (.func 51) #[] #[]] w fun e w' => e = .returned (.int .u32 ((rootC fun x => squareB x p).toNat : Nat)) ∧ w = w' := by
  obtain ⟨R, hR⟩ : ∃ R, R = rootF (fun x => squareB x p) 36 0 68719476736 := ⟨_, rfl⟩
  have hc : (rootC fun x => squareB x p).toNat = R % 4294967296 := by rw [rootC, ← hR]; simp
  have hRl : R < 68719476736 := by rw [hR]; exact rootF_lt _ _ _ _ (by omega)
  rw [hc]
  have HR := hid hR
  clear hc hR
  go_enter Try.func49, Try.ntmps49
  go_wp2_with fail
  go_loopg [5, 6] 36 (fun f v5 v6 wr => RT (fun x => squareB x p) R w f v5 v6 wr)
  case atStart => exact ⟨0, 68719476736, by omega, Nat.le_refl _, by decide, HR.out.symm, rfl, rfl, rfl⟩
  case round =>
    obtain ⟨low, high, h1, h2, h3, h4, rfl, rfl, rfl⟩ := hrel
    have h3' := hid h3
    have h4' := hid h4
    clear h3 h4
    by_cases hb : 1 < high - low
    · obtain ⟨g, rfl, m1, m2, s1, s2⟩ := RT_step h1 h3'.out h4'.out hb
      have ha : 0 ≤ ((low : Int) + high) := by omega
      have em : ((low : Int) + (high : Int)) / 2 = (((low + high) / 2 : Nat) : Int) := by omega
      generalize (low + high) / 2 = m at *
      have H1 := hid s1
      have H2 := hid s2
      have C := hid (squareAbove_any m p (by omega) (by omega) w)
      clear s1 s2
      go_wp2_with fail
      refine C.out.mono ?_
      rintro e w' ⟨rfl, rfl⟩
      by_cases hab : squareB m p = true
      · obtain ⟨t1, t2⟩ := H1.out hab
        have T1 := hid t1
        have T2 := hid t2
        have EM := hid em
        clear t1 t2 em
        go_wp2_with fail
        go_roundg g
        case measure => omega
        case rel => exact ⟨low, m, m1, by omega, T1.out, T2.out, rfl, int_cast EM.out, rfl⟩
      · have hab' : squareB m p = false := by simpa using hab
        obtain ⟨t1, t2⟩ := H2.out hab'
        have T1 := hid t1
        have T2 := hid t2
        have EM := hid em
        clear t1 t2 em
        go_wp2_with fail
        go_roundg g
        case measure => omega
        case rel => exact ⟨m, high, m2, by omega, T1.out, T2.out, int_cast EM.out, rfl, rfl⟩
    · have e := RT_end h4'.out hb
      go_wp2_with fail
      go_ret
      exact ⟨ret_int (by omega), rfl⟩
end Go.Proofs.Ythacopmahjcmaaa
