/-
  Blocks reckoned quickly: the words of a state in one number, the rounds by numbers alone. No program in sight.
-/
import Derived.Test.YthacopmahjcmaaaPlainC
namespace Go.Proofs.Ythacopmahjcmaaa
open Go.RowKit
set_option linter.unusedVariables false

/-- The constants, and the words at first, written out. -/
def KL : List UInt32 := [1116352408, 1899447441, 3049323471, 3921009573, 961987163, 1508970993, 2453635748, 2870763221, 3624381080, 310598401, 607225278, 1426881987, 1925078388, 2162078206, 2614888103, 3248222580, 3835390401, 4022224774, 264347078, 604807628, 770255983, 1249150122, 1555081692, 1996064986, 2554220882, 2821834349, 2952996808, 3210313671, 3336571891, 3584528711, 113926993, 338241895, 666307205, 773529912, 1294757372, 1396182291, 1695183700, 1986661051, 2177026350, 2456956037, 2730485921, 2820302411, 3259730800, 3345764771, 3516065817, 3600352804, 4094571909, 275423344, 430227734, 506948616, 659060556, 883997877, 958139571, 1322822218, 1537002063, 1747873779, 1955562222, 2024104815, 2227730452, 2361852424, 2428436474, 2756734187, 3204031479, 3329325298]
def HL : List UInt32 := [1779033703, 3144134277, 1013904242, 2773480762, 1359893119, 2600822924, 528734635, 1541459225]
set_option maxRecDepth 100000 in
theorem Kc_lit : Kc = KL := by decide +kernel
set_option maxRecDepth 100000 in
theorem Hc_lit : Hc = HL := by decide +kernel

theorem wx_nat (x y : UInt32) : (wx x y).toNat = x.toNat ^^^ y.toNat := UInt32.toNat_xor x y
theorem wn_nat (x y : UInt32) : (wn x y).toNat = x.toNat &&& y.toNat := UInt32.toNat_and x y
theorem wa_nat (x y : UInt32) : (wa x y).toNat = (x.toNat + y.toNat) % 4294967296 := UInt32.toNat_add x y
theorem wc_nat (x : UInt32) : (wc x).toNat = 4294967295 - x.toNat := by rw [wc, UInt32.toNat_not]; rfl
theorem rot2 (x : UInt32) : (rotr x 2).toNat = (x.toNat * 4294967297) >>> 2 % 4294967296 := by
  have hx := x.toNat_lt
  have h1 : x.toNat * 2 ^ (32 - 2) % 4294967296 = 2 ^ 30 * (x.toNat % 4) := by simp only [Nat.reduceSub, Nat.reducePow]; omega
  have h2 : x.toNat / 2 ^ 2 < 2 ^ 30 := by simp only [Nat.reducePow]; omega
  have h3 : x.toNat * 4294967297 / 4 = 4294967296 * (x.toNat / 4) + (1073741824 * (x.toNat % 4) + x.toNat / 4) := by omega
  rw [rotr_nat, h1, Nat.or_comm, ← Nat.two_pow_add_eq_or_of_lt h2, Nat.shiftRight_eq_div_pow]
  simp only [Nat.reducePow]
  rw [h3, Nat.mul_add_mod]
  exact (Nat.mod_eq_of_lt (by omega)).symm
theorem rot6 (x : UInt32) : (rotr x 6).toNat = (x.toNat * 4294967297) >>> 6 % 4294967296 := by
  have hx := x.toNat_lt
  have h1 : x.toNat * 2 ^ (32 - 6) % 4294967296 = 2 ^ 26 * (x.toNat % 64) := by simp only [Nat.reduceSub, Nat.reducePow]; omega
  have h2 : x.toNat / 2 ^ 6 < 2 ^ 26 := by simp only [Nat.reducePow]; omega
  have h3 : x.toNat * 4294967297 / 64 = 4294967296 * (x.toNat / 64) + (67108864 * (x.toNat % 64) + x.toNat / 64) := by omega
  rw [rotr_nat, h1, Nat.or_comm, ← Nat.two_pow_add_eq_or_of_lt h2, Nat.shiftRight_eq_div_pow]
  simp only [Nat.reducePow]
  rw [h3, Nat.mul_add_mod]
  exact (Nat.mod_eq_of_lt (by omega)).symm
theorem rot11 (x : UInt32) : (rotr x 11).toNat = (x.toNat * 4294967297) >>> 11 % 4294967296 := by
  have hx := x.toNat_lt
  have h1 : x.toNat * 2 ^ (32 - 11) % 4294967296 = 2 ^ 21 * (x.toNat % 2048) := by simp only [Nat.reduceSub, Nat.reducePow]; omega
  have h2 : x.toNat / 2 ^ 11 < 2 ^ 21 := by simp only [Nat.reducePow]; omega
  have h3 : x.toNat * 4294967297 / 2048 = 4294967296 * (x.toNat / 2048) + (2097152 * (x.toNat % 2048) + x.toNat / 2048) := by omega
  rw [rotr_nat, h1, Nat.or_comm, ← Nat.two_pow_add_eq_or_of_lt h2, Nat.shiftRight_eq_div_pow]
  simp only [Nat.reducePow]
  rw [h3, Nat.mul_add_mod]
  exact (Nat.mod_eq_of_lt (by omega)).symm
theorem rot13 (x : UInt32) : (rotr x 13).toNat = (x.toNat * 4294967297) >>> 13 % 4294967296 := by
  have hx := x.toNat_lt
  have h1 : x.toNat * 2 ^ (32 - 13) % 4294967296 = 2 ^ 19 * (x.toNat % 8192) := by simp only [Nat.reduceSub, Nat.reducePow]; omega
  have h2 : x.toNat / 2 ^ 13 < 2 ^ 19 := by simp only [Nat.reducePow]; omega
  have h3 : x.toNat * 4294967297 / 8192 = 4294967296 * (x.toNat / 8192) + (524288 * (x.toNat % 8192) + x.toNat / 8192) := by omega
  rw [rotr_nat, h1, Nat.or_comm, ← Nat.two_pow_add_eq_or_of_lt h2, Nat.shiftRight_eq_div_pow]
  simp only [Nat.reducePow]
  rw [h3, Nat.mul_add_mod]
  exact (Nat.mod_eq_of_lt (by omega)).symm
theorem rot22 (x : UInt32) : (rotr x 22).toNat = (x.toNat * 4294967297) >>> 22 % 4294967296 := by
  have hx := x.toNat_lt
  have h1 : x.toNat * 2 ^ (32 - 22) % 4294967296 = 2 ^ 10 * (x.toNat % 4194304) := by simp only [Nat.reduceSub, Nat.reducePow]; omega
  have h2 : x.toNat / 2 ^ 22 < 2 ^ 10 := by simp only [Nat.reducePow]; omega
  have h3 : x.toNat * 4294967297 / 4194304 = 4294967296 * (x.toNat / 4194304) + (1024 * (x.toNat % 4194304) + x.toNat / 4194304) := by omega
  rw [rotr_nat, h1, Nat.or_comm, ← Nat.two_pow_add_eq_or_of_lt h2, Nat.shiftRight_eq_div_pow]
  simp only [Nat.reducePow]
  rw [h3, Nat.mul_add_mod]
  exact (Nat.mod_eq_of_lt (by omega)).symm
theorem rot25 (x : UInt32) : (rotr x 25).toNat = (x.toNat * 4294967297) >>> 25 % 4294967296 := by
  have hx := x.toNat_lt
  have h1 : x.toNat * 2 ^ (32 - 25) % 4294967296 = 2 ^ 7 * (x.toNat % 33554432) := by simp only [Nat.reduceSub, Nat.reducePow]; omega
  have h2 : x.toNat / 2 ^ 25 < 2 ^ 7 := by simp only [Nat.reducePow]; omega
  have h3 : x.toNat * 4294967297 / 33554432 = 4294967296 * (x.toNat / 33554432) + (128 * (x.toNat % 33554432) + x.toNat / 33554432) := by omega
  rw [rotr_nat, h1, Nat.or_comm, ← Nat.two_pow_add_eq_or_of_lt h2, Nat.shiftRight_eq_div_pow]
  simp only [Nat.reducePow]
  rw [h3, Nat.mul_add_mod]
  exact (Nat.mod_eq_of_lt (by omega)).symm

/-- k at n, n reckoned first. -/
def force (n : Nat) (k : Nat → Nat) : Nat := Nat.rec (k 0) (fun m _ => k (Nat.succ m)) n
theorem force_eq (n : Nat) (k : Nat → Nat) : force n k = k n := by cases n <;> rfl
def s1N (e : Nat) : Nat := force (Nat.mul e 4294967297) fun d => Nat.mod (Nat.xor (Nat.xor (Nat.shiftRight d 6) (Nat.shiftRight d 11)) (Nat.shiftRight d 25)) 4294967296
def s0N (e : Nat) : Nat := force (Nat.mul e 4294967297) fun d => Nat.mod (Nat.xor (Nat.xor (Nat.shiftRight d 2) (Nat.shiftRight d 13)) (Nat.shiftRight d 22)) 4294967296
def chN (e f g : Nat) : Nat := Nat.xor (Nat.land e f) (Nat.land (Nat.sub 4294967295 e) g)
def mjN (a b c : Nat) : Nat := Nat.xor (Nat.xor (Nat.land a b) (Nat.land a c)) (Nat.land b c)
theorem xor3_mod (a b c : Nat) : (a ^^^ b ^^^ c) % 4294967296 = (a % 4294967296) ^^^ (b % 4294967296) ^^^ (c % 4294967296) := by
  have h := fun x y => Nat.xor_mod_two_pow (a := x) (b := y) (n := 32)
  simp only [Nat.reducePow] at h
  rw [h, h]
theorem s1_nat (e : UInt32) : (bg1 e).toNat = s1N e.toNat := by
  rw [bg1, wx_nat, wx_nat, rot6, rot11, rot25, s1N, force_eq, ← xor3_mod]
  rfl
theorem s0_nat (e : UInt32) : (bg0 e).toNat = s0N e.toNat := by
  rw [bg0, wx_nat, wx_nat, rot2, rot13, rot22, s0N, force_eq, ← xor3_mod]
  rfl
theorem ch_nat (e f g : UInt32) : (chs e f g).toNat = chN e.toNat f.toNat g.toNat := by
  rw [chs, wx_nat, wn_nat, wn_nat, wc_nat]
  rfl
theorem mj_nat (a b c : UInt32) : (maj a b c).toNat = mjN a.toNat b.toNat c.toNat := by
  rw [maj, wx_nat, wx_nat, wn_nat, wn_nat, wn_nat]
  rfl

/-- Words in one number; and back. -/
def pk (l : List UInt32) : Nat := l.foldl (fun n x => n * 4294967296 + x.toNat) 0
def unpk (n : Nat) : List UInt32 := [UInt32.ofNat (n >>> 224), UInt32.ofNat (n >>> 192), UInt32.ofNat (n >>> 160), UInt32.ofNat (n >>> 128), UInt32.ofNat (n >>> 96), UInt32.ofNat (n >>> 64), UInt32.ofNat (n >>> 32), UInt32.ofNat n]
theorem shr_one (n : Nat) (x : UInt32) : (n * 4294967296 + x.toNat) >>> 32 = n := by
  have := x.toNat_lt
  rw [Nat.shiftRight_eq_div_pow]
  simp only [Nat.reducePow]
  omega
section
variable (n : Nat) (a b c d e f g h : UInt32)
def pk8 : Nat := ((((((a.toNat * 4294967296 + b.toNat) * 4294967296 + c.toNat) * 4294967296 + d.toNat) * 4294967296 + e.toNat) * 4294967296 + f.toNat) * 4294967296 + g.toNat) * 4294967296 + h.toNat
theorem pk_eq : pk [a, b, c, d, e, f, g, h] = pk8 a b c d e f g h := by simp [pk, pk8]
theorem sh1 : pk8 a b c d e f g h >>> 32 = (((((a.toNat * 4294967296 + b.toNat) * 4294967296 + c.toNat) * 4294967296 + d.toNat) * 4294967296 + e.toNat) * 4294967296 + f.toNat) * 4294967296 + g.toNat := shr_one _ h
theorem sh2 : pk8 a b c d e f g h >>> 64 = ((((a.toNat * 4294967296 + b.toNat) * 4294967296 + c.toNat) * 4294967296 + d.toNat) * 4294967296 + e.toNat) * 4294967296 + f.toNat := by
  rw [show 64 = 32 + 32 from rfl, Nat.shiftRight_add, sh1, shr_one]
theorem sh3 : pk8 a b c d e f g h >>> 96 = (((a.toNat * 4294967296 + b.toNat) * 4294967296 + c.toNat) * 4294967296 + d.toNat) * 4294967296 + e.toNat := by
  rw [show 96 = 64 + 32 from rfl, Nat.shiftRight_add, sh2, shr_one]
theorem sh4 : pk8 a b c d e f g h >>> 128 = ((a.toNat * 4294967296 + b.toNat) * 4294967296 + c.toNat) * 4294967296 + d.toNat := by
  rw [show 128 = 96 + 32 from rfl, Nat.shiftRight_add, sh3, shr_one]
theorem sh5 : pk8 a b c d e f g h >>> 160 = (a.toNat * 4294967296 + b.toNat) * 4294967296 + c.toNat := by
  rw [show 160 = 128 + 32 from rfl, Nat.shiftRight_add, sh4, shr_one]
theorem sh6 : pk8 a b c d e f g h >>> 192 = a.toNat * 4294967296 + b.toNat := by
  rw [show 192 = 160 + 32 from rfl, Nat.shiftRight_add, sh5, shr_one]
theorem sh7 : pk8 a b c d e f g h >>> 224 = a.toNat := by
  rw [show 224 = 192 + 32 from rfl, Nat.shiftRight_add, sh6, shr_one]
theorem low_mod (x : UInt32) : (n * 4294967296 + x.toNat) % 4294967296 = x.toNat := by
  have := x.toNat_lt
  omega
theorem ofNat_low (x : UInt32) : UInt32.ofNat (n * 4294967296 + x.toNat) = x := by
  apply UInt32.toNat_inj.1
  rw [UInt32.toNat_ofNat']
  exact low_mod n x
theorem unpk8 : unpk (pk8 a b c d e f g h) = [a, b, c, d, e, f, g, h] := by
  have h0 : UInt32.ofNat a.toNat = a := UInt32.ofNat_toNat
  rw [unpk, sh1, sh2, sh3, sh4, sh5, sh6, sh7, h0, ofNat_low, ofNat_low, ofNat_low, ofNat_low, ofNat_low, ofNat_low]
  congr 7
  exact congrArg (fun x => [x]) (ofNat_low _ h)
end
theorem unpk_pk (l : List UInt32) (hl : l.length = 8) : unpk (pk l) = l := by
  obtain ⟨a, b, c, d, e, f, g, k, rfl⟩ := eight l hl
  rw [pk_eq, unpk8]

/-- The end of a block: the words that stood there at first are added. -/
def finN (s a b c d e f g h : Nat) : Nat :=
  Nat.add (Nat.mul (Nat.add (Nat.mul (Nat.add (Nat.mul (Nat.add (Nat.mul (Nat.add (Nat.mul (Nat.add (Nat.mul (Nat.add (Nat.mul
    (Nat.mod (Nat.add (Nat.shiftRight s 224) a) 4294967296) 4294967296) (Nat.mod (Nat.add (Nat.shiftRight s 192) b) 4294967296)) 4294967296) (Nat.mod (Nat.add (Nat.shiftRight s 160) c) 4294967296)) 4294967296)
    (Nat.mod (Nat.add (Nat.shiftRight s 128) d) 4294967296)) 4294967296) (Nat.mod (Nat.add (Nat.shiftRight s 96) e) 4294967296)) 4294967296) (Nat.mod (Nat.add (Nat.shiftRight s 64) f) 4294967296)) 4294967296)
    (Nat.mod (Nat.add (Nat.shiftRight s 32) g) 4294967296)) 4294967296) (Nat.mod (Nat.add s h) 4294967296)
theorem add_low (n : Nat) (x y : UInt32) : (n * 4294967296 + x.toNat + y.toNat) % 4294967296 = (wa x y).toNat := by
  rw [wa_nat]
  omega
theorem finN_eq (a b c d e f g h a' b' c' d' e' f' g' h' : UInt32) :
    finN (pk8 a b c d e f g h) a'.toNat b'.toNat c'.toNat d'.toNat e'.toNat f'.toNat g'.toNat h'.toNat = pk (addW [a, b, c, d, e, f, g, h] [a', b', c', d', e', f', g', h']) := by
  have e0 := add_low ((((((a.toNat * 4294967296 + b.toNat) * 4294967296 + c.toNat) * 4294967296 + d.toNat) * 4294967296 + e.toNat) * 4294967296 + f.toNat) * 4294967296 + g.toNat) h h'
  show (((((((((pk8 a b c d e f g h >>> 224) + a'.toNat) % 4294967296) * 4294967296 + ((pk8 a b c d e f g h >>> 192) + b'.toNat) % 4294967296) * 4294967296 + ((pk8 a b c d e f g h >>> 160) + c'.toNat) % 4294967296) * 4294967296
    + ((pk8 a b c d e f g h >>> 128) + d'.toNat) % 4294967296) * 4294967296 + ((pk8 a b c d e f g h >>> 96) + e'.toNat) % 4294967296) * 4294967296 + ((pk8 a b c d e f g h >>> 64) + f'.toNat) % 4294967296) * 4294967296
    + ((pk8 a b c d e f g h >>> 32) + g'.toNat) % 4294967296) * 4294967296 + (pk8 a b c d e f g h + h'.toNat) % 4294967296 = _
  rw [sh1, sh2, sh3, sh4, sh5, sh6, sh7, add_low, add_low, add_low, add_low, add_low, add_low, ← wa_nat]
  rw [show pk8 a b c d e f g h = ((((((a.toNat * 4294967296 + b.toNat) * 4294967296 + c.toNat) * 4294967296 + d.toNat) * 4294967296 + e.toNat) * 4294967296 + f.toNat) * 4294967296 + g.toNat) * 4294967296 + h.toNat from rfl, e0]
  rw [show addW [a, b, c, d, e, f, g, h] [a', b', c', d', e', f', g', h'] = [wa a a', wa b b', wa c c', wa d d', wa e e', wa f f', wa g g', wa h h'] from rfl, pk_eq]
  rfl

/-- l rounds; kp: the sums of constants and words, the last one lowest. -/
def rndsN (s kp l : Nat) : Nat → Nat → Nat → Nat → Nat → Nat → Nat → Nat → Nat :=
  Nat.rec (fun a b c d e f g h => finN s a b c d e f g h)
    (fun m ih a b c d e f g h => force (Nat.add (Nat.add (Nat.add h (s1N e)) (chN e f g)) (Nat.mod (Nat.shiftRight kp (Nat.mul 32 m)) 4294967296)) fun x =>
      force (Nat.mod (Nat.add (Nat.add x (s0N a)) (mjN a b c)) 4294967296) fun a' =>
      force (Nat.mod (Nat.add d x) 4294967296) fun e' => ih a' a b c e' e f g) l
def kwAt (kp m : Nat) : Nat := kp >>> (32 * m) % 4294967296
theorem rndsN_step (s kp m a b c d e f g h : Nat) : rndsN s kp (m + 1) a b c d e f g h =
    force (Nat.add (Nat.add (Nat.add h (s1N e)) (chN e f g)) (Nat.mod (Nat.shiftRight kp (Nat.mul 32 m)) 4294967296)) fun x =>
      force (Nat.mod (Nat.add (Nat.add x (s0N a)) (mjN a b c)) 4294967296) fun a' =>
      force (Nat.mod (Nat.add d x) 4294967296) fun e' => rndsN s kp m a' a b c e' e f g := rfl
theorem rndsN_succ (s kp m a b c d e f g h : Nat) : rndsN s kp (m + 1) a b c d e f g h =
    rndsN s kp m ((h + s1N e + chN e f g + kwAt kp m + s0N a + mjN a b c) % 4294967296) a b c ((d + (h + s1N e + chN e f g + kwAt kp m)) % 4294967296) e f g := by
  rw [rndsN_step, force_eq, force_eq, force_eq]
  rfl
theorem rnd_nat (a b c d e f g h k w : UInt32) (x : Nat) (hx : x = (k.toNat + w.toNat) % 4294967296) :
    (h.toNat + s1N e.toNat + chN e.toNat f.toNat g.toNat + x + s0N a.toNat + mjN a.toNat b.toNat c.toNat) % 4294967296 = (wa (rx e f g h k w) (ry a b c)).toNat ∧
    (d.toNat + (h.toNat + s1N e.toNat + chN e.toNat f.toNat g.toNat + x)) % 4294967296 = (wa d (rx e f g h k w)).toNat := by
  simp only [rx, ry, wa_nat, s1_nat, s0_nat, ch_nat, mj_nat]
  constructor <;> omega
/-- From round i on, to the end. -/
theorem rndsN_eq (ks ws : List UInt32) (kp : Nat) (hkw : ∀ m, m < 64 → kwAt kp m = ((ks.getD (63 - m) 0).toNat + (ws.getD (63 - m) 0).toNat) % 4294967296) (v : List UInt32) (hv : v.length = 8) (s0 : List UInt32) (hs : s0.length = 8) :
    ∀ m, m ≤ 64 → ∀ a b c d e f g h, rnds ks ws v (64 - m) = [a, b, c, d, e, f, g, h] →
      rndsN (pk s0) kp m a.toNat b.toNat c.toNat d.toNat e.toNat f.toNat g.toNat h.toNat = pk (addW s0 (rnds ks ws v 64)) := by
  intro m
  induction m with
  | zero =>
    intro _ a b c d e f g h hr
    obtain ⟨p, q, r, t, u, x, y, z, rfl⟩ := eight s0 hs
    rw [show rnds ks ws v 64 = [a, b, c, d, e, f, g, h] from hr, pk_eq]
    exact finN_eq _ _ _ _ _ _ _ _ _ _ _ _ _ _ _ _
  | succ m ih =>
    intro hm a b c d e f g h hr
    have hn : rnds ks ws v (64 - m) = rnd [a, b, c, d, e, f, g, h] (ks.getD (63 - m) 0) (ws.getD (63 - m) 0) := by
      rw [show 64 - m = (63 - m) + 1 by omega, rnds, show 63 - m = 64 - (m + 1) by omega, hr]
    obtain ⟨h1, h2⟩ := rnd_nat a b c d e f g h (ks.getD (63 - m) 0) (ws.getD (63 - m) 0) _ (hkw m (by omega))
    rw [rndsN_succ, h1, h2]
    exact ih (by omega) _ _ _ _ _ _ _ _ hn
/-- A block. -/
def blkN' (kp s : Nat) : Nat :=
  force (Nat.shiftRight s 224) fun a => force (Nat.mod (Nat.shiftRight s 192) 4294967296) fun b => force (Nat.mod (Nat.shiftRight s 160) 4294967296) fun c => force (Nat.mod (Nat.shiftRight s 128) 4294967296) fun d =>
  force (Nat.mod (Nat.shiftRight s 96) 4294967296) fun e => force (Nat.mod (Nat.shiftRight s 64) 4294967296) fun f => force (Nat.mod (Nat.shiftRight s 32) 4294967296) fun g => force (Nat.mod s 4294967296) fun h => rndsN s kp 64 a b c d e f g h
theorem blkN'_eq (bs : List UInt8) (kp : Nat) (hkw : ∀ m, m < 64 → kwAt kp m = ((Kc.getD (63 - m) 0).toNat + ((sched bs 64).getD (63 - m) 0).toNat) % 4294967296) (v : List UInt32) (hv : v.length = 8) :
    blkN' kp (pk v) = pk (blockF v bs) := by
  have hr := rndsN_eq Kc (sched bs 64) kp hkw v hv v hv 64 (Nat.le_refl _)
  obtain ⟨a, b, c, d, e, f, g, h, rfl⟩ := eight v hv
  have := hr a b c d e f g h rfl
  rw [blkN', force_eq, force_eq, force_eq, force_eq, force_eq, force_eq, force_eq, force_eq, blockF, ← this]
  rw [pk_eq]
  have g7 : Nat.shiftRight (pk8 a b c d e f g h) 224 = a.toNat := sh7 a b c d e f g h
  have g6 : Nat.mod (Nat.shiftRight (pk8 a b c d e f g h) 192) 4294967296 = b.toNat := by show (pk8 a b c d e f g h >>> 192) % 4294967296 = _; rw [sh6, low_mod]
  have g5 : Nat.mod (Nat.shiftRight (pk8 a b c d e f g h) 160) 4294967296 = c.toNat := by show (pk8 a b c d e f g h >>> 160) % 4294967296 = _; rw [sh5, low_mod]
  have g4 : Nat.mod (Nat.shiftRight (pk8 a b c d e f g h) 128) 4294967296 = d.toNat := by show (pk8 a b c d e f g h >>> 128) % 4294967296 = _; rw [sh4, low_mod]
  have g3 : Nat.mod (Nat.shiftRight (pk8 a b c d e f g h) 96) 4294967296 = e.toNat := by show (pk8 a b c d e f g h >>> 96) % 4294967296 = _; rw [sh3, low_mod]
  have g2 : Nat.mod (Nat.shiftRight (pk8 a b c d e f g h) 64) 4294967296 = f.toNat := by show (pk8 a b c d e f g h >>> 64) % 4294967296 = _; rw [sh2, low_mod]
  have g1 : Nat.mod (Nat.shiftRight (pk8 a b c d e f g h) 32) 4294967296 = g.toNat := by show (pk8 a b c d e f g h >>> 32) % 4294967296 = _; rw [sh1, low_mod]
  have g0 : Nat.mod (pk8 a b c d e f g h) 4294967296 = h.toNat := low_mod _ h
  rw [g7, g6, g5, g4, g3, g2, g1, g0]

/-- A row of words that meets the schedule's rule is the schedule. -/
theorem schedWord_take (bs : List UInt8) (L : List UInt32) (i : Nat) : schedWord bs (L.take i) i = schedWord bs L i := by
  unfold schedWord
  split
  · rfl
  · have hg : ∀ j, j < i → (L.take i).getD j 0 = L.getD j 0 := fun j hj => by simp [List.getD, hj]
    rw [hg (i - 16) (by omega), hg (i - 15) (by omega), hg (i - 7) (by omega), hg (i - 2) (by omega)]
theorem sched_of (bs : List UInt8) (L : List UInt32) (hL : L.length = 64) (h : ∀ i, i < 64 → L.getD i 0 = schedWord bs L i) : sched bs 64 = L := by
  have key : ∀ i, i ≤ 64 → sched bs i = L.take i := by
    intro i
    induction i with
    | zero => intro _; simp [sched]
    | succ i ih =>
      intro hi
      have hil : i < L.length := by omega
      rw [sched, ih (by omega), schedWord_take, ← h i (by omega), List.take_succ_eq_append_getElem hil]
      simp [List.getD, List.getElem?_eq_getElem hil]
  rw [key 64 (Nat.le_refl _), List.take_of_length_le (by omega)]

def nilB : List UInt8 := [128, 0, 0, 0, 0, 0, 0, 0, 0, 0, 0, 0, 0, 0, 0, 0, 0, 0, 0, 0, 0, 0, 0, 0, 0, 0, 0, 0, 0, 0, 0, 0, 0, 0, 0, 0, 0, 0, 0, 0, 0, 0, 0, 0, 0, 0, 0, 0, 0, 0, 0, 0, 0, 0, 0, 0, 0, 0, 0, 0, 0, 0, 0, 0]
def nilW : List UInt32 := [2147483648, 0, 0, 0, 0, 0, 0, 0, 0, 0, 0, 0, 0, 0, 0, 0, 2147483648, 0, 2117632, 0, 570427392, 0, 84448578, 2147483648, 1476919296, 4235264, 1451269, 1711282176, 3592562048, 337794312, 3594910044, 3374850048, 3287351444, 676112230, 109604294, 2742808854, 1904000662, 4274181962, 2813755136, 2165675682, 2561075048, 62000258, 1562224585, 2975250741, 3286092305, 614207615, 3297584367, 1575308336, 3741240933, 748767245, 1008022316, 30329261, 369937616, 195877528, 907775968, 3526495142, 43741191, 1967544444, 133517113, 4161330627, 3704256008, 1581412744, 1153231965, 996066459]
def nilK : Nat := 24558373180173326952079677566465903207363901114368984487263079509132174243429954311385132984244404661879409413374321885446414209099896177219852251209036612360168168564145451390508820056499999441407731516860441729041875512881413005027819477047786077822705346568605637525894178872329701416150219439839364088302400293747769993741611600419007714649111403686223258203100803755648622291901221732318013505648743864459515471376847061723314176072300604887185042233050827330255529256972725409158296435807615185904031851223179654085231120564441938519819494825439043743652848568029105273336219534566217337069728874095474264522125
theorem nil_sched : sched nilB 64 = nilW := sched_of _ _ rfl (by decide +kernel)
theorem nil_kw : ∀ m, m < 64 → kwAt nilK m = ((KL.getD (63 - m) 0).toNat + (nilW.getD (63 - m) 0).toNat) % 4294967296 := by decide +kernel
theorem nil_block (v : List UInt32) (hv : v.length = 8) : pk (blockF v nilB) = blkN' nilK (pk v) := (blkN'_eq _ _ (by rw [nil_sched, Kc_lit]; exact nil_kw) v hv).symm

def abcB : List UInt8 := [97, 98, 99, 128, 0, 0, 0, 0, 0, 0, 0, 0, 0, 0, 0, 0, 0, 0, 0, 0, 0, 0, 0, 0, 0, 0, 0, 0, 0, 0, 0, 0, 0, 0, 0, 0, 0, 0, 0, 0, 0, 0, 0, 0, 0, 0, 0, 0, 0, 0, 0, 0, 0, 0, 0, 0, 0, 0, 0, 0, 0, 0, 0, 24]
def abcW : List UInt32 := [1633837952, 0, 0, 0, 0, 0, 0, 0, 0, 0, 0, 0, 0, 0, 0, 24, 1633837952, 983040, 2108187653, 1610613702, 1050508152, 25426944, 316456923, 3806512014, 3357629466, 3073800610, 3854317833, 845560923, 2636160359, 3968280267, 1881225380, 3552024379, 2482346367, 996719219, 2952069057, 4043988066, 176896406, 1924104970, 2483675966, 610538786, 2672279444, 4037431130, 1042573945, 657669027, 206005234, 2215296807, 2049510749, 106709978, 4215179723, 3430291419, 3118885940, 2845390439, 2226839261, 3256115900, 344409900, 2987358873, 4015503821, 3957764664, 2682456414, 2025622859, 2755645205, 1720397816, 4004225740, 313650667]
def abcK : Nat := 20693502988590203899252414749909627201436223944721574925786298094347376066944893022134203567092011679838839699945372621134232911208340106589514292935118467457852483823301596609608604143556348886605836676747755535308314766865163437121900538380144398713078714047474854028014091472482282003420397347253300558605664153560109719802579308488817108410953814821144904188830961188932682600741570040162115930844654681946924844164513014802170197416942606352128311040269565516672023343223830010125378362209485732894099183922733190301196112086111453891190011155355166062725009373877927920106025058219069365215775314754188481881821
theorem abc_sched : sched abcB 64 = abcW := sched_of _ _ rfl (by decide +kernel)
theorem abc_kw : ∀ m, m < 64 → kwAt abcK m = ((KL.getD (63 - m) 0).toNat + (abcW.getD (63 - m) 0).toNat) % 4294967296 := by decide +kernel
theorem abc_block (v : List UInt32) (hv : v.length = 8) : pk (blockF v abcB) = blkN' abcK (pk v) := (blkN'_eq _ _ (by rw [abc_sched, Kc_lit]; exact abc_kw) v hv).symm
end Go.Proofs.Ythacopmahjcmaaa
