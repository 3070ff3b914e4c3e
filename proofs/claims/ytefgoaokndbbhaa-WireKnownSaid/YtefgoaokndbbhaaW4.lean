import Derived.Test.YtefgoaokndbbhaaW3
namespace Go.Proofs.Ytefgoaokndbbhaa
open Go.RowKit
set_option linter.unusedVariables false

def TakeOk (g : Nat) (l : List UInt8) (k : Nat) (lost : Bool) (w : World) (e : Ending) (w' : World) : Prop :=
  ∃ A c, e = .returned (.slice A k c) ∧ Rd w' g A k (bv (l.take k)) ∧ Rdr w' g (l.drop k) lost ∧ Only g w w'
def TakeNo (g : Nat) (w : World) (e : Ending) (w' : World) : Prop := e = .returned (.slice none 0 0) ∧ Rdr w' g [] true ∧ Only g w w'

theorem take_close {g b off k n c c' : Nat} {l : List UInt8} {lost : Bool} {w : World} {A : Option Addr} {v : Value} (ha : At w g 45 #[v, .bool lost])
    (hr : Rd w g (some ⟨b, off, none⟩) l.length (bv l)) (hk : k ≤ l.length) (hn : n = l.length - k) (hc : n ≤ c') (hA : n = 0 ∨ A = some ⟨b, off + k, none⟩) :
    TakeOk g l k lost w (.returned (.slice (some ⟨b, off, none⟩) k c)) (w.setCell ⟨g, 0, none⟩ (.slice A n c')) := by
  have ho : Only g w (w.setCell ⟨g, 0, none⟩ (.slice A n c')) := (Only.refl g w).set (Or.inl rfl) _
  have h1 := hr.take hk
  rw [bv_take] at h1
  refine ⟨_, c, rfl, h1.only ho, ⟨A, n, c', ha.set 0 _, hc, ?_⟩, ho⟩
  rw [← bv_drop]
  refine ⟨by rw [List.length_drop, bv_length, hn], fun hp => ?_⟩
  obtain ⟨b', off', e, hne, hlt, hcell⟩ := hr.2 (by omega)
  injection e with e
  injection e with e1 e2
  subst e1 e2
  rcases hA with hA | rfl
  · omega
  · refine ⟨b, off + k, rfl, hne, by simpa [World.setCell] using hlt, fun j u hu => ?_⟩
    rw [List.getElem?_drop] at hu
    rw [ho.cell (p := ⟨b, off + k + j, none⟩) hlt hne, Nat.add_assoc]
    exact hcell _ u hu

set_option maxHeartbeats 400000 in
theorem take_row_yes (g : Nat) (l : List UInt8) (lost : Bool) (w : World) (hr : Rdr w g l lost) (hl : l.length ≤ 1048576) (k : Nat) (hk : k = rowLen l) (hk0 : 0 < k) :
    Calls Try.prog 23 #[.pointer (some ⟨g, 0, none⟩), .func (.func 24) #[] #[]] w (TakeOk g l k lost w) := by
  obtain ⟨A, n, c, ha, hc, hr⟩ := hr
  have hn : l.length = n := by rw [← bv_length]; exact hr.1
  have hkl := rowLen_le l
  subst hn
  rw [← hk] at hkl
  obtain ⟨b, off, rfl, hne, hlt, hcell⟩ := hr.2 (by omega)
  have h0 : w.cell? ⟨g, 0, none⟩ = some (.slice (some ⟨b, off, none⟩) l.length c) := by rw [ha.cell]; rfl
  have hf0 := ha.frozen 0
  have HK := hid hk
  clear hk hcell
  go_enter Try.func23, Try.ntmps23
  go_wp2_with (go_at_call 24; refine (row_any _ _ _ g l _ hr hl).mono ?_; rintro e w' ⟨rfl, rfl⟩; rw [← HK.out])
  · go_ret
    exact take_close ha hr hkl rfl (by omega) (Or.inl (by omega))
  · go_ret
    exact take_close ha hr hkl rfl (by omega) (Or.inr rfl)

theorem no_close {g : Nat} {lost : Bool} {w : World} {v : Value} (ha : At w g 45 #[v, .bool lost]) :
    TakeNo g w (.returned (.slice none 0 0)) ((w.setCell ⟨g, 0, none⟩ (.slice none 0 0)).setCell ⟨g, 1, none⟩ (.bool true)) := by
  refine ⟨rfl, ⟨none, 0, 0, (ha.set 0 _).set 1 _, Nat.le_refl _, Rd.nil⟩, ((Only.refl g w).set (Or.inl rfl) _).set (Or.inl rfl) _⟩

set_option maxHeartbeats 400000 in
theorem take_row_no (g : Nat) (l : List UInt8) (lost : Bool) (w : World) (hr : Rdr w g l lost) (hl : l.length ≤ 1048576) (hk : rowLen l = 0) :
    Calls Try.prog 23 #[.pointer (some ⟨g, 0, none⟩), .func (.func 24) #[] #[]] w (TakeNo g w) := by
  obtain ⟨A, n, c, ha, hc, hr⟩ := hr
  have h0 : w.cell? ⟨g, 0, none⟩ = some (.slice A n c) := by rw [ha.cell]; rfl
  have h1 : w.cell? ⟨g, 1, none⟩ = some (.bool lost) := by rw [ha.cell]; rfl
  have hf0 := ha.frozen 0
  have hf1 := ha.frozen 1
  have HK := hid hk
  clear hk
  go_enter Try.func23, Try.ntmps23
  go_wp2_with (go_at_call 24; refine (row_any _ _ _ g l _ hr hl).mono ?_; rintro e w' ⟨rfl, rfl⟩; rw [HK.out])
  go_ret
  exact no_close ha

/-- The closure of Text: so many bytes, or one too many. -/
def Box (w : World) (h : Nat) (m : Nat) : Prop := At w h 22 #[.int .u64 m]

set_option maxHeartbeats 400000 in
theorem long_yes (A : Option Addr) (n c g m : Nat) (w : World) (hb : Box w g m) (hn : n ≤ 1048576) (hm : m ≤ n) :
    Calls Try.prog 26 #[.slice A n c, .pointer (some ⟨g, 0, none⟩)] w fun e w' => e = .returned (.int .i64 m) ∧ w = w' := by
  have h0 : w.cell? ⟨g, 0, none⟩ = some (.int .u64 m) := by rw [At.cell hb]; rfl
  have hm' : ¬ ((n : Int) + 1 < (m : Int)) := by omega
  go_enter Try.func26, Try.ntmps26
  go_wp2
  go_ret
  exact ⟨rfl, rfl⟩

set_option maxHeartbeats 400000 in
theorem long_no (A : Option Addr) (n c g m : Nat) (w : World) (hb : Box w g m) (hn : n ≤ 1048576) (hm : n < m) (hm2 : m < 18446744073709551616) :
    Calls Try.prog 26 #[.slice A n c, .pointer (some ⟨g, 0, none⟩)] w fun e w' => e = .returned (.int .i64 ((n : Int) + 1)) ∧ w = w' := by
  have h0 : w.cell? ⟨g, 0, none⟩ = some (.int .u64 m) := by rw [At.cell hb]; rfl
  go_enter Try.func26, Try.ntmps26
  go_wp2
  · go_ret
    exact ⟨rfl, rfl⟩
  · go_ret
    exact ⟨ret_int (by omega), rfl⟩

set_option maxHeartbeats 400000 in
theorem take_text_yes (g h : Nat) (l : List UInt8) (lost : Bool) (w : World) (hr : Rdr w g l lost) (hl : l.length ≤ 1048576) (k : Nat) (hk0 : 0 < k) (hkl : k ≤ l.length) (hb : Box w h k) :
    Calls Try.prog 23 #[.pointer (some ⟨g, 0, none⟩), .func (.func 26) #[] #[.pointer (some ⟨h, 0, none⟩)]] w (TakeOk g l k lost w) := by
  obtain ⟨A, n, c, ha, hc, hr⟩ := hr
  have hn : l.length = n := by rw [← bv_length]; exact hr.1
  subst hn
  obtain ⟨b, off, rfl, hne, hlt, hcell⟩ := hr.2 (by omega)
  have h0 : w.cell? ⟨g, 0, none⟩ = some (.slice (some ⟨b, off, none⟩) l.length c) := by rw [ha.cell]; rfl
  have hf0 := ha.frozen 0
  clear hcell
  go_enter Try.func23, Try.ntmps23
  go_wp2_with (go_at_call 26; refine (long_yes _ _ _ h k _ hb hl hkl).mono ?_; rintro e w' ⟨rfl, rfl⟩)
  · go_ret
    exact take_close ha hr hkl rfl (by omega) (Or.inl (by omega))
  · go_ret
    exact take_close ha hr hkl rfl (by omega) (Or.inr rfl)

set_option maxHeartbeats 400000 in
theorem take_text_no (g h : Nat) (l : List UInt8) (lost : Bool) (w : World) (hr : Rdr w g l lost) (hl : l.length ≤ 1048576) (k : Nat) (hkl : l.length < k) (hk2 : k < 18446744073709551616) (hb : Box w h k) :
    Calls Try.prog 23 #[.pointer (some ⟨g, 0, none⟩), .func (.func 26) #[] #[.pointer (some ⟨h, 0, none⟩)]] w (TakeNo g w) := by
  obtain ⟨A, n, c, ha, hc, hr⟩ := hr
  have hn : l.length = n := by rw [← bv_length]; exact hr.1
  subst hn
  have h0 : w.cell? ⟨g, 0, none⟩ = some (.slice A l.length c) := by rw [ha.cell]; rfl
  have h1 : w.cell? ⟨g, 1, none⟩ = some (.bool lost) := by rw [ha.cell]; rfl
  have hf0 := ha.frozen 0
  have hf1 := ha.frozen 1
  go_enter Try.func23, Try.ntmps23
  go_wp2_with (go_at_call 26; refine (long_no _ _ _ h k _ hb hl hkl hk2).mono ?_; rintro e w' ⟨rfl, rfl⟩)
  go_ret
  exact no_close ha
end Go.Proofs.Ytefgoaokndbbhaa
