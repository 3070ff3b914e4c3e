/-
  The walks of run, all, tell.
-/
import Derived.Test.YtklihdlfbhgpeaaDoorE2
import Derived.Test.YtklihdlfbhgpeaaDoorE1
namespace Go.Proofs.YtklihdlfbhgpeaaDoor
open Go.RowKit
set_option linter.unusedVariables false

/-- A part as a value: where its word lies, where its body. -/
abbrev pv (p : PartV) (A : Option Addr) (c : Nat) (B : Option Addr) : Value := .agg #[.int .i64 p.kind, .string ⟨p.text.toArray⟩, .string ⟨p.op.toArray⟩, .bool p.q, .slice A p.word.length c, .pointer B]
/-- What is asked for a parameter, as a value. -/
abbrev xv (p : PartV) (A : Option Addr) (c : Nat) (B : Option Addr) (x : Asked) (XA : Option Addr) (xc : Nat) : Value := .agg #[.int .i64 p.kind, .string ⟨p.text.toArray⟩, .string ⟨p.op.toArray⟩, .bool p.q, .slice A p.word.length c, .pointer B, .string ⟨x.value.toArray⟩, .bool x.set, .slice XA x.args.length xc, .bool x.missing]
set_option maxRecDepth 100000 in
set_option maxHeartbeats 1000000 in
theorem run_any (p : PartV) (A : Option Addr) (c : Nat) (B : Option Addr) (s : Str) (w : World) :
    Calls Tryd.prog 33 #[pv p A c B, .string ⟨s.toArray⟩] w fun e w' => e = .returned (rv (runOf p.q s)) ∧ Below w.heap.size w w' := by
  dsimp only [pv]
  go_enter Tryd.func33, Tryd.ntmps33
  go_wp2_with fail
  simp [bodyPost, results, go_sem]
  exact ⟨⟨rfl, rfl, by simp [runOf]⟩, ((Below.refl _ _).alloc (Nat.le_refl _) _).alloc (by simp) _⟩
set_option maxRecDepth 100000 in
set_option maxHeartbeats 1000000 in
theorem all_any (t : Str) (w : World) :
    Calls Tryd.prog 35 #[.string ⟨t.toArray⟩] w fun e w' => e = .returned (.bool (isAll t)) ∧ w' = w := by
  go_enter Tryd.func35, Tryd.ntmps35
  go_wp2_with fail
  · rename_i h
    go_ret
    subst h
    exact ⟨rfl, rfl⟩
  · go_ret
    exact ⟨rfl, rfl⟩
theorem joinF_last (F : Flds) (r : RunV) (h : F ≠ []) : (joinF F [[r]]).length = F.length := by
  obtain ⟨X, y, rfl⟩ := snoc_of_ne h
  rw [joinF_snoc]
  simp
set_option maxRecDepth 100000 in
set_option maxHeartbeats 1000000 in
theorem tell_any (T : Nat → Prop) (fb Eb : Nat) (F : Flds) (deep : Int) (p : PartV) (A : Option Addr) (c : Nat) (B : Option Addr) (x : Asked) (XA : Option Addr) (xc : Nat) (w : World) (h : FieldsAt w T fb Eb F deep) (hn : F.length ≤ 1000000000) (hy : (F.getLastD []).length ≤ 1000000000) :
    Calls Tryd.prog 38 #[.pointer (some ⟨fb, 0, none⟩), xv p A c B x XA xc] w fun e w' => e = .returned (.int .i64 0) ∧ FieldsAt w' T fb Eb (joinF F [[runOf p.q x.value]]) deep ∧ Kw (MF T) w w' := by
  dsimp only [pv, xv]
  go_enter Tryd.func38, Tryd.ntmps38
  go_wp2_with fail
  refine (run_any p A c B x.value _).mono ?_
  rintro e w1 ⟨rfl, hb1⟩
  have hB1 : Below w.heap.size w w1 := ((Below.refl _ _).alloc (Nat.le_refl _) _).trans (hb1.mono (by simp))
  have h1 := h.below hB1
  have HB := hid hB1
  clear hb1 hB1 h
  dsimp only [rv]
  go_wp2_with fail
  refine (put_any T fb Eb F deep (runOf p.q x.value) w1 h1 hn hy).mono ?_
  rintro e w2 ⟨rfl, h2, hk⟩
  go_wp2_with fail
  go_ret
  exact ⟨rfl, h2, (Kw.below HB.out).trans hk⟩
end Go.Proofs.YtklihdlfbhgpeaaDoor
