/-
  The walk of subst.
-/
import Derived.Test.YtklihdlfbhgpeaaDoorE7
import Derived.Deep.RegionWith
namespace Go.Proofs.YtklihdlfbhgpeaaDoor
open Go.RowKit
set_option linter.unusedVariables false

theorem substS_eq (p : PartV) (σ : EnvV) : (substV p σ).s = σ.say (substS p.body) ∧ (substV p σ).e = (substR p.body).2 ∧ ((substV p σ).e = 0 → (substV p σ).F = [[runOf p.q (substR p.body).1]]) := by
  unfold substV substS substR
  cases p.body with
  | none => exact ⟨rfl, rfl, fun _ => rfl⟩
  | some c =>
    obtain ⟨nm, no⟩ := c
    cases no with
    | true => exact ⟨rfl, rfl, fun h => by simp at h⟩
    | false => exact ⟨rfl, rfl, fun _ => rfl⟩
theorem substR_len (p : PartV) : (substR p.body).1.length ≤ bodyLen p := by
  unfold substR bodyLen
  cases p.body with
  | none => simp
  | some c => simp only []; split <;> simp
/-! The environment's methods, asked through the interface. -/
theorem mSubst (A : Option Addr) (w : World) : (method 266 28 (.pointer A) "Subst").run Tryd.prog w = .ok (104, .pointer A) w := by kernel_rfl
theorem mArgs (A : Option Addr) (w : World) : (method 266 28 (.pointer A) "Args").run Tryd.prog w = .ok (100, .pointer A) w := by kernel_rfl
theorem mGet (A : Option Addr) (w : World) : (method 266 28 (.pointer A) "Get").run Tryd.prog w = .ok (101, .pointer A) w := by kernel_rfl
theorem mSet (A : Option Addr) (w : World) : (method 266 28 (.pointer A) "Set").run Tryd.prog w = .ok (102, .pointer A) w := by kernel_rfl
theorem mStatus (A : Option Addr) (w : World) : (method 266 28 (.pointer A) "Status").run Tryd.prog w = .ok (103, .pointer A) w := by kernel_rfl
theorem enter100 (args : Array Value) (w : World) : (callFunc 100 args).run Tryd.prog w = .ok (.enter 100 args) w := by kernel_rfl
theorem enter101 (args : Array Value) (w : World) : (callFunc 101 args).run Tryd.prog w = .ok (.enter 101 args) w := by kernel_rfl
theorem enter102 (args : Array Value) (w : World) : (callFunc 102 args).run Tryd.prog w = .ok (.enter 102 args) w := by kernel_rfl
theorem enter103 (args : Array Value) (w : World) : (callFunc 103 args).run Tryd.prog w = .ok (.enter 103 args) w := by kernel_rfl
theorem enter104 (args : Array Value) (w : World) : (callFunc 104 args).run Tryd.prog w = .ok (.enter 104 args) w := by kernel_rfl
theorem cells6 {w : World} {b : Nat} {t : TypeId} {v0 v1 v2 v3 v4 v5 : Value} (h : At w b t #[v0, v1, v2, v3, v4, v5]) :
    w.cell? ⟨b, 0, none⟩ = some v0 ∧ w.cell? ⟨b, 1, none⟩ = some v1 ∧ w.cell? ⟨b, 2, none⟩ = some v2 ∧ w.cell? ⟨b, 3, none⟩ = some v3 ∧ w.cell? ⟨b, 4, none⟩ = some v4 ∧ w.cell? ⟨b, 5, none⟩ = some v5 := by
  refine ⟨?_, ?_, ?_, ?_, ?_, ?_⟩ <;> (rw [h.cell]; rfl)
set_option maxRecDepth 100000 in
set_option maxHeartbeats 1000000 in
theorem subst_any' [Inhabited LowT] (n : Nat) (S T : Nat → Prop) (Eb fb : Nat) (σ : EnvV) (F : Flds) (deep : Int) (p : PartV) (A : Option Addr) (c : Nat) (B : Option Addr) (w : World) (h : St w S T Eb fb σ F deep) (hb : PB n p σ F) (hB : BodyAt w B p.body) :
    Calls Tryd.prog 22 #[.pointer (some ⟨fb, 0, none⟩), pv p A c B] w fun e w' => e = .returned (.int .i64 (substV p σ).e) ∧ ∃ F', St w' S T Eb fb (substV p σ).s F' deep ∧ ((substV p σ).e = 0 → F' = joinF F (substV p σ).F) ∧ Kw (MA S T) w w' := by
  obtain ⟨e1, e2, e3⟩ := substS_eq p σ
  have hwt := hb.wt
  have hn : F.length ≤ 1000000000 := Nat.le_trans (len_wtF F) (by omega)
  have hy : (F.getLastD []).length ≤ 1000000000 := Nat.le_trans (last_wtF F) (by omega)
  have hsn : σ.seen.length ≤ 1000000000 := by have := hb.seen; omega
  have htx := hb.text
  have hnm : ∀ c, p.body = some c → c.name.length ≤ 1000000000 := fun c hc => by
    have e : bodyLen p = c.name.length := by simp [bodyLen, hc]
    omega
  rw [e1, e2]
  rw [e2] at e3
  obtain ⟨v, c0, c1, c2, hlt⟩ := h.cells
  have H := hid h
  have HB := hid hB
  have HE3 := hid e3
  clear h hB e1 e2 e3
  dsimp only [pv]
  go_enter Tryd.func22, Tryd.ntmps22
  go_wp2_with fail
  have hAt : At (w.alloc (.cells #[.int .i64 p.kind, .string ⟨p.text.toArray⟩, .string ⟨p.op.toArray⟩, .bool p.q, .slice A p.word.length c, .pointer B] 47)) w.heap.size 47 #[.int .i64 p.kind, .string ⟨p.text.toArray⟩, .string ⟨p.op.toArray⟩, .bool p.q, .slice A p.word.length c, .pointer B] := heap_alloc_new w _
  have hB2 : Below w.heap.size w (w.alloc (.cells #[.int .i64 p.kind, .string ⟨p.text.toArray⟩, .string ⟨p.op.toArray⟩, .bool p.q, .slice A p.word.length c, .pointer B] 47)) := (Below.refl _ _).alloc (Nat.le_refl _) _
  have HAT := hid hAt
  have HB2 := hid hB2
  clear hAt hB2
  have m1 := mSubst (some ⟨Eb, 0, none⟩)
  have m2 := enter104
  go_region_with (go_at_call 104; refine (subst_any S Eb σ p.body B _ ((H.out.below HB2.out).drewN 1).env ((HB.out.kw (M := fun _ _ => False) (Kw.below HB2.out) (fun _ h => h) (fun _ _ _ h => h)).kw (M := fun _ _ => False) ((Kw.refl _ _).drewN 1) (fun _ h => h) (fun _ _ _ h => h)) H.out.S0 hsn hnm).mono ?_; rintro e w3 ⟨rfl, hE3, hK3⟩)
  all_goals
    have hS3 := ((H.out.below HB2.out).drewN 1).kwE hK3 hE3
    have hK4 : Kw (ME S) w w3 := (Kw.below HB2.out).trans ((Kw.drewN (Kw.refl _ _) 1).trans hK3)
    have hA3 : At w3 w.heap.size 47 _ := hK3.at_ (HAT.out.drew) (fun h => absurd h.2 (by decide))
    obtain ⟨y0, y1, y2, y3, y4, y5⟩ := cells6 hA3
    have hl3 := hA3.lt
    have HS3 := hid hS3
    have HK4 := hid hK4
    clear hS3 hK4 hA3 hE3 hK3
    go_wp2_with fail
    refine (run_any p A c B _ _).mono ?_
    rintro e w4 ⟨rfl, hB4⟩
    have hS4 := HS3.out.below hB4
    have HB4 := hid hB4
    go_wp2_with fail
    refine (put_any T fb Eb F deep _ _ hS4.fld hn hy).mono ?_
    rintro e w5 ⟨rfl, h5, hk⟩
    go_wp2_with fail
    go_ret
    refine ⟨rfl, _, hS4.kwF hk h5, fun h0 => ?_, ((KwA.e HK4.out).trans (Kw.below HB4.out)).trans (KwA.f hk)⟩
    rw [HE3.out h0]
end Go.Proofs.YtklihdlfbhgpeaaDoor
