/-
  The expander's state: the environment, the fields, the table of powers of ten; what a part may cost.
-/
import Derived.Test.YtklihdlfbhgpeaaDoorE6
import Derived.Test.YtklihdlfbhgpeaaDoorBnd
import Derived.Test.YtklihdlfbhgpeaaDoorShelf
namespace Go.Proofs.YtklihdlfbhgpeaaDoor
open Go.RowKit
set_option linter.unusedVariables false

abbrev Tab (w : World) : Prop := Lib.TabIs Tryd.prog w "internal/strconv.uint64pow10" .u64 Lib.pow10Tab
theorem gPow : Tryd.prog.globalNamed "internal/strconv.uint64pow10" = some 0 := by kernel_rfl
theorem Tab.kw {M : Nat → TypeId → Prop} {w w' : World} (h : Tab w) (hk : Kw M w w') (hm : ∀ t, ¬ M 0 t) : Tab w' := by
  unfold Tab Lib.TabIs World.var? at *
  rw [gPow] at *
  simp only [Option.bind_some] at *
  split at h
  · rename_i cs t fz hh
    rw [hk.keep 0 cs t fz (hm t) hh]
    exact h
  · cases h
theorem Tab.below {w w' : World} (h : Tab w) (hb : Below w.heap.size w w') : Tab w' := h.kw (M := fun _ _ => False) (Kw.below hb) fun _ h => h
/-- What the expander may turn. -/
abbrev MA (S T : Nat → Prop) (k : Nat) (t : TypeId) : Prop := ME S k t ∨ MF T k t
structure St [Inhabited LowT] (w : World) (S T : Nat → Prop) (Eb fb : Nat) (σ : EnvV) (F : Flds) (deep : Int) : Prop where
  env : EnvAt w S Eb σ
  fld : FieldsAt w T fb Eb F deep
  tab : Tab w
  S0 : ∀ k, k ≤ lowN → ¬ S k
  T0 : ∀ k, k ≤ lowN → ¬ T k
section
variable {w w' : World} {S T : Nat → Prop} {Eb fb : Nat} {σ σ' : EnvV} {F F' : Flds} {deep : Int}
theorem St.kwE [Inhabited LowT] (h : St w S T Eb fb σ F deep) (hk : Kw (ME S) w w') (he : EnvAt w' S Eb σ') : St w' S T Eb fb σ' F deep :=
  ⟨he, h.fld.kw hk fun k t _ _ ht hh => by rcases ht with rfl | rfl | rfl <;> exact absurd hh.2 (by decide), h.tab.kw hk fun t hh => h.S0 0 (Nat.zero_le _) hh.1, h.S0, h.T0⟩
theorem St.kwF [Inhabited LowT] (h : St w S T Eb fb σ F deep) (hk : Kw (MF T) w w') (hf : FieldsAt w' T fb Eb F' deep) : St w' S T Eb fb σ F' deep :=
  ⟨h.env.kw hk fun k t ht hh => by rcases ht with rfl | rfl | rfl <;> exact absurd hh.2 (by decide), hf, h.tab.kw hk fun t hh => h.T0 0 (Nat.zero_le _) hh.1, h.S0, h.T0⟩
theorem St.below [Inhabited LowT] (h : St w S T Eb fb σ F deep) (hb : Below w.heap.size w w') : St w' S T Eb fb σ F deep := ⟨h.env.below hb, h.fld.below hb, h.tab.below hb, h.S0, h.T0⟩
theorem St.alloc [Inhabited LowT] (h : St w S T Eb fb σ F deep) (o : Obj) : St (w.alloc o) S T Eb fb σ F deep := h.below ((Below.refl _ _).alloc (Nat.le_refl _) o)
theorem St.drewN [Inhabited LowT] (h : St w S T Eb fb σ F deep) (n : Nat) : St (w.drewN n) S T Eb fb σ F deep := h.below ⟨rfl, rfl, rfl, Nat.le_refl _, fun _ _ => rfl⟩
theorem KwA.e (h : Kw (ME S) w w') : Kw (MA S T) w w' := h.mono fun _ _ _ hh => .inl hh
theorem KwA.f (h : Kw (MF T) w w') : Kw (MA S T) w w' := h.mono fun _ _ _ hh => .inr hh
theorem not_MA {k : Nat} {t : TypeId} (h1 : ¬ envT t) (h2 : ¬ fldT t) : ¬ MA S T k t := fun h => h.elim (fun h => h1 h.2) (fun h => h2 h.2)
end
/-- What a part may cost. -/
structure PB (n : Nat) (p : PartV) (σ : EnvV) (F : Flds) : Prop where
  ok : EnvOk σ
  wt : wtF F + (costP p + costW n p.word) ≤ 200000000
  seen : σ.seen.length + (costP p + costW n p.word) ≤ 500000000
  vars : σ.vars.length + (costP p + costW n p.word) ≤ 500000000
theorem PB.text {n : Nat} {p : PartV} {σ : EnvV} {F : Flds} (h : PB n p σ F) : p.text.length + bodyLen p + 1000 ≤ 200000000 := by
  have := h.wt; unfold costP at this; omega
end Go.Proofs.YtklihdlfbhgpeaaDoor
