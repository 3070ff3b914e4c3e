/-
  A region that draws its order, by an invariant over which operations are done. No program in sight.
-/
import Derived.Orders
import Derived.RegionTactic
import Derived.BigQuiet
namespace Go.Proofs.YtklihdlfbhgpeaaDoor
open Go
set_option linter.unusedVariables false

section
variable {P : Program} {ops : Array Oper} {md : Region.Mode} {Q : Exit → Act → World → Prop}
/-- Every operation waits for earlier ones alone. -/
def backB (md : Region.Mode) (ops : Array Oper) : Bool :=
  (List.range ops.size).all fun i => ((ops[i]?).map (·.after.all fun e => !Region.binds md e || decide (e.on < i))).getD true
theorem ready_iff {i : Nat} {d : Array Bool} : i ∈ Region.ready md ops d ↔ i < ops.size ∧ d.getD i true = false ∧ ∃ o, ops[i]? = some o ∧ ∀ e ∈ o.after, Region.binds md e = true → d.getD e.on false = true := by
  unfold Region.ready
  simp only [List.mem_filter, List.mem_range, Bool.and_eq_true, Bool.not_eq_true']
  constructor
  · rintro ⟨h1, h2, h3⟩
    refine ⟨h1, h2, ops[i], Array.getElem?_eq_getElem h1, fun e he hb => ?_⟩
    rw [Array.getElem?_eq_getElem h1] at h3
    simp only [Option.map_some, Option.getD_some] at h3
    have := Array.all_eq_true'.1 h3 e he
    simpa [hb] using this
  · rintro ⟨h1, h2, o, ho, hall⟩
    refine ⟨h1, h2, ?_⟩
    rw [ho]
    simp only [Option.map_some, Option.getD_some]
    refine Array.all_eq_true'.2 fun e he => ?_
    cases hb : Region.binds md e with
    | false => rfl
    | true => simpa using hall e he hb
theorem all_done (hb : backB md ops = true) {d : Array Bool} (hr : Region.ready md ops d = []) (hsz : d.size = ops.size) : ∀ i, i < ops.size → d.getD i false = true := by
  intro i
  induction i using Nat.strongRecOn with
  | ind i ih =>
    intro hi
    cases hd : d.getD i false with
    | true => rfl
    | false =>
      exfalso
      have : i ∈ Region.ready md ops d := by
        refine ready_iff.2 ⟨hi, ?_, ops[i], Array.getElem?_eq_getElem hi, fun e he hbe => ?_⟩
        · simp only [Array.getD, hsz, hi, dite_true] at hd ⊢; exact hd
        · have h1 := List.all_eq_true.1 hb i (List.mem_range.2 hi)
          rw [Array.getElem?_eq_getElem hi] at h1
          simp only [Option.map_some, Option.getD_some] at h1
          have h2 := Array.all_eq_true'.1 h1 e he
          rw [hbe] at h2
          simp at h2
          exact ih e.on h2 (by omega)
      rw [hr] at this
      cases this
theorem count_set (d : Array Bool) (i : Nat) (hi : i < d.size) (h : d.getD i false = false) : (d.setIfInBounds i true).toList.count false + 1 = d.toList.count false := by
  have e : (d.setIfInBounds i true).toList = d.toList.set i true := by simp
  have hl : i < d.toList.length := by simpa using hi
  have h' : d.toList[i] = false := by simpa [Array.getD, hi] using h
  rw [e, List.count_set hl, h']
  have : 0 < d.toList.count false := List.count_pos_iff.2 (h' ▸ List.getElem_mem hl)
  have e2 : (if false == false then 1 else 0) = 1 := rfl
  have e3 : (if true == false then 1 else 0) = 0 := rfl
  rw [e2, e3]
  omega
theorem wpAny_inv (hb : backB md ops = true) (I : (Nat → Bool) → Act → World → Prop)
    (hstep : ∀ (D : Nat → Bool) (a : Act) (w : World) (i : Nat) (K : Act → World → Prop), i < ops.size → D i = false → (∀ o, ops[i]? = some o → ∀ e ∈ o.after, Region.binds md e = true → D e.on = true) → I D a w →
      (∀ a' w', I (fun j => if j = i then true else D j) a' w' → K a' w') → wpOp P ops Q i K a w)
    (hend : ∀ (D : Nat → Bool) (a : Act) (w : World), (∀ i, i < ops.size → D i = true) → I D a w → Q .normal a w) :
    ∀ (f : Nat) (d : Array Bool) (a : Act) (w : World), d.size = ops.size → d.toList.count false ≤ f → I (fun j => d.getD j false) a w → wpAny P md ops Q f d a w
  | 0, d, a, w, hsz, hc, hI => by
    have hr : Region.ready md ops d = [] := by
      refine List.eq_nil_iff_forall_not_mem.2 fun i hi => ?_
      obtain ⟨h1, h2, _⟩ := ready_iff.1 hi
      have hl : i < d.toList.length := by simpa [hsz] using h1
      have h' : d.toList[i] = false := by simpa [Array.getD, hsz, h1] using h2
      have : 0 < d.toList.count false := List.count_pos_iff.2 (h' ▸ List.getElem_mem hl)
      omega
    exact ⟨hr, hend _ a w (all_done hb hr hsz) hI⟩
  | f + 1, d, a, w, hsz, hc, hI => by
    refine ⟨fun hr => hend _ a w (all_done hb hr hsz) hI, fun i hi => ?_⟩
    obtain ⟨h1, h2, o, ho, hall⟩ := ready_iff.1 hi
    have h2' : d.getD i false = false := by simpa [Array.getD, hsz, h1] using h2
    refine hstep _ a w i _ h1 h2' (fun o' ho' e he hbe => ?_) hI fun a' w' hI' => ?_
    · rw [ho] at ho'
      injection ho' with ho'
      subst ho'
      exact hall e he hbe
    · refine wpAny_inv hb I hstep hend f _ a' w' (by simpa using hsz) ?_ ?_
      · have := count_set d i (by omega) h2'
        omega
      · have e : (fun j => (d.setIfInBounds i true).getD j false) = fun j => if j = i then true else d.getD j false := by
          funext j
          by_cases hj : j = i
          · subst hj; simp [Array.getD, hsz, h1]
          · simp only [if_neg hj]
            simp only [Array.getD, Array.size_setIfInBounds]
            split
            · rename_i hjl
              exact Array.getElem_setIfInBounds_ne _ (Ne.symm hj)
            · rfl
        rw [e]
        exact hI'
theorem wpAny_start (hb : backB md ops = true) (I : (Nat → Bool) → Act → World → Prop) {a : Act} {w : World}
    (hstep : ∀ (D : Nat → Bool) (a : Act) (w : World) (i : Nat) (K : Act → World → Prop), i < ops.size → D i = false → (∀ o, ops[i]? = some o → ∀ e ∈ o.after, Region.binds md e = true → D e.on = true) → I D a w →
      (∀ a' w', I (fun j => if j = i then true else D j) a' w' → K a' w') → wpOp P ops Q i K a w)
    (hend : ∀ (D : Nat → Bool) (a : Act) (w : World), (∀ i, i < ops.size → D i = true) → I D a w → Q .normal a w)
    (h0 : I (fun _ => false) a w) : wpAny P md ops Q ops.size (Array.replicate ops.size false) a w := by
  refine wpAny_inv hb I hstep hend _ _ a w (by simp) (by simp) ?_
  have e : (fun j => (Array.replicate ops.size false).getD j false) = fun _ => false := by
    funext j
    simp only [Array.getD, Array.size_replicate]
    split
    · simp
    · rfl
  rw [e]
  exact h0
/-- One operation of the region. -/
theorem wpOp_go {i : Nat} {o : Oper} {a : Act} {w : World} {K : Act → World → Prop} (ho : ops[i]? = some o) (h : if Region.wanted o (yielded ops a.tmps) = true then Oper.wp P o a w K Q else K (a.put o.dst undef) w) : wpOp P ops Q i K a w := by
  unfold wpOp
  rw [ho]
  simp only []
  split
  · rename_i hw; rw [if_pos hw] at h; exact .inl h
  · rename_i hw; rw [if_neg hw] at h; exact h
/-- A region each of whose operations yields one value, in whatever world of C, whatever the order. -/
theorem wpAny_vals (hb : backB md ops = true) (C : World → Prop) (T : Nat → Value) (mk : (Nat → Value) → Act) {w : World} (V0 : Nat → Value)
    (hstep : ∀ (V : Nat → Value) (w : World) (i : Nat) (K : Act → World → Prop), i < ops.size → (∀ o, ops[i]? = some o → ∀ e ∈ o.after, Region.binds md e = true → V e.on = T e.on) → C w →
      (∀ w', C w' → K (mk fun j => if j = i then T i else V j) w') → wpOp P ops Q i K (mk V) w)
    (hend : ∀ (V : Nat → Value) (w : World), (∀ j, j < ops.size → V j = T j) → C w → Q .normal (mk V) w) (h0 : C w) : wpAny P md ops Q ops.size (Array.replicate ops.size false) (mk V0) w := by
  refine wpAny_start hb (fun D a w => ∃ V, a = mk V ∧ (∀ j, D j = true → V j = T j) ∧ C w) ?_ ?_ ⟨V0, rfl, fun j h => (by cases h), h0⟩
  · rintro D a w i K hi hDi hdep ⟨V, rfl, hV, hC⟩ hK
    refine hstep V w i K hi (fun o ho e he hbe => hV _ (hdep o ho e he hbe)) hC fun w' hC' => hK _ _ ⟨_, rfl, fun j hj => ?_, hC'⟩
    by_cases h : j = i
    · subst h; rw [if_pos rfl]
    · rw [if_neg h]; exact hV j (by simpa [h] using hj)
  · rintro D a w hD ⟨V, rfl, hV, hC⟩
    exact hend V w (fun j hj => hV j (hD j hj)) hC
end
end Go.Proofs.YtklihdlfbhgpeaaDoor
