/-
  How much a word comes to, at most. No program in sight.
-/
import Derived.Test.YtklihdlfbhgpeaaDoorEval
namespace Go.Proofs.YtklihdlfbhgpeaaDoor
open Go.RowKit
set_option linter.unusedVariables false

def wtR (rs : List RunV) : Nat := (rs.map fun r => 1 + r.t.length).sum
def wtF (F : Flds) : Nat := (F.map fun g => 1 + wtR g).sum
theorem wtR_append (a b : List RunV) : wtR (a ++ b) = wtR a + wtR b := by simp [wtR]
theorem wtF_append (a b : Flds) : wtF (a ++ b) = wtF a + wtF b := by simp [wtF]
theorem wtF_cons (g : List RunV) (F : Flds) : wtF (g :: F) = 1 + wtR g + wtF F := by simp [wtF]
theorem wtF_join (F G : Flds) : wtF (joinF F G) ≤ wtF F + wtF G := by
  cases G with
  | nil => simp [joinF, wtF]
  | cons g gs =>
    rcases List.eq_nil_or_concat F with rfl | ⟨X, y, rfl⟩
    · simp [joinF, wtF]
    · rw [List.concat_eq_append, joinF_snoc]
      simp only [wtF_append, wtF_cons, wtR_append]
      simp only [wtF, List.map_nil, List.sum_nil]
      omega
theorem len_wtR : ∀ rs : List RunV, rs.length ≤ wtR rs
  | [] => by simp
  | r :: rs => by have := len_wtR rs; simp [wtR] at this ⊢; omega
theorem len_wtF : ∀ F : Flds, F.length ≤ wtF F
  | [] => by simp
  | g :: F => by have := len_wtF F; rw [wtF_cons, List.length_cons]; omega
theorem sum_wtF : ∀ F : Flds, F.length + (F.map List.length).sum ≤ wtF F
  | [] => by simp
  | g :: F => by
    have := sum_wtF F
    have := len_wtR g
    rw [wtF_cons, List.length_cons, List.map_cons, List.sum_cons]; omega
theorem last_wtF (F : Flds) : (F.getLastD []).length ≤ wtF F := by
  rcases List.eq_nil_or_concat F with rfl | ⟨X, y, rfl⟩
  · simp
  · have := len_wtR y
    rw [List.concat_eq_append, wtF_append, wtF_cons]
    simp
    omega
theorem flat_wtF : ∀ F : Flds, (flatR F).length ≤ wtF F ∧ wtR (flatR F) ≤ 2 * wtF F ∧ (plainR (flatR F)).length ≤ wtF F
  | [] => by simp [flatR, plainR, wtR]
  | g :: gs => by
    have h : ∀ gs : Flds, (gs.flatMap fun h => spR :: h).length ≤ wtF gs ∧ wtR (gs.flatMap fun h => spR :: h) ≤ 2 * wtF gs ∧ ((gs.flatMap fun h => spR :: h).flatMap RunV.t).length ≤ wtF gs := by
      intro gs
      induction gs with
      | nil => simp [wtR]
      | cons a r ih =>
        have h1 := len_wtR a
        have h2 : ∀ a : List RunV, (a.flatMap RunV.t).length ≤ wtR a := by
          intro a
          induction a with
          | nil => simp
          | cons x xs ih => simp [wtR] at ih ⊢; omega
        have h3 := h2 a
        rw [List.flatMap_cons, wtF_cons]
        simp only [List.length_append, List.length_cons, wtR_append, List.flatMap_append, List.flatMap_cons]
        have e1 : wtR (spR :: a) = 2 + wtR a := by simp [wtR, spR]
        have e2 : (spR.t).length = 1 := rfl
        rw [e1, e2]
        obtain ⟨i1, i2, i3⟩ := ih
        exact ⟨by omega, by omega, by omega⟩
    have h2 : ∀ a : List RunV, (a.flatMap RunV.t).length ≤ wtR a := by
      intro a
      induction a with
      | nil => simp
      | cons x xs ih => simp [wtR] at ih ⊢; omega
    obtain ⟨i1, i2, i3⟩ := h gs
    have := h2 g
    have := len_wtR g
    rw [flatR, wtF_cons, wtR_append, plainR, List.flatMap_append, List.length_append, List.length_append]
    exact ⟨by omega, by omega, by omega⟩

/-! ## The environment's bounds -/
structure EnvOk (σ : EnvV) : Prop where
  vars : ∀ v ∈ σ.vars, v.2.length ≤ 90
  args : σ.args.length ≤ 12
  arg : ∀ a ∈ σ.args, a.length ≤ 60
  lo : -1000 < σ.status
  hi : σ.status < 1000
theorem EnvOk.say {σ : EnvV} (h : EnvOk σ) (s : Str) : EnvOk (σ.say s) := ⟨h.vars, h.args, h.arg, h.lo, h.hi⟩
theorem getL_mem : ∀ (l : List (Str × Str)) (n v : Str), getL l n = some v → ∃ x ∈ l, x.2 = v := by
  suffices H : ∀ (k : Nat) (l : List (Str × Str)), l.length = k → ∀ (n v : Str), getL l n = some v → ∃ x ∈ l, x.2 = v from fun l n v h => H _ l rfl n v h
  intro k
  induction k with
  | zero =>
    intro l hl n v h
    obtain rfl := List.eq_nil_of_length_eq_zero hl
    simp [getL] at h
  | succ k ih =>
    intro l hl n v h
    rcases List.eq_nil_or_concat l with rfl | ⟨r, x, rfl⟩
    · simp at hl
    · rw [List.concat_eq_append] at h hl ⊢
      rw [getL_snoc] at h
      split at h
      · injection h with h
        exact ⟨x, by simp, h⟩
      · obtain ⟨y, hy, e⟩ := ih r (by simpa using hl) n v h
        exact ⟨y, by simp [hy], e⟩
theorem lens_le : ∀ l : List Str, (∀ a ∈ l, a.length ≤ 60) → Lib.lens l ≤ 60 * l.length
  | [], _ => by simp [Lib.lens]
  | a :: l, h => by
    have h1 := h a (by simp)
    have h2 := lens_le l fun b hb => h b (by simp [hb])
    simp only [Lib.lens, List.map_cons, List.sum_cons, List.length_cons] at h2 ⊢
    omega
theorem join_le (l : List Str) (h : ∀ a ∈ l, a.length ≤ 60) : (Lib.join l [32]).length ≤ 61 * l.length := by
  cases l with
  | nil => simp [Lib.join_nil]
  | cons a r =>
    have := lens_le _ h
    rw [Lib.join_length]
    simp only [List.length_cons, List.length_nil] at this ⊢
    omega
theorem itoa_small (n : Int) (h : -1000000000000 ≤ n) (h1 : n ≤ 1000000000000) : (Lib.itoa n).length ≤ 21 := Lib.itoa_length_le n (by omega) (by omega)
theorem ask0_le (t : Str) (σ : EnvV) (h : EnvOk σ) : (ask0 t σ).1.length ≤ 740 ∧ ((ask0 t σ).2.2 = [] ∨ (ask0 t σ).2.2 = σ.args) := by
  have ha := h.args
  have hs := h.lo
  have hs' := h.hi
  unfold ask0
  split
  · rename_i n _
    split
    · rename_i hn
      refine ⟨?_, .inl rfl⟩
      simp only []
      by_cases hl : n - 1 < σ.args.length
      · have e : σ.args.getD (n - 1) [] = σ.args[n - 1] := by simp [List.getD, List.getElem?_eq_getElem hl]
        have := h.arg _ (List.getElem_mem hl)
        rw [e]
        omega
      · have e : σ.args.getD (n - 1) [] = [] := by simp [List.getD, List.getElem?_eq_none (Nat.le_of_not_lt hl)]
        rw [e]; simp
    · exact ⟨by simp, .inl rfl⟩
  · split
    · exact ⟨by have := itoa_small (σ.args.length : Int) (by omega) (by omega); simp only []; omega, .inl rfl⟩
    · split
      · exact ⟨by have := itoa_small σ.status (by omega) (by omega); simp only []; omega, .inl rfl⟩
      · split
        · exact ⟨by have := join_le σ.args h.arg; simp only []; omega, .inr rfl⟩
        · split
          · rename_i v hv
            obtain ⟨x, hx, rfl⟩ := getL_mem _ _ _ hv
            exact ⟨by have := h.vars x hx; simp only []; omega, .inl rfl⟩
          · exact ⟨by simp, .inl rfl⟩

/-! ## What an outcome costs -/
structure Bd (o : Out) (σ : EnvV) (c : Nat) : Prop where
  ok : EnvOk o.s
  wt : wtF o.F ≤ c
  seen : o.s.seen.length ≤ σ.seen.length + c
  vars : o.s.vars.length ≤ σ.vars.length + c
  args : o.s.args = σ.args
  status : o.s.status = σ.status
def bodyLen (p : PartV) : Nat := match p.body with | none => 0 | some c => c.name.length
def costP (p : PartV) : Nat := 1000 + p.text.length + bodyLen p
def costW : Nat → List PartV → Nat
  | 0, _ => 0
  | n + 1, ps => (ps.map fun p => costP p + costW n p.word).sum
theorem costW_nil : ∀ n, costW n [] = 0
  | 0 => rfl
  | n + 1 => rfl
theorem costW_cons (n : Nat) (p : PartV) (ps : List PartV) : costW (n + 1) (p :: ps) = costP p + costW n p.word + costW (n + 1) ps := by simp [costW]
theorem costW_append (n : Nat) (a b : List PartV) : costW n (a ++ b) = costW n a + costW n b := by
  cases n with
  | zero => rfl
  | succ n => simp [costW]
theorem Bd.say {o : Out} {σ : EnvV} {c k : Nat} {s : Str} (h : Bd o (σ.say s) c) (hk : c + 1 ≤ k) : Bd o σ k :=
  ⟨h.ok, by have := h.wt; omega, by have := h.seen; simp only [EnvV.say, List.length_append, List.length_singleton] at this; omega, by have := h.vars; simp only [EnvV.say] at this; omega, h.args, h.status⟩
theorem Bd.mono {o : Out} {σ : EnvV} {c k : Nat} (h : Bd o σ c) (hk : c ≤ k) : Bd o σ k :=
  ⟨h.ok, by have := h.wt; omega, by have := h.seen; omega, by have := h.vars; omega, h.args, h.status⟩
theorem bd_nil {e : Int} {σ : EnvV} (h : EnvOk σ) (c : Nat) : Bd ⟨e, [], σ⟩ σ c := ⟨h, by simp [wtF], by simp, by simp, rfl, rfl⟩
theorem bd_tell {q : Bool} {v : Str} {σ : EnvV} (h : EnvOk σ) {c : Nat} (hc : v.length + 2 ≤ c) : Bd (tellV q v σ) σ c := by
  refine ⟨h, ?_, by simp [tellV], by simp [tellV], rfl, rfl⟩
  simp only [tellV, runOf, wtF, wtR, List.map_cons, List.map_nil, List.sum_cons, List.sum_nil]
  omega
theorem trimGo_le (op : Str) (p : List RunV) (s : Str) : ∀ m i, (trimGo op p s m i).length ≤ s.length
  | 0, _ => by simp [trimGo]
  | m + 1, i => by
    rw [trimGo]
    split
    · unfold leftV
      split
      · rw [List.length_drop]; omega
      · rw [List.length_take]; omega
    · exact trimGo_le op p s m (i + 1)
theorem wt_args (q : Bool) : ∀ l : List Str, (∀ a ∈ l, a.length ≤ 60) → wtF (l.map fun s => [runOf q s]) ≤ 62 * l.length
  | [], _ => by simp [wtF]
  | a :: l, h => by
    have h1 := h a (by simp)
    have h2 := wt_args q l fun b hb => h b (by simp [hb])
    rw [List.map_cons, wtF_cons, List.length_cons]
    have e : wtR [runOf q a] = 1 + a.length := by simp [wtR, runOf]
    rw [e]
    omega
theorem doV_bd (rec : List PartV → EnvV → Out) (p : PartV) (x : Asked) (σ : EnvV) (k : OpK) {c : Nat} (h : EnvOk σ) (hx : x.value.length ≤ 740) (hxa : x.args = [] ∨ x.args = σ.args) (hr : Bd (rec p.word σ) σ (c + 1)) :
    Bd (doV rec p x σ k) σ (c + 900) := by
  have ha := h.args
  have ht : Bd (tellV p.q x.value σ) σ (c + 900) := bd_tell h (by omega)
  have hs := hr.seen
  have hv := hr.vars
  cases k with
  | plain =>
    change Bd (plainV _ _ _ _) _ _
    unfold plainV
    split
    · exact ht
    · have h2 : wtF (x.args.map fun s => [runOf p.q s]) ≤ 62 * 12 := by
        rcases hxa with e | e
        · rw [e]; simp [wtF]
        · rw [e]
          have := wt_args p.q σ.args h.arg
          omega
      exact ⟨h, by simp only []; omega, by simp, by simp, rfl, rfl⟩
  | size =>
    refine bd_tell h ?_
    have : (Lib.itoa (if isAll p.text = true then (x.args.length : Int) else (x.value.length : Int))).length ≤ 21 := by
      split
      · refine itoa_small _ (by omega) ?_
        rcases hxa with e | e
        · rw [e]; simp
        · rw [e]; omega
      · exact itoa_small _ (by omega) (by omega)
    omega
  | orElse =>
    change Bd (if x.missing = true then rec p.word σ else tellV p.q x.value σ) _ _
    split
    · exact hr.mono (by omega)
    · exact ht
  | instead =>
    change Bd (if x.missing = true then ⟨0, [], σ⟩ else rec p.word σ) _ _
    split
    · exact bd_nil h _
    · exact hr.mono (by omega)
  | must =>
    change Bd (if x.missing = true then ⟨2, [], σ⟩ else tellV p.q x.value σ) _ _
    split
    · exact bd_nil h _
    · exact ht
  | assign =>
    change Bd (assignV _ _ _ _) _ _
    unfold assignV
    split
    · simp only []
      split
      · split
        · unfold setV
          split
          · refine ⟨hr.ok.say _, by simp [wtF], ?_, ?_, hr.args, hr.status⟩
            · simp only [EnvV.say, List.length_append, List.length_singleton]; omega
            · simp only [EnvV.say]; omega
          · rename_i hl
            refine ⟨⟨?_, hr.ok.args, hr.ok.arg, hr.ok.lo, hr.ok.hi⟩, ?_, ?_, ?_, hr.args, hr.status⟩
            · intro v hv
              simp only [tellV, List.mem_append, List.mem_singleton] at hv
              rcases hv with hv | rfl
              · exact hr.ok.vars v hv
              · simp only []; omega
            · simp only [tellV, runOf, wtF, wtR, List.map_cons, List.map_nil, List.sum_cons, List.sum_nil]; omega
            · simp only [tellV, EnvV.say, List.length_append, List.length_singleton]; omega
            · simp only [tellV, List.length_append, List.length_singleton]; omega
        · exact ⟨hr.ok, by simp [wtF], by simp only []; omega, by simp only []; omega, hr.args, hr.status⟩
      · exact ⟨hr.ok, by simp [wtF], by simp only []; omega, by simp only []; omega, hr.args, hr.status⟩
    · exact ht
  | trim =>
    change Bd (trimOut _ _ _ _) _ _
    unfold trimOut
    simp only []
    split
    · have := trimGo_le p.op (flatR (rec p.word σ).F) x.value (x.value.length + 1) 0
      refine ⟨hr.ok, ?_, by simp only [tellV]; omega, by simp only [tellV]; omega, hr.args, hr.status⟩
      simp only [tellV, runOf, wtF, wtR, List.map_cons, List.map_nil, List.sum_cons, List.sum_nil, trimV]
      omega
    · exact ⟨hr.ok, by simp [wtF], by simp only []; omega, by simp only []; omega, hr.args, hr.status⟩
theorem evalPart_bd (rec : List PartV → EnvV → Out) (d : Bool) (p : PartV) (σ : EnvV) {c : Nat} (h : EnvOk σ) (hr : ∀ σ', EnvOk σ' → Bd (rec p.word σ') σ' (c + 1)) : Bd (evalPart rec d p σ) σ (c + costP p) := by
  have hb : p.text.length ≤ costP p := by unfold costP; omega
  unfold evalPart
  split
  · refine ⟨h, ?_, by simp, by simp, rfl, rfl⟩
    simp only [wtF, wtR, List.map_cons, List.map_nil, List.sum_cons, List.sum_nil, costP]; omega
  · split
    · refine ⟨h, ?_, by simp, by simp, rfl, rfl⟩
      simp only [wtF, wtR, List.map_cons, List.map_nil, List.sum_cons, List.sum_nil, costP]; omega
    · split
      · unfold paramV
        split
        · exact (bd_nil (h.say _) (c + 900)).say (by unfold costP; omega)
        · have h0 := ask0_le p.text σ h
          exact (doV_bd rec p (askV p.text p.op σ) (σ.say (askS p.text)) _ (h.say _) h0.1 h0.2 (hr _ (h.say _))).say (by unfold costP; omega)
      · split
        · unfold substV
          split
          · exact (bd_tell (h.say _) (Nat.le_refl _)).say (by unfold costP; simp; omega)
          · rename_i b hb'
            have e : bodyLen p = b.name.length := by simp [bodyLen, hb']
            split
            · exact (bd_nil (h.say _) (c + 900)).say (by unfold costP; omega)
            · exact (bd_tell (h.say _) (Nat.le_refl _)).say (by unfold costP; omega)
        · exact bd_nil h _
theorem evalL_bd (rec : List PartV → EnvV → Out) (d : Bool) (cw : List PartV → Nat) (hr : ∀ ps σ', EnvOk σ' → Bd (rec ps σ') σ' (cw ps + 1)) : ∀ (ps : List PartV) (F : Flds) (σ : EnvV), EnvOk σ →
    EnvOk (evalL rec d ps F σ).s ∧ wtF (evalL rec d ps F σ).F ≤ wtF F + (ps.map fun p => costP p + cw p.word).sum ∧ (evalL rec d ps F σ).s.seen.length ≤ σ.seen.length + (ps.map fun p => costP p + cw p.word).sum ∧
      (evalL rec d ps F σ).s.vars.length ≤ σ.vars.length + (ps.map fun p => costP p + cw p.word).sum ∧ (evalL rec d ps F σ).s.args = σ.args ∧ (evalL rec d ps F σ).s.status = σ.status
  | [], F, σ, h => ⟨h, by simp [evalL], by simp [evalL], by simp [evalL], rfl, rfl⟩
  | p :: ps, F, σ, h => by
    have h1 := evalPart_bd rec d p σ h (hr p.word)
    have w1 := h1.wt
    have s1 := h1.seen
    have v1 := h1.vars
    rw [List.map_cons, List.sum_cons]
    simp only [evalL]
    split
    · obtain ⟨o2, w2, s2, v2, a2, t2⟩ := evalL_bd rec d cw hr ps (joinF F (evalPart rec d p σ).F) (evalPart rec d p σ).s h1.ok
      have hj := wtF_join F (evalPart rec d p σ).F
      exact ⟨o2, by omega, by omega, by omega, a2.trans h1.args, t2.trans h1.status⟩
    · exact ⟨h1.ok, by simp [wtF], by simp only []; omega, by simp only []; omega, h1.args, h1.status⟩
theorem evalW_bd : ∀ (n : Nat) (ps : List PartV) (σ : EnvV), EnvOk σ → Bd (evalW n ps σ) σ (costW n ps + 1)
  | 0, ps, σ, h => bd_nil h _
  | n + 1, ps, σ, h => by
    obtain ⟨o2, w2, s2, v2, a2, t2⟩ := evalL_bd (evalW n) (decide (n < 19)) (costW n) (evalW_bd n) ps [[]] σ h
    have e : wtF ([[]] : Flds) = 1 := by simp [wtF, wtR]
    rw [e] at w2
    refine ⟨o2, ?_, ?_, ?_, a2, t2⟩
    · change wtF (evalL (evalW n) (decide (n < 19)) ps [[]] σ).F ≤ (ps.map fun p => costP p + costW n p.word).sum + 1
      omega
    · change (evalL (evalW n) (decide (n < 19)) ps [[]] σ).s.seen.length ≤ σ.seen.length + ((ps.map fun p => costP p + costW n p.word).sum + 1)
      omega
    · change (evalL (evalW n) (decide (n < 19)) ps [[]] σ).s.vars.length ≤ σ.vars.length + ((ps.map fun p => costP p + costW n p.word).sum + 1)
      omega
end Go.Proofs.YtklihdlfbhgpeaaDoor
