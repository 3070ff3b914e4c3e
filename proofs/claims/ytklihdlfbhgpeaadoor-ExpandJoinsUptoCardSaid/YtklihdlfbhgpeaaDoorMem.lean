/-
  What lies in memory while a word is expanded: the environment, the fields; what a step may turn. No function is walked here.
-/
import Derived.Test.YtklihdlfbhgpeaaDoorEval
import Derived.Test.YtklihdlfbhgpeaaDoorG10
import Derived.Maps.AppendAt
namespace Go.Proofs.YtklihdlfbhgpeaaDoor
open Go.RowKit
set_option linter.unusedVariables false

/-! ## What a step keeps -/
/-- Everything stays, but the blocks of cells that are M's. -/
structure Kw (M : Nat → TypeId → Prop) (w w' : World) : Prop where
  os : w'.os = w.os
  tape : w'.tape = w.tape
  output : w'.output = w.output
  size : w.heap.size ≤ w'.heap.size
  keep : ∀ (k : Nat) cs t fz, ¬ M k t → w.heap[k]? = some (.cells cs t fz) → w'.heap[k]? = some (.cells cs t fz)
  other : ∀ (k : Nat) o, (∀ cs t fz, o ≠ .cells cs t fz) → w.heap[k]? = some o → w'.heap[k]? = some o
section
variable {M N : Nat → TypeId → Prop} {w w' w1 : World}
theorem Kw.refl (M : Nat → TypeId → Prop) (w : World) : Kw M w w := ⟨rfl, rfl, rfl, Nat.le_refl _, fun _ _ _ _ _ h => h, fun _ _ _ h => h⟩
theorem Kw.trans (h : Kw M w w1) (k : Kw M w1 w') : Kw M w w' :=
  ⟨k.os.trans h.os, k.tape.trans h.tape, k.output.trans h.output, Nat.le_trans h.size k.size, fun i cs t fz hm hh => k.keep i cs t fz hm (h.keep i cs t fz hm hh), fun i o ho hh => k.other i o ho (h.other i o ho hh)⟩
theorem Kw.mono (h : Kw M w w') (hm : ∀ k t, k < w.heap.size → M k t → N k t) : Kw N w w' :=
  ⟨h.os, h.tape, h.output, h.size, fun i cs t fz hn hh => h.keep i cs t fz (fun hM => hn (hm i t (Array.getElem?_eq_some_iff.1 hh).1 hM)) hh, h.other⟩
theorem Kw.below (h : Below w.heap.size w w') : Kw M w w' :=
  ⟨h.os, h.tape, h.output, h.size, fun k cs t fz _ hh => (h.block k (Array.getElem?_eq_some_iff.1 hh).1).trans hh, fun k o _ hh => (h.block k (Array.getElem?_eq_some_iff.1 hh).1).trans hh⟩
/-- What turns nothing below n. -/
theorem Kw.toBelow {n : Nat} (h : Kw M w w') (hn : n ≤ w.heap.size) (hm : ∀ k t, M k t → n ≤ k) : Below n w w' := by
  refine ⟨h.os, h.tape, h.output, h.size, fun k hk => ?_⟩
  have hlt : k < w.heap.size := by omega
  have e : w.heap[k]? = some w.heap[k] := Array.getElem?_eq_getElem hlt
  rw [e]
  by_cases hc : ∃ cs t fz, w.heap[k] = .cells cs t fz
  · obtain ⟨cs, t, fz, hc⟩ := hc
    rw [hc] at e ⊢
    exact h.keep k cs t fz (fun hM => by have := hm k t hM; omega) e
  · exact h.other k _ (fun cs t fz he => hc ⟨cs, t, fz, he⟩) e
theorem Kw.alloc (h : Kw M w w1) (o : Obj) : Kw M w (w1.alloc o) := h.trans (Kw.below ((Below.refl _ _).alloc (Nat.le_refl _) o))
theorem Kw.drewN (h : Kw M w w1) (n : Nat) : Kw M w (w1.drewN n) := ⟨h.os, h.tape, h.output, h.size, h.keep, h.other⟩
theorem Kw.drew (h : Kw M w w1) : Kw M w w1.drew := ⟨h.os, h.tape, h.output, h.size, h.keep, h.other⟩
theorem Kw.set {g : Nat} {t : TypeId} {cs : Array Value} (h : Kw M w w1) (hg : At w1 g t cs) (hm : M g t) (i : Nat) (v : Value) : Kw M w (w1.setCell ⟨g, i, none⟩ v) :=
  have hb : ∀ k : Nat, k ≠ g → (w1.setCell ⟨g, i, none⟩ v).heap[k]? = w1.heap[k]? := fun k hk => Below.heap_setCell w1 ⟨g, i, none⟩ v k hk
  have e : w1.heap[g]? = some (.cells cs t (0, 0)) := hg
  h.trans ⟨rfl, rfl, rfl, by simp, fun k cs' t' fz hk hh => (hb k (by
    rintro rfl
    rw [hh] at e
    injection e with e
    injection e with _ e2
    exact hk (e2 ▸ hm))).trans hh, fun k o ho hh => (hb k (by
    rintro rfl
    rw [hh] at e
    injection e with e
    exact ho _ _ _ e)).trans hh⟩
theorem Kw.grown {row : Option Nat} (h : w.grownBy w' row) (hr : ∀ r, row = some r → ∃ cs t fz, w.heap[r]? = some (.cells cs t fz) ∧ M r t) : Kw M w w' := by
  refine ⟨h.os, h.tape, h.output, h.size, fun j cs t fz hm hh => (h.block j (Array.getElem?_eq_some_iff.1 hh).1 (fun e => ?_)).trans hh, fun j o ho hh => (h.block j (Array.getElem?_eq_some_iff.1 hh).1 (fun e => ?_)).trans hh⟩
  · obtain ⟨cs', t', fz', h1, h2⟩ := hr j e.symm
    rw [hh] at h1
    injection h1 with h1
    injection h1 with _ e2
    exact hm (e2 ▸ h2)
  · obtain ⟨cs', t', fz', h1, h2⟩ := hr j e.symm
    rw [hh] at h1
    injection h1 with h1
    exact ho _ _ _ h1
theorem Kw.at_ {g : Nat} {t : TypeId} {cs : Array Value} (h : Kw M w w') (ha : At w g t cs) (hm : ¬ M g t) : At w' g t cs := h.keep g cs t (0, 0) hm ha
theorem Kw.lt {g : Nat} (h : Kw M w w') (hg : g < w.heap.size) : g < w'.heap.size := Nat.lt_of_lt_of_le hg h.size
end

/-! ## A row of elements of k cells, in a block of kind t -/
def TR (w : World) (t : TypeId) (k : Nat) (A : Option Addr) (n : Nat) (xs : List Value) : Prop :=
  xs.length = n * k ∧ (0 < n → ∃ b off cur fz, A = some ⟨b, off, none⟩ ∧ w.heap[b]? = some (.cells cur t fz) ∧ ∀ j u, xs[j]? = some u → cur[off + j]? = some u)
section
variable {w w' : World} {t : TypeId} {k n : Nat} {A : Option Addr} {xs : List Value} {M : Nat → TypeId → Prop}
theorem TR.nil : TR w t k A 0 [] := ⟨by simp, fun h => absurd h (by omega)⟩
theorem TR.kw' (h : TR w t k A n xs) (hk : Kw M w w') (hm : 0 < n → ∀ b off, A = some ⟨b, off, none⟩ → ¬ M b t) : TR w' t k A n xs := ⟨h.1, fun hn => by
  obtain ⟨b, off, cur, fz, e, hb, hc⟩ := h.2 hn
  exact ⟨b, off, cur, fz, e, hk.keep b cur t fz (hm hn b off e) hb, hc⟩⟩
theorem TR.kw (h : TR w t k A n xs) (hk : Kw M w w') (hm : ∀ b, ¬ M b t) : TR w' t k A n xs := h.kw' hk fun _ b _ _ => hm b
theorem TR.below (h : TR w t k A n xs) (hb : Below w.heap.size w w') : TR w' t k A n xs := h.kw (M := fun _ _ => False) (Kw.below hb) fun _ h => h
theorem TR.alloc (h : TR w t k A n xs) (o : Obj) : TR (w.alloc o) t k A n xs := h.below ((Below.refl _ _).alloc (Nat.le_refl _) o)
theorem TR.drewN (h : TR w t k A n xs) (m : Nat) : TR (w.drewN m) t k A n xs := h
theorem TR.rc (h : TR w t k A n xs) : Rc w k A n xs := ⟨h.1, fun hn => by
  obtain ⟨b, off, cur, fz, e, hb, hc⟩ := h.2 hn
  exact ⟨b, off, e, (Array.getElem?_eq_some_iff.1 hb).1, fun j u hu => (cell_of_row w b (off + j) cur t fz hb).trans (hc j u hu)⟩⟩
theorem TR.of_own {base c : Nat} (h : w.ownsRow base t k (.slice A n c) n xs) : TR w t k A n xs := by
  refine ⟨h.1, fun hn => ?_⟩
  rcases h.2 with ⟨_, h0⟩ | ⟨g, cap, cur, hv, _, hg, hnc, _, hcs, htake⟩
  · omega
  · obtain rfl : A = some ⟨g, 0, none⟩ := by injection hv
    refine ⟨g, 0, cur, (0, 0), rfl, hg, fun j u hu => ?_⟩
    rw [← htake, List.getElem?_take] at hu
    split at hu
    · rw [Nat.zero_add, ← Array.getElem?_toList]; exact hu
    · cases hu
/-- The block of a row of one's own. -/
theorem own_form {base : Nat} {v : Value} (h : w.ownsRow base t k v n xs) : ∃ A c, v = .slice A n c ∧ (0 < n → ∃ b, A = some ⟨b, 0, none⟩ ∧ v.ownBlock = some b) ∧ (∀ b off, A = some ⟨b, off, none⟩ → v.ownBlock = some b) := by
  rcases h.2 with ⟨rfl, rfl⟩ | ⟨g, cap, cur, rfl, _⟩
  · exact ⟨none, 0, rfl, fun h => absurd h (by omega), fun _ _ h => by cases h⟩
  · refine ⟨some ⟨g, 0, none⟩, cap, rfl, fun _ => ⟨g, rfl, rfl⟩, fun b off h => ?_⟩
    injection h with h
    injection h with h1 h2
    subst h1
    rfl
theorem own_cells {base : Nat} {v : Value} (h : w.ownsRow base t k v n xs) {r : Nat} (hr : v.ownBlock = some r) : ∃ cur, w.heap[r]? = some (.cells cur t (0, 0)) := by
  rcases h.2 with ⟨rfl, rfl⟩ | ⟨g, cap, cur, rfl, _, hg, _⟩
  · cases hr
  · obtain rfl : g = r := by simpa [Value.ownBlock] using hr
    exact ⟨cur, hg⟩
theorem own_kw {base : Nat} {v : Value} (h : w.ownsRow base t k v n xs) (hk : Kw M w w') (hm : ∀ r, v.ownBlock = some r → ¬ M r t) : w'.ownsRow base t k v n xs := by
  refine ⟨h.1, ?_⟩
  rcases h.2 with ⟨rfl, rfl⟩ | ⟨g, cap, cur, rfl, hb, hg, rest⟩
  · exact .inl ⟨rfl, rfl⟩
  · exact .inr ⟨g, cap, cur, rfl, hb, hk.keep g cur t (0, 0) (hm g rfl) hg, rest⟩
theorem own_base {base b' : Nat} {v : Value} (h : w.ownsRow base t k v n xs) (hb : ∀ r, v.ownBlock = some r → b' ≤ r) : w.ownsRow b' t k v n xs := by
  refine ⟨h.1, ?_⟩
  rcases h.2 with ⟨rfl, rfl⟩ | ⟨g, cap, cur, rfl, _, hg, rest⟩
  · exact .inl ⟨rfl, rfl⟩
  · exact .inr ⟨g, cap, cur, rfl, hb g rfl, hg, rest⟩
theorem own_alloc {base : Nat} {v : Value} (h : w.ownsRow base t k v n xs) (o : Obj) : (w.alloc o).ownsRow base t k v n xs :=
  own_kw (M := fun _ _ => False) h ((Kw.refl _ _).alloc o) fun _ _ h => h
end

/-! ## The environment -/
/-- The cells of a row of texts, of variables. -/
def txv (l : List Str) : List Value := l.map fun s => .string ⟨s.toArray⟩
theorem txv_length (l : List Str) : (txv l).length = l.length * 1 := by simp [txv]
theorem txv_get (l : List Str) (i : Nat) (h : i < l.length) : (txv l)[i]? = some (.string ⟨(l.getD i []).toArray⟩) := by
  simp [txv, List.getD, List.getElem?_eq_getElem h]
theorem txv_snoc (l : List Str) (s : Str) : txv (l ++ [s]) = txv l ++ [.string ⟨s.toArray⟩] := by simp [txv]
def vrv (l : List (Str × Str)) : List Value := l.flatMap fun v => [.string ⟨v.1.toArray⟩, .string ⟨v.2.toArray⟩]
theorem vrv_snoc (l : List (Str × Str)) (v : Str × Str) : vrv (l ++ [v]) = vrv l ++ [.string ⟨v.1.toArray⟩, .string ⟨v.2.toArray⟩] := by simp [vrv]
theorem vrv_length : ∀ l : List (Str × Str), (vrv l).length = l.length * 2
  | [] => rfl
  | v :: l => by rw [vrv, List.flatMap_cons, List.length_append, ← vrv, vrv_length l, List.length_cons]; simp; omega
theorem vrv_get : ∀ (l : List (Str × Str)) (i : Nat), i < l.length → (vrv l)[i * 2]? = some (.string ⟨(l.getD i ([], [])).1.toArray⟩) ∧ (vrv l)[i * 2 + 1]? = some (.string ⟨(l.getD i ([], [])).2.toArray⟩)
  | [], i, h => by simp at h
  | v :: l, 0, _ => ⟨rfl, rfl⟩
  | v :: l, i + 1, h => by
    have := vrv_get l i (by simpa using h)
    rw [show vrv (v :: l) = .string ⟨v.1.toArray⟩ :: .string ⟨v.2.toArray⟩ :: vrv l from rfl, show (i + 1) * 2 = i * 2 + 1 + 1 by omega]
    simpa using this
abbrev envT (t : TypeId) : Prop := t = 31 ∨ t = 44 ∨ t = 9
/-- What an environment may turn: its own blocks. -/
abbrev ME (S : Nat → Prop) (k : Nat) (t : TypeId) : Prop := S k ∧ envT t
/-- A row that may be appended to: its block is S's, or it is full. -/
def Grows (S : Nat → Prop) (v : Value) (n : Nat) : Prop := (∀ r, v.ownBlock = some r → S r) ∨ ∃ A, v = .slice A n n
structure EnvAt (w : World) (S : Nat → Prop) (Eb : Nat) (σ : EnvV) : Prop where
  up : ∀ k, w.heap.size ≤ k → S k
  own : S Eb
  at_ : ∃ vL AA cA vS, At w Eb 31 #[vL, .slice AA σ.args.length cA, .int .i64 σ.status, vS] ∧ w.ownsRow 0 44 2 vL σ.vars.length (vrv σ.vars) ∧ Grows S vL σ.vars.length ∧
    TR w 9 1 AA σ.args.length (txv σ.args) ∧ w.ownsRow 0 9 1 vS σ.seen.length (txv σ.seen) ∧ (∀ r, vS.ownBlock = some r → S r) ∧ (0 < σ.args.length → ∀ b off, AA = some ⟨b, off, none⟩ → vS.ownBlock ≠ some b)
theorem EnvAt.kw {M : Nat → TypeId → Prop} {w w' : World} {S : Nat → Prop} {Eb : Nat} {σ : EnvV} (h : EnvAt w S Eb σ) (hk : Kw M w w') (hm : ∀ k t, envT t → ¬ M k t) : EnvAt w' S Eb σ := by
  obtain ⟨up, own, vL, AA, cA, vS, h1, h2, h3, h4, h5, h6, h7⟩ := h
  exact ⟨fun k hk' => up k (Nat.le_trans hk.size hk'), own, vL, AA, cA, vS, hk.at_ h1 (hm _ _ (.inl rfl)), own_kw h2 hk fun r _ => hm _ _ (.inr (.inl rfl)), h3, h4.kw hk fun b => hm _ _ (.inr (.inr rfl)), own_kw h5 hk fun r _ => hm _ _ (.inr (.inr rfl)), h6, h7⟩
theorem EnvAt.below {w w' : World} {S : Nat → Prop} {Eb : Nat} {σ : EnvV} (h : EnvAt w S Eb σ) (hb : Below w.heap.size w w') : EnvAt w' S Eb σ := h.kw (M := fun _ _ => False) (Kw.below hb) fun _ _ _ h => h
theorem EnvAt.alloc {w : World} {S : Nat → Prop} {Eb : Nat} {σ : EnvV} (h : EnvAt w S Eb σ) (o : Obj) : EnvAt (w.alloc o) S Eb σ := h.below ((Below.refl _ _).alloc (Nat.le_refl _) o)
theorem EnvAt.drewN {w : World} {S : Nat → Prop} {Eb : Nat} {σ : EnvV} (h : EnvAt w S Eb σ) (n : Nat) : EnvAt (w.drewN n) S Eb σ := ⟨h.up, h.own, h.at_⟩

/-- What is told: the step 'e.seen = append(e.seen, s)'. -/
theorem EnvAt.say {w w2 : World} {S : Nat → Prop} {Eb : Nat} {σ : EnvV} {vL vS v' : Value} {AA : Option Addr} {cA : Nat} {tmp : Obj} (s : Str) (h : EnvAt w S Eb σ)
    (hat : At w Eb 31 #[vL, .slice AA σ.args.length cA, .int .i64 σ.status, vS]) (hown : w2.ownsRow 0 9 1 v' (σ.seen.length + 1) (txv σ.seen ++ [.string ⟨s.toArray⟩])) (hg : (w.alloc tmp).grownBy w2 vS.ownBlock)
    (hb : v'.ownBlock = vS.ownBlock ∨ v'.ownBlock = some (w.alloc tmp).heap.size) :
    EnvAt (w2.setCell ⟨Eb, 3, none⟩ v') S Eb (σ.say s) ∧ Kw (ME S) w (w2.setCell ⟨Eb, 3, none⟩ v') := by
  obtain ⟨up, own, vL', AA', cA', vS', h1, h2, h3, h4, h5, h6, h7⟩ := h
  have he := hat.eq h1
  simp only [Array.mk.injEq, List.cons.injEq, Value.slice.injEq, true_and, and_true] at he
  obtain ⟨rfl, ⟨rfl, rfl⟩, rfl⟩ := he
  have hcs : ∀ r, vS.ownBlock = some r → ∃ cs t fz, (w.alloc tmp).heap[r]? = some (.cells cs t fz) ∧ (S r ∧ t = 9) := fun r hr => by
    obtain ⟨cur, hc⟩ := own_cells (own_alloc h5 tmp) hr
    exact ⟨cur, 9, (0, 0), hc, h6 r hr, rfl⟩
  have k1 : Kw (fun k t => vS.ownBlock = some k ∧ t = 9) w (w.alloc tmp) := (Kw.refl _ _).alloc _
  have k2 : Kw (fun k t => vS.ownBlock = some k ∧ t = 9) (w.alloc tmp) w2 := Kw.grown hg fun r hr => by
    obtain ⟨cs, t, fz, a, _, c⟩ := hcs r hr
    exact ⟨cs, t, fz, a, hr, c⟩
  have k3 := k1.trans k2
  have hE2 : At w2 Eb 31 #[vL, .slice AA σ.args.length cA, .int .i64 σ.status, vS] := k3.at_ h1 (fun h => absurd h.2 (by decide))
  have hE3 : At (w2.setCell ⟨Eb, 3, none⟩ v') Eb 31 #[vL, .slice AA σ.args.length cA, .int .i64 σ.status, v'] := hE2.set 3 v'
  have k4 : Kw (fun k t => k = Eb ∧ t = 31) w2 (w2.setCell ⟨Eb, 3, none⟩ v') := (Kw.refl _ _).set hE2 ⟨rfl, rfl⟩ _ _
  have hsz : (w.alloc tmp).heap.size = w.heap.size + 1 := by simp
  have hSv : ∀ r, v'.ownBlock = some r → S r := fun r hr => by
    rcases hb with e | e
    · exact h6 r (e ▸ hr)
    · rw [e] at hr; injection hr with hr; exact up r (by omega)
  refine ⟨⟨fun k hk => up k (Nat.le_trans (Nat.le_trans k3.size k4.size) hk), own, vL, AA, cA, v', hE3, ?_, h3, ?_, ?_, hSv, ?_⟩, ?_⟩
  · exact own_kw (own_kw h2 k3 fun r _ h => absurd h.2 (by decide)) k4 fun r _ h => absurd h.2 (by decide)
  · refine (h4.kw' k3 fun h0 b off hA h => h7 h0 b off hA h.1).kw k4 fun b h => absurd h.2 (by decide)
  · rw [EnvV.say, txv_snoc, List.length_append]
    exact own_kw hown k4 fun r _ h => absurd h.2 (by decide)
  · intro h0 b off hA
    rcases hb with e | e
    · rw [e]; exact h7 h0 b off hA
    · rw [e]
      intro hh
      injection hh with hh
      obtain ⟨b', off', cur, fz, e1, hb', _⟩ := h4.2 h0
      rw [hA] at e1
      injection e1 with e1
      injection e1 with e1 _
      have := (Array.getElem?_eq_some_iff.1 hb').1
      omega
  · exact (k3.mono (N := ME S) fun k t _ h => ⟨h6 k h.1, .inr (.inr h.2)⟩).trans (k4.mono fun k t _ h => ⟨h.1 ▸ own, .inl h.2⟩)
end Go.Proofs.YtklihdlfbhgpeaaDoor
