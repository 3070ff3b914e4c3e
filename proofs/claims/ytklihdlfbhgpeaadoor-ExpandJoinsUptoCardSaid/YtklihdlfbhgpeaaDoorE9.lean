/-
  The walk of ask.
-/
import Derived.Test.YtklihdlfbhgpeaaDoorE8
import Derived.Deep.DeepCutAuto
import Derived.Deep.CutBlock
namespace Go.Proofs.YtklihdlfbhgpeaaDoor
open Go.RowKit
set_option linter.unusedVariables false

theorem digitOf_some {t : Str} {n : Nat} (h : digitOf t = some n) : ∃ c : UInt8, t = [c] ∧ 49 ≤ c.toNat ∧ c.toNat ≤ 57 ∧ n = c.toNat - 48 := by
  unfold digitOf at h
  split at h
  · rename_i c
    split at h
    · rename_i hc
      injection h with h
      exact ⟨c, rfl, hc.1, hc.2, h.symm⟩
    · cases h
  · cases h
theorem digitOf_none {t : Str} (h : digitOf t = none) : t.length ≠ 1 ∨ ∃ c : UInt8, t = [c] ∧ (c.toNat < 49 ∨ 57 < c.toNat) := by
  unfold digitOf at h
  split at h
  · rename_i c
    split at h
    · cases h
    · rename_i hc
      exact .inr ⟨c, rfl, by omega⟩
  · rename_i hne
    left
    intro hl
    obtain ⟨c, rfl⟩ : ∃ c, t = [c] := by
      match t, hl with
      | [c], _ => exact ⟨c, rfl⟩
    exact hne c rfl
abbrev pcell (p : PartV) (A : Option Addr) (c : Nat) (B : Option Addr) : Obj := .cells #[.int .i64 p.kind, .string ⟨p.text.toArray⟩, .string ⟨p.op.toArray⟩, .bool p.q, .slice A p.word.length c, .pointer B] 47
section
variable {w w' w0 : World} {S T : Nat → Prop} {Eb fb : Nat} {σ σ' : EnvV} {F F' : Flds} {deep : Int}
theorem Kw.setNew {M : Nat → TypeId → Prop} {b : Nat} (hk : Kw M w0 w) (hb : w0.heap.size ≤ b) (i : Nat) (v : Value) : Kw M w0 (w.setCell ⟨b, i, none⟩ v) := by
  have hh : ∀ k : Nat, k < w0.heap.size → (w.setCell ⟨b, i, none⟩ v).heap[k]? = w.heap[k]? := fun k hk => Below.heap_setCell w ⟨b, i, none⟩ v k (by simp only []; omega)
  refine ⟨hk.os, hk.tape, hk.output, by have := hk.size; simp; omega, fun k cs t fz hm h => ?_, fun k o ho h => ?_⟩
  · rw [hh k (Array.getElem?_eq_some_iff.1 h).1]; exact hk.keep k cs t fz hm h
  · rw [hh k (Array.getElem?_eq_some_iff.1 h).1]; exact hk.other k o ho h
theorem St.kw [Inhabited LowT] {M : Nat → TypeId → Prop} (h : St w S T Eb fb σ F deep) (hk : Kw M w w') (h1 : ∀ k t, envT t → ¬ M k t) (h2 : ∀ k t, fldT t → ¬ M k t) (h3 : ∀ t, ¬ M 0 t) : St w' S T Eb fb σ F deep :=
  ⟨h.env.kw hk h1, h.fld.kw hk fun k t _ _ ht => h2 k t ht, h.tab.kw hk h3, h.S0, h.T0⟩
theorem St.set75 [Inhabited LowT] {b : Nat} {cs : Array Value} (h : St w S T Eb fb σ F deep) (hA : At w b 75 cs) (hb : 0 < b) (i : Nat) (v : Value) : St (w.setCell ⟨b, i, none⟩ v) S T Eb fb σ F deep :=
  h.kw (M := fun k t => k = b ∧ t = 75) ((Kw.refl _ w).set hA ⟨rfl, rfl⟩ i v) (fun k t ht hh => by rcases ht with rfl | rfl | rfl <;> exact absurd hh.2 (by decide)) (fun k t ht hh => by rcases ht with rfl | rfl | rfl <;> exact absurd hh.2 (by decide)) (fun t hh => by omega)
theorem TR.set75 {b n k : Nat} {cs : Array Value} {A : Option Addr} {xs : List Value} (h : TR w 9 k A n xs) (hA : At w b 75 cs) (i : Nat) (v : Value) : TR (w.setCell ⟨b, i, none⟩ v) 9 k A n xs :=
  h.kw (M := fun k t => k = b ∧ t = 75) ((Kw.refl _ w).set hA ⟨rfl, rfl⟩ i v) fun b hh => absurd hh.2 (by decide)
theorem At.set75 {b b' : Nat} {t : TypeId} {cs : Array Value} (h : At w b t cs) (hne : b' ≠ b) (i : Nat) (v : Value) : At (w.setCell ⟨b', i, none⟩ v) b t cs :=
  (Below.heap_setCell w ⟨b', i, none⟩ v b (by simpa using hne.symm)).trans h
end
/-- While a parameter is asked: the part, the result's place, the parameter. -/
structure AskS [Inhabited LowT] (w w3 : World) (S T : Nat → Prop) (Eb fb : Nat) (σ : EnvV) (F : Flds) (deep : Int) (a0 a1 a2 a3 a4 a5 v6 v7 v8 v9 : Value) : Prop where
  P : At w3 w.heap.size 47 #[a0, a1, a2, a3, a4, a5]
  R : At w3 (w.heap.size + 1) 75 #[.int .i64 0, .string ⟨#[]⟩, .string ⟨#[]⟩, .bool false, .slice none 0 0, .pointer none, .string ⟨#[]⟩, .bool false, .slice none 0 0, .bool false]
  X : At w3 (w.heap.size + 1 + 1) 75 #[a0, a1, a2, a3, a4, a5, v6, v7, v8, v9]
  st : St w3 S T Eb fb σ F deep
  K : Kw (ME S) w w3
section
variable {w w' w3 : World} {S T : Nat → Prop} {Eb fb : Nat} {σ σ' : EnvV} {F F' : Flds} {deep : Int} {a0 a1 a2 a3 a4 a5 v6 v7 v8 v9 : Value}
theorem AskS.kwE [Inhabited LowT] (h : AskS w w3 S T Eb fb σ F deep a0 a1 a2 a3 a4 a5 v6 v7 v8 v9) (hk : Kw (ME S) w3 w') (he : EnvAt w' S Eb σ') : AskS w w' S T Eb fb σ' F deep a0 a1 a2 a3 a4 a5 v6 v7 v8 v9 :=
  ⟨hk.at_ h.P (fun h => absurd h.2 (by decide)), hk.at_ h.R (fun h => absurd h.2 (by decide)), hk.at_ h.X (fun h => absurd h.2 (by decide)), h.st.kwE hk he, h.K.trans hk⟩
theorem AskS.below [Inhabited LowT] (h : AskS w w3 S T Eb fb σ F deep a0 a1 a2 a3 a4 a5 v6 v7 v8 v9) (hb : Below w3.heap.size w3 w') : AskS w w' S T Eb fb σ F deep a0 a1 a2 a3 a4 a5 v6 v7 v8 v9 :=
  h.kwE (Kw.below hb) (h.st.below hb).env
theorem AskS.drewN [Inhabited LowT] (h : AskS w w3 S T Eb fb σ F deep a0 a1 a2 a3 a4 a5 v6 v7 v8 v9) (n : Nat) : AskS w (w3.drewN n) S T Eb fb σ F deep a0 a1 a2 a3 a4 a5 v6 v7 v8 v9 := h.below ⟨rfl, rfl, rfl, Nat.le_refl _, fun _ _ => rfl⟩
theorem AskS.set6 [Inhabited LowT] (h : AskS w w3 S T Eb fb σ F deep a0 a1 a2 a3 a4 a5 v6 v7 v8 v9) (v : Value) : AskS w (w3.setCell ⟨w.heap.size + 1 + 1, 6, none⟩ v) S T Eb fb σ F deep a0 a1 a2 a3 a4 a5 v v7 v8 v9 :=
  ⟨h.P.set75 (by omega) _ _, h.R.set75 (by omega) _ _, h.X.set 6 v, h.st.set75 h.X (by omega) _ _, h.K.setNew (by omega) _ _⟩
theorem AskS.set7 [Inhabited LowT] (h : AskS w w3 S T Eb fb σ F deep a0 a1 a2 a3 a4 a5 v6 v7 v8 v9) (v : Value) : AskS w (w3.setCell ⟨w.heap.size + 1 + 1, 7, none⟩ v) S T Eb fb σ F deep a0 a1 a2 a3 a4 a5 v6 v v8 v9 :=
  ⟨h.P.set75 (by omega) _ _, h.R.set75 (by omega) _ _, h.X.set 7 v, h.st.set75 h.X (by omega) _ _, h.K.setNew (by omega) _ _⟩
theorem AskS.set8 [Inhabited LowT] (h : AskS w w3 S T Eb fb σ F deep a0 a1 a2 a3 a4 a5 v6 v7 v8 v9) (v : Value) : AskS w (w3.setCell ⟨w.heap.size + 1 + 1, 8, none⟩ v) S T Eb fb σ F deep a0 a1 a2 a3 a4 a5 v6 v7 v v9 :=
  ⟨h.P.set75 (by omega) _ _, h.R.set75 (by omega) _ _, h.X.set 8 v, h.st.set75 h.X (by omega) _ _, h.K.setNew (by omega) _ _⟩
theorem AskS.set9 [Inhabited LowT] (h : AskS w w3 S T Eb fb σ F deep a0 a1 a2 a3 a4 a5 v6 v7 v8 v9) (v : Value) : AskS w (w3.setCell ⟨w.heap.size + 1 + 1, 9, none⟩ v) S T Eb fb σ F deep a0 a1 a2 a3 a4 a5 v6 v7 v8 v :=
  ⟨h.P.set75 (by omega) _ _, h.R.set75 (by omega) _ _, h.X.set 9 v, h.st.set75 h.X (by omega) _ _, h.K.setNew (by omega) _ _⟩
theorem below_grow (w : World) (n : Nat) (os : Array Obj) : Below w.heap.size w (Sort.grow (w.drewN n) os) :=
  ⟨rfl, rfl, rfl, by simp [Sort.grow], fun k hk => by
    have : (w.drewN n).heap = w.heap := rfl
    simp only [Sort.grow, this]
    rw [Array.getElem?_append_left hk]⟩
theorem Kw.thenNew {M N : Nat → TypeId → Prop} {w0 w w' : World} (h : Kw M w0 w) (k : Kw N w w') (hn : ∀ k t, N k t → w0.heap.size ≤ k) : Kw M w0 w' :=
  ⟨k.os.trans h.os, k.tape.trans h.tape, k.output.trans h.output, Nat.le_trans h.size k.size,
    fun i cs t fz hm hh => k.keep i cs t fz (fun hN => by have := hn i t hN; have := (Array.getElem?_eq_some_iff.1 hh).1; omega) (h.keep i cs t fz hm hh), fun i o ho hh => k.other i o ho (h.other i o ho hh)⟩
theorem setStep {w0 w : World} {b : Nat} {cs : Array Value} (h : At w b 75 cs) (k : Kw (fun k t => k = b ∧ t = 75) w0 w) (i : Nat) (v : Value) (cs' : Array Value) (hc : cs.setIfInBounds i v = cs') :
    At (w.setCell ⟨b, i, none⟩ v) b 75 cs' ∧ Kw (fun k t => k = b ∧ t = 75) w0 (w.setCell ⟨b, i, none⟩ v) := ⟨hc ▸ h.set i v, k.set h ⟨rfl, rfl⟩ i v⟩
/-- Ten cells are stored. -/
theorem set10 {w : World} {b : Nat} {a0 a1 a2 a3 a4 a5 a6 a7 a8 a9 : Value} (h : At w b 75 #[a0, a1, a2, a3, a4, a5, a6, a7, a8, a9]) (v0 v1 v2 v3 v4 v5 v6 v7 v8 v9 : Value) :
    At ((((((((((w.setCell ⟨b, 0, none⟩ v0).setCell ⟨b, 1, none⟩ v1).setCell ⟨b, 2, none⟩ v2).setCell ⟨b, 3, none⟩ v3).setCell ⟨b, 4, none⟩ v4).setCell ⟨b, 5, none⟩ v5).setCell ⟨b, 6, none⟩ v6).setCell ⟨b, 7, none⟩ v7).setCell ⟨b, 8, none⟩ v8).setCell ⟨b, 9, none⟩ v9) b 75 #[v0, v1, v2, v3, v4, v5, v6, v7, v8, v9] ∧
    Kw (fun k t => k = b ∧ t = 75) w ((((((((((w.setCell ⟨b, 0, none⟩ v0).setCell ⟨b, 1, none⟩ v1).setCell ⟨b, 2, none⟩ v2).setCell ⟨b, 3, none⟩ v3).setCell ⟨b, 4, none⟩ v4).setCell ⟨b, 5, none⟩ v5).setCell ⟨b, 6, none⟩ v6).setCell ⟨b, 7, none⟩ v7).setCell ⟨b, 8, none⟩ v8).setCell ⟨b, 9, none⟩ v9) := by
  have k0 : Kw (fun k t => k = b ∧ t = 75) w w := Kw.refl _ _
  have c0 := setStep h k0 0 v0 #[v0, a1, a2, a3, a4, a5, a6, a7, a8, a9] rfl
  have c1 := setStep c0.1 c0.2 1 v1 #[v0, v1, a2, a3, a4, a5, a6, a7, a8, a9] rfl
  have c2 := setStep c1.1 c1.2 2 v2 #[v0, v1, v2, a3, a4, a5, a6, a7, a8, a9] rfl
  have c3 := setStep c2.1 c2.2 3 v3 #[v0, v1, v2, v3, a4, a5, a6, a7, a8, a9] rfl
  have c4 := setStep c3.1 c3.2 4 v4 #[v0, v1, v2, v3, v4, a5, a6, a7, a8, a9] rfl
  have c5 := setStep c4.1 c4.2 5 v5 #[v0, v1, v2, v3, v4, v5, a6, a7, a8, a9] rfl
  have c6 := setStep c5.1 c5.2 6 v6 #[v0, v1, v2, v3, v4, v5, v6, a7, a8, a9] rfl
  have c7 := setStep c6.1 c6.2 7 v7 #[v0, v1, v2, v3, v4, v5, v6, v7, a8, a9] rfl
  have c8 := setStep c7.1 c7.2 8 v8 #[v0, v1, v2, v3, v4, v5, v6, v7, v8, a9] rfl
  have c9 := setStep c8.1 c8.2 9 v9 #[v0, v1, v2, v3, v4, v5, v6, v7, v8, v9] rfl
  exact c9
theorem colon_eq (op : Str) : colon op = Lib.hasPrefix op [58] := by
  cases op with
  | nil => rfl
  | cons a r =>
    by_cases h : a = 58
    · subst h; simp [colon, Lib.hasPrefix]
    · have h2 : ¬ 58 = a := fun e => h e.symm
      have e1 : (a == 58) = false := by simp [h]
      have e2 : ((58 : UInt8) == a) = false := by simp [h2]
      simp only [colon, Lib.hasPrefix, List.isPrefixOf, List.head?_cons, e2, Bool.false_and]
      simp [h]
theorem join_any' (A : Option Addr) (c : Nat) (l : List Str) (w : World) (hT : TR w 9 1 A l.length (txv l)) (hc : l.length ≤ c) (hl : ∀ a ∈ l, a.length ≤ 60) (hn : l.length ≤ 12) :
    Calls Tryd.prog 36 #[.slice A l.length c, .string ⟨#[32]⟩] w fun e w' => e = .returned (.string ⟨(Lib.join l [32]).toArray⟩) ∧ Below w.heap.size w w' := by
  cases l with
  | nil =>
    refine (Tryd.strings_Join_none A c ⟨#[32]⟩ w).mono ?_
    rintro e w' ⟨rfl, rfl⟩
    exact ⟨rfl, Below.refl _ _⟩
  | cons s r =>
    obtain ⟨b, off, cur, fz, rfl, hb, hcur⟩ := hT.2 (by simp)
    have hm : ((s :: r).map fun s : Str => ByteArray.mk s.toArray).map (fun x => x.data.toList) = s :: r := by
      rw [List.map_map]
      conv => rhs; rw [← List.map_id (s :: r)]
      rfl
    have hj := join_le _ hl
    have h := Tryd.strings_Join b off c ((s :: r).map fun s => ByteArray.mk s.toArray) ⟨#[32]⟩ w (fun j x hx => by
      rw [List.getElem?_map, Option.map_eq_some_iff] at hx
      obtain ⟨t, ht, rfl⟩ := hx
      refine (cell_of_row w b (off + j) cur 9 fz hb).trans (hcur j _ ?_)
      simp only [txv, List.getElem?_map, ht, Option.map_some]) (Array.getElem?_eq_some_iff.1 hb).1 (by rw [List.length_map]; omega) (by rw [List.length_map]; omega) (by rw [hm]; simp only [] at hj ⊢; omega)
    rw [hm, List.length_map] at h
    exact h
theorem cells10 {w : World} {b : Nat} {t : TypeId} {v0 v1 v2 v3 v4 v5 v6 v7 v8 v9 : Value} (h : At w b t #[v0, v1, v2, v3, v4, v5, v6, v7, v8, v9]) :
    w.cell? ⟨b, 0, none⟩ = some v0 ∧ w.cell? ⟨b, 1, none⟩ = some v1 ∧ w.cell? ⟨b, 2, none⟩ = some v2 ∧ w.cell? ⟨b, 3, none⟩ = some v3 ∧ w.cell? ⟨b, 4, none⟩ = some v4 ∧ w.cell? ⟨b, 5, none⟩ = some v5 ∧
    w.cell? ⟨b, 6, none⟩ = some v6 ∧ w.cell? ⟨b, 7, none⟩ = some v7 ∧ w.cell? ⟨b, 8, none⟩ = some v8 ∧ w.cell? ⟨b, 9, none⟩ = some v9 ∧ b < w.heap.size := by
  refine ⟨?_, ?_, ?_, ?_, ?_, ?_, ?_, ?_, ?_, ?_, h.lt⟩ <;> (rw [h.cell]; rfl)
end
set_option maxRecDepth 100000 in
set_option maxHeartbeats 4000000 in
theorem ask_any [Inhabited LowT] (n : Nat) (S T : Nat → Prop) (Eb fb : Nat) (σ : EnvV) (F : Flds) (deep : Int) (p : PartV) (A : Option Addr) (c : Nat) (B : Option Addr) (w : World) (h : St w S T Eb fb σ F deep) (hb : PB n p σ F) :
    Calls Tryd.prog 25 #[.pointer (some ⟨fb, 0, none⟩), pv p A c B] w fun e w' => ∃ XA xc, e = .returned (xv p A c B (askV p.text p.op σ) XA xc) ∧ TR w' 9 1 XA (askV p.text p.op σ).args.length (txv (askV p.text p.op σ).args) ∧ St w' S T Eb fb (σ.say (askS p.text)) F deep ∧ Kw (ME S) w w' := by
  have hsn : σ.seen.length ≤ 1000000000 := by have := hb.seen; omega
  have hvn : σ.vars.length ≤ 1000000000 := by have := hb.vars; omega
  have htx := hb.text
  have hargs := hb.ok.args
  obtain ⟨v, c0, c1, c2, hlt⟩ := h.cells
  have H := hid h
  have HOK := hid hb.ok
  clear h hb
  have m1 := mArgs (some ⟨Eb, 0, none⟩)
  have m2 := enter100
  have m3 := mStatus (some ⟨Eb, 0, none⟩)
  have m4 := enter103
  have m5 := mGet (some ⟨Eb, 0, none⟩)
  have m6 := enter101
  have hto : (askV p.text p.op σ).value = (ask0 p.text σ).1 ∧ (askV p.text p.op σ).set = (ask0 p.text σ).2.1 ∧ (askV p.text p.op σ).args = (ask0 p.text σ).2.2 ∧ (askV p.text p.op σ).missing = (!(ask0 p.text σ).2.1 || colon p.op && (ask0 p.text σ).1 == []) := ⟨rfl, rfl, rfl, rfl⟩
  obtain ⟨ht1, ht2, ht3, ht4⟩ := hto
  dsimp only [pv, xv]
  rw [ht1, ht2, ht3, ht4]
  have htl : p.text.length ≤ 200000000 := by omega
  clear htx ht1 ht2 ht3 ht4
  generalize p.text = tx at *
  go_enter Tryd.func25, Tryd.ntmps25
  go_upto_block 0 with fail
  go_cut [] (fun wx => Hid (∃ XA xc, AskS w wx S T Eb fb (σ.say (askS tx)) F deep (.int .i64 p.kind) (.string ⟨tx.toArray⟩) (.string ⟨p.op.toArray⟩) (.bool p.q) (.slice A p.word.length c) (.pointer B) (.string ⟨(ask0 tx σ).1.toArray⟩) (.bool (ask0 tx σ).2.1) (.slice XA (ask0 tx σ).2.2.length xc) (.bool false) ∧
    TR wx 9 1 XA (ask0 tx σ).2.2.length (txv (ask0 tx σ).2.2)))
  case first =>
    go_upto_region 6 with fail
    go_cut [28] (fun s28 wx => s28 = .bool (digitOf tx).isSome ∧ Below w.heap.size w wx ∧ At wx w.heap.size 47 #[.int .i64 p.kind, .string ⟨tx.toArray⟩, .string ⟨p.op.toArray⟩, .bool p.q, .slice A p.word.length c, .pointer B] ∧
      At wx (w.heap.size + 1) 75 #[.int .i64 0, .string ⟨#[]⟩, .string ⟨#[]⟩, .bool false, .slice none 0 0, .pointer none, .string ⟨#[]⟩, .bool false, .slice none 0 0, .bool false] ∧
      At wx (w.heap.size + 1 + 1) 75 #[.int .i64 p.kind, .string ⟨tx.toArray⟩, .string ⟨p.op.toArray⟩, .bool p.q, .slice A p.word.length c, .pointer B, .string ⟨#[]⟩, .bool false, .slice none 0 0, .bool false])
    case first =>
      obtain ⟨W, hW⟩ : ∃ W, W = (((w.alloc (.cells #[.int .i64 p.kind, .string ⟨tx.toArray⟩, .string ⟨p.op.toArray⟩, .bool p.q, .slice A p.word.length c, .pointer B] 47)).alloc (.cells #[.int .i64 0, .string ⟨#[]⟩, .string ⟨#[]⟩, .bool false, .slice none 0 0, .pointer none, .string ⟨#[]⟩, .bool false, .slice none 0 0, .bool false] 75)).alloc (.cells #[.int .i64 p.kind, .string ⟨tx.toArray⟩, .string ⟨p.op.toArray⟩, .bool p.q, .slice A p.word.length c, .pointer B, .string ⟨#[]⟩, .bool false, .slice none 0 0, .bool false] 75)) := ⟨_, rfl⟩
      have f1 : Below w.heap.size w W := by rw [hW]; exact (((Below.refl _ _).alloc (Nat.le_refl _) _).alloc (by simp) _).alloc (by simp; omega) _
      have f2 : At W w.heap.size 47 #[.int .i64 p.kind, .string ⟨tx.toArray⟩, .string ⟨p.op.toArray⟩, .bool p.q, .slice A p.word.length c, .pointer B] := by rw [hW]; exact At.alloc (At.alloc (heap_alloc_new w _) _) _
      have f3 : At W (w.heap.size + 1) 75 #[.int .i64 0, .string ⟨#[]⟩, .string ⟨#[]⟩, .bool false, .slice none 0 0, .pointer none, .string ⟨#[]⟩, .bool false, .slice none 0 0, .bool false] := by
        rw [hW]
        have := heap_alloc_new (w.alloc (.cells #[.int .i64 p.kind, .string ⟨tx.toArray⟩, .string ⟨p.op.toArray⟩, .bool p.q, .slice A p.word.length c, .pointer B] 47)) (.cells #[.int .i64 0, .string ⟨#[]⟩, .string ⟨#[]⟩, .bool false, .slice none 0 0, .pointer none, .string ⟨#[]⟩, .bool false, .slice none 0 0, .bool false] 75)
        simp only [World.size_alloc] at this
        exact At.alloc this _
      have f4 : At W (w.heap.size + 1 + 1) 75 #[.int .i64 p.kind, .string ⟨tx.toArray⟩, .string ⟨p.op.toArray⟩, .bool p.q, .slice A p.word.length c, .pointer B, .string ⟨#[]⟩, .bool false, .slice none 0 0, .bool false] := by
        rw [hW]
        have := heap_alloc_new ((w.alloc (.cells #[.int .i64 p.kind, .string ⟨tx.toArray⟩, .string ⟨p.op.toArray⟩, .bool p.q, .slice A p.word.length c, .pointer B] 47)).alloc (.cells #[.int .i64 0, .string ⟨#[]⟩, .string ⟨#[]⟩, .bool false, .slice none 0 0, .pointer none, .string ⟨#[]⟩, .bool false, .slice none 0 0, .bool false] 75)) (.cells #[.int .i64 p.kind, .string ⟨tx.toArray⟩, .string ⟨p.op.toArray⟩, .bool p.q, .slice A p.word.length c, .pointer B, .string ⟨#[]⟩, .bool false, .slice none 0 0, .bool false] 75)
        simp only [World.size_alloc] at this
        exact this
      rw [← hW]
      have HF := hid (And.intro f1 (And.intro f2 (And.intro f3 f4)))
      clear hW f1 f2 f3 f4
      rcases hdo : digitOf tx with _ | k
      · have HDO := hid hdo
        rcases digitOf_none hdo with hl | ⟨c', rfl, hc | hc⟩
        · have hlI : ¬ ((tx.length : Int) = 1) := by omega
          clear hdo
          go_wp2_with fail
          go_meet
          exact ⟨by rw [HDO.out]; rfl, HF.out⟩
        · have hcI : ¬ ((49 : Int) ≤ (c'.toNat : Int)) := by omega
          clear hdo
          go_wp2_with fail
          go_meet
          exact ⟨by rw [HDO.out]; rfl, HF.out⟩
        · have hcI : ((49 : Int) ≤ (c'.toNat : Int)) := by omega
          have hcJ : ¬ ((c'.toNat : Int) ≤ 57) := by omega
          clear hdo
          go_wp2_with fail
          go_meet
          exact ⟨by rw [HDO.out]; exact congrArg Value.bool (decide_eq_false (show ¬ ((c'.toNat : Int) ≤ 57) from by omega)), HF.out⟩
      · have HDO := hid hdo
        obtain ⟨c', rfl, h1, h2, rfl⟩ := digitOf_some hdo
        have hcI : ((49 : Int) ≤ (c'.toNat : Int)) := by omega
        have hcJ : ((c'.toNat : Int) ≤ 57) := by omega
        clear hdo
        go_wp2_with fail
        go_meet
        exact ⟨by rw [HDO.out]; exact congrArg Value.bool (decide_eq_true hcJ), HF.out⟩
    case rest =>
      obtain ⟨rfl, hB1, hP, hR, hX⟩ := hcut
      have HA := hid (AskS.mk hP hR hX (H.out.below hB1) (Kw.below hB1))
      have hsz : w.heap.size + 1 + 1 < wc.heap.size := hX.lt
      clear hB1 hP hR hX
      rcases hdo : digitOf tx with _ | k
      · have HDO := hid hdo
        clear hdo
        obtain ⟨v', b0, b1, b2, b3⟩ := HA.out.st.cells
        by_cases h35 : tx = [35]
        · subst h35
          go_wp2_with fail
          refine (args_any S Eb σ _ HA.out.st.env hsn (by omega)).mono ?_
          rintro e w3 ⟨⟨v, rfl, A1, c1, rfl, hTR, hcap⟩, hE, hK⟩
          have HA3 := hid (HA.out.kwE hK hE)
          clear hTR hcap hE hK
          go_wp2_with fail
          refine (Tryd.strconv_Itoa (σ.args.length : Int) (by omega) (by omega) w3 HA3.out.st.tab).mono ?_
          rintro e w4 ⟨rfl, nk, os, hw4⟩
          have HA4 := hid (HA3.out.below (hw4 ▸ below_grow w3 nk os))
          obtain ⟨y0, y1, y2, y3, y4, y5, y6, y7, y8, y9, hXl⟩ := cells10 HA4.out.X
          have z6 := HA4.out.X.frozen 6
          have z7 := HA4.out.X.frozen 7
          clear hw4
          go_wp2_with fail
          go_meet
          exact hid ⟨none, 0, (HA4.out.set6 _).set7 _, TR.nil⟩
        by_cases h63 : tx = [63]
        · subst h63
          have hlo := HOK.out.lo
          have hhi := HOK.out.hi
          go_wp2_with fail
          refine (status_any S Eb σ _ HA.out.st.env hsn).mono ?_
          rintro e w3 ⟨rfl, hE, hK⟩
          have HA3 := hid (HA.out.kwE hK hE)
          clear hE hK
          go_wp2_with fail
          refine (Tryd.strconv_Itoa σ.status (by omega) (by omega) w3 HA3.out.st.tab).mono ?_
          rintro e w4 ⟨rfl, nk, os, hw4⟩
          have HA4 := hid (HA3.out.below (hw4 ▸ below_grow w3 nk os))
          obtain ⟨y0, y1, y2, y3, y4, y5, y6, y7, y8, y9, hXl⟩ := cells10 HA4.out.X
          have z6 := HA4.out.X.frozen 6
          have z7 := HA4.out.X.frozen 7
          clear hw4
          go_wp2_with fail
          go_meet
          exact hid ⟨none, 0, (HA4.out.set6 _).set7 _, TR.nil⟩
        have ha0 : ask0 tx σ = if isAll tx = true then (Lib.join σ.args [32], decide (0 < σ.args.length), σ.args) else match getL σ.vars tx with
            | some v => (v, true, [])
            | none => ([], false, []) := by
          unfold ask0; rw [HDO.out]; simp only []; rw [if_neg h35, if_neg h63]
          split
          · rfl
          · cases getL σ.vars tx <;> rfl
        have has : askS tx = if isAll tx = true then argsB else getB ++ tx := by
          unfold askS; rw [HDO.out]; simp only []; rw [if_neg h35, if_neg h63]
        have HAS := hid (And.intro has ha0)
        clear has ha0
        have hq35 : (tx == [35]) = false := by simpa using h35
        have hq63 : (tx == [63]) = false := by simpa using h63
        go_wp2_with fail
        refine (all_any tx wc).mono ?_
        rintro e w2 ⟨rfl, hw2⟩
        rw [hw2]
        clear hw2
        cases hall : isAll tx with
        | true =>
          go_wp2_with fail
          refine (args_any S Eb σ _ HA.out.st.env hsn (by omega)).mono ?_
          rintro e w3 ⟨⟨v, rfl, A1, c1, rfl, hTR, hcap⟩, hE, hK⟩
          have HA3 := hid (HA.out.kwE hK hE)
          obtain ⟨y0, y1, y2, y3, y4, y5, y6, y7, y8, y9, hXl⟩ := cells10 HA3.out.X
          have z8 := HA3.out.X.frozen 8
          have HTR := hid hTR
          clear hTR hE hK
          go_wp2_with fail
          obtain ⟨W3, hW3⟩ : ∃ W3, W3 = w3.setCell ⟨w.heap.size + 1 + 1, 8, none⟩ (.slice A1 σ.args.length c1) := ⟨_, rfl⟩
          have HA4 : Hid (AskS w W3 S T Eb fb (σ.say argsB) F deep (.int .i64 p.kind) (.string ⟨tx.toArray⟩) (.string ⟨p.op.toArray⟩) (.bool p.q) (.slice A p.word.length c) (.pointer B) (.string ⟨#[]⟩) (.bool false) (.slice A1 σ.args.length c1) (.bool false)) := by
            rw [hW3]; exact hid (HA3.out.set8 _)
          have HT4 : Hid (TR W3 9 1 A1 σ.args.length (txv σ.args)) := by rw [hW3]; exact hid (HTR.out.set75 HA3.out.X _ _)
          rw [← hW3]
          clear hW3 y0 y1 y2 y3 y4 y5 y6 y7 y8 y9 hXl z8 HTR HA3
          obtain ⟨y0, y1, y2, y3, y4, y5, y6, y7, y8, y9, hXl⟩ := cells10 HA4.out.X
          have z6 := HA4.out.X.frozen 6
          have z7 := HA4.out.X.frozen 7
          go_region_with (go_at_call 36; refine (join_any' A1 c1 σ.args _ (HT4.out.drewN 1) hcap HOK.out.arg (by omega)).mono ?_; rintro e w5 ⟨rfl, hb5⟩; have HA5 := hid ((HA4.out.drewN 1).below hb5); have HT5 := hid ((HT4.out.drewN 1).below hb5); obtain ⟨q0, q1, q2, q3, q4, q5, q6, q7, q8, q9, hQl⟩ := cells10 HA5.out.X; have r6 := HA5.out.X.frozen 6; have r7 := HA5.out.X.frozen 7; clear hb5)
          all_goals
            go_wp2_with fail
            go_meet
            rw [hall] at HAS
            refine hid ⟨A1, c1, ?_, ?_⟩
            · rw [HAS.out.1, HAS.out.2]
              first
                | exact (HA5.out.set6 _).set7 _
                | exact (HA5.out.set7 _).set6 _
            · rw [HAS.out.2]
              first
                | exact (HT5.out.set75 HA5.out.X _ _).set75 (HA5.out.set6 _).X _ _
                | exact (HT5.out.set75 HA5.out.X _ _).set75 (HA5.out.set7 _).X _ _
        | false =>
          go_wp2_with fail
          refine (get_any S Eb σ tx _ HA.out.st.env hsn hvn (by omega)).mono ?_
          rintro e w3 ⟨rfl, hE, hK⟩
          have HA3 := hid (HA.out.kwE hK hE)
          obtain ⟨y0, y1, y2, y3, y4, y5, y6, y7, y8, y9, hXl⟩ := cells10 HA3.out.X
          have z6 := HA3.out.X.frozen 6
          have z7 := HA3.out.X.frozen 7
          clear hE hK
          rw [hall] at HAS
          cases hg : getL σ.vars tx with
          | some v =>
            have hgr : getR σ.vars tx = (v, true) := by unfold getR; rw [hg]
            rw [hgr]
            rw [hg] at HAS
            go_wp2_with fail
            go_meet
            refine hid ⟨none, 0, ?_, ?_⟩
            · rw [HAS.out.1, HAS.out.2]
              exact (HA3.out.set6 _).set7 _
            · rw [HAS.out.2]
              exact TR.nil
          | none =>
            have hgr : getR σ.vars tx = ([110, 111, 116, 32, 115, 101, 116], false) := by unfold getR; rw [hg]
            rw [hgr]
            rw [hg] at HAS
            go_wp2_with fail
            go_meet
            refine hid ⟨none, 0, ?_, ?_⟩
            · rw [HAS.out.1, HAS.out.2]
              exact ((HA3.out.set6 _).set7 _).set6 _
            · rw [HAS.out.2]
              exact TR.nil
      · obtain ⟨c', rfl, h1, h2, rfl⟩ := digitOf_some hdo
        have HDO := hid hdo
        have hix := fun W => run_index_at (P := Tryd.prog) 9 Tryd.underlying9 [c'] 0 (by simp) c' rfl (0 : Int) rfl .i64 W
        clear hdo
        obtain ⟨v', b0, b1, b2, b3⟩ := HA.out.st.cells
        have hwr : IntKind.i64.wrap (IntKind.u8.wrap ((c'.toNat : Int) - 48)) = ((c'.toNat - 48 : Nat) : Int) := by
          have e : ((c'.toNat : Int) - 48) = ((c'.toNat - 48 : Nat) : Int) := by omega
          rw [e, IntKind.wrap_u8, IntWalk.i64_in _ (by omega)]; omega
        go_upto_region 7 with fail
        go_cut [7, 8] (fun s7 s8 wx => s8 = .int .i64 ((c'.toNat - 48 : Nat) : Int) ∧ ∃ A1 c1, s7 = .slice A1 σ.args.length c1 ∧ Hid (TR wx 9 1 A1 σ.args.length (txv σ.args) ∧ AskS w wx S T Eb fb (σ.say argsB) F deep (.int .i64 p.kind) (.string ⟨#[c']⟩) (.string ⟨p.op.toArray⟩) (.bool p.q) (.slice A p.word.length c) (.pointer B) (.string ⟨#[]⟩) (.bool false) (.slice none 0 0) (.bool false)))
        case first =>
          go_region_with (go_at_call 100; refine (args_any S Eb σ _ (HA.out.st.drewN 1).env hsn (by omega)).mono ?_; rintro e w3 ⟨⟨v, rfl, A1, c1, rfl, hTR, hcap⟩, hE, hK⟩)
          all_goals
            have HF := hid (And.intro hTR ((HA.out.drewN 1).kwE hK hE))
            clear hTR hE hK hcap
            go_wp2_with fail
            go_meet
            exact ⟨rfl, _, _, rfl, HF⟩
        case rest =>
          obtain ⟨rfl, A1, c1, rfl, HF⟩ := hcut
          clear hix hwr
          have hk9 : (c'.toNat - 48 : Nat) ≤ 9 := by omega
          have hk0 : 1 ≤ (c'.toNat - 48 : Nat) := by omega
          have has : askS [c'] = argsB := by unfold askS; rw [HDO.out]
          have ha0 : ask0 [c'] σ = if c'.toNat - 48 ≤ σ.args.length then (σ.args.getD (c'.toNat - 48 - 1) [], true, []) else ([], false, []) := by unfold ask0; rw [HDO.out]
          have HAS := hid (And.intro has ha0)
          clear has ha0 HDO h1 h2
          obtain ⟨j, hj⟩ : ∃ j, c'.toNat - 48 = j + 1 := ⟨c'.toNat - 48 - 1, by omega⟩
          rw [hj] at HAS hk9 hk0 ⊢
          clear hj
          obtain ⟨y0, y1, y2, y3, y4, y5, y6, y7, y8, y9, hXl⟩ := cells10 HF.out.2.X
          have z6 := HF.out.2.X.frozen 6
          have z7 := HF.out.2.X.frozen 7
          by_cases hle : j + 1 ≤ σ.args.length
          · have hleI : ((j + 1 : Nat) : Int) ≤ (σ.args.length : Int) := by omega
            have hjI : (j : Int) < (σ.args.length : Int) := by omega
            obtain ⟨b, off, cur, fz, rfl, hb, hcur⟩ := HF.out.1.2 (by omega)
            have x1 : wc.cell? ⟨b, off + j, none⟩ = some (.string ⟨(σ.args.getD j []).toArray⟩) := (cell_of_row wc b (off + j) cur 9 fz hb).trans (hcur j _ (txv_get σ.args j (by omega)))
            clear hb hcur
            have hs1 : ((j + 1 : Nat) : Int) - 1 = (j : Int) := by omega
            go_wp2_with fail
            go_meet
            refine hid ⟨none, 0, ?_, ?_⟩
            · rw [HAS.out.1, HAS.out.2, if_pos hle]
              exact (HF.out.2.set6 _).set7 _
            · rw [HAS.out.2, if_pos hle]
              exact TR.nil
          · have hleI : ¬ (((j + 1 : Nat) : Int) ≤ (σ.args.length : Int)) := by omega
            go_wp2_with fail
            go_meet
            refine hid ⟨none, 0, ?_, ?_⟩
            · rw [HAS.out.1, HAS.out.2, if_neg hle]
              exact HF.out.2
            · rw [HAS.out.2, if_neg hle]
              exact TR.nil
  case rest =>
    obtain ⟨XA, xc, hA, hT⟩ := hcut.out
    have HA := hid hA
    have HT := hid hT
    clear hcut hA hT m1 m2 m3 m4 m5 m6 c0 c1 c2 HOK
    generalize hA0 : ask0 tx σ = a0 at *
    have HA0 := hid hA0
    clear hA0
    obtain ⟨val, st, ags⟩ := a0
    dsimp only at HA HT
    obtain ⟨x0, x1, x2, x3, x4, x5⟩ := cells6 HA.out.P
    obtain ⟨y0, y1, y2, y3, y4, y5, y6, y7, y8, y9, hXl⟩ := cells10 HA.out.X
    have z9 := HA.out.X.frozen 9
    cases st with
    | false =>
      go_upto_region 18 with fail
      obtain ⟨W9, hW9⟩ : ∃ W9, W9 = wc.setCell ⟨w.heap.size + 1 + 1, 9, none⟩ (.bool (true)) := ⟨_, rfl⟩
      have HA9 : Hid (AskS w W9 S T Eb fb (σ.say (askS tx)) F deep (.int .i64 p.kind) (.string ⟨tx.toArray⟩) (.string ⟨p.op.toArray⟩) (.bool p.q) (.slice A p.word.length c) (.pointer B) (.string ⟨val.toArray⟩) (.bool false) (.slice XA ags.length xc) (.bool (true))) := by
        rw [hW9]; exact hid (HA.out.set9 _)
      have HT9 : Hid (TR W9 9 1 XA ags.length (txv ags)) := by rw [hW9]; exact hid (HT.out.set75 HA.out.X _ _)
      rw [← hW9]
      clear hW9 y0 y1 y2 y3 y4 y5 y6 y7 y8 y9 hXl z9 HA HT x0 x1 x2 x3 x4 x5
      obtain ⟨y0, y1, y2, y3, y4, y5, y6, y7, y8, y9, hXl⟩ := cells10 HA9.out.X
      obtain ⟨x0, x1, x2, x3, x4, x5, x6, x7, x8, x9, hRl⟩ := cells10 HA9.out.R
      have z := HA9.out.R.frozen
      have z0 := z 0
      have z1 := z 1
      have z2 := z 2
      have z3 := z 3
      have z4 := z 4
      have z5 := z 5
      have z6 := z 6
      have z7 := z 7
      have z8 := z 8
      have z9 := z 9
      clear z
      go_wp2_with fail
      obtain ⟨hX10, hK10⟩ := set10 HA9.out.R (.int .i64 p.kind) (.string ⟨tx.toArray⟩) (.string ⟨p.op.toArray⟩) (.bool p.q) (.slice A p.word.length c) (.pointer B) (.string ⟨val.toArray⟩) (.bool false) (.slice XA ags.length xc) (.bool (true))
      obtain ⟨W10, hW10⟩ : ∃ W10, W10 = ((((((((((W9.setCell ⟨w.heap.size + 1, 0, none⟩ (.int .i64 p.kind)).setCell ⟨w.heap.size + 1, 1, none⟩ (.string ⟨tx.toArray⟩)).setCell ⟨w.heap.size + 1, 2, none⟩ (.string ⟨p.op.toArray⟩)).setCell ⟨w.heap.size + 1, 3, none⟩ (.bool p.q)).setCell ⟨w.heap.size + 1, 4, none⟩ (.slice A p.word.length c)).setCell ⟨w.heap.size + 1, 5, none⟩ (.pointer B)).setCell ⟨w.heap.size + 1, 6, none⟩ (.string ⟨val.toArray⟩)).setCell ⟨w.heap.size + 1, 7, none⟩ (.bool false)).setCell ⟨w.heap.size + 1, 8, none⟩ (.slice XA ags.length xc)).setCell ⟨w.heap.size + 1, 9, none⟩ (.bool (true))) := ⟨_, rfl⟩
      rw [← hW10] at hX10 hK10 ⊢
      clear hW10 y0 y1 y2 y3 y4 y5 y6 y7 y8 y9 x0 x1 x2 x3 x4 x5 x6 x7 x8 x9 z0 z1 z2 z3 z4 z5 z6 z7 z8 z9
      obtain ⟨y0, y1, y2, y3, y4, y5, y6, y7, y8, y9, hYl⟩ := cells10 hX10
      have HFIN : Hid (TR W10 9 1 XA ags.length (txv ags) ∧ St W10 S T Eb fb (σ.say (askS tx)) F deep ∧ Kw (ME S) w W10) := by
        refine hid ⟨HT9.out.kw hK10 fun b hh => absurd hh.2 (by decide), HA9.out.st.kw hK10 (fun k t ht hh => by rcases ht with rfl | rfl | rfl <;> exact absurd hh.2 (by decide)) (fun k t ht hh => by rcases ht with rfl | rfl | rfl <;> exact absurd hh.2 (by decide)) (fun t hh => absurd hh.1 (by omega)), HA9.out.K.thenNew hK10 fun k t hh => ?_⟩
        omega
      clear hX10 hK10
      simp [bodyPost, results, go_sem, y0, y1, y2, y3, y4, y5, y6, y7, y8, y9, HA0.out]
      exact HFIN.out
    | true =>
      go_wp2_with fail
      refine (Tryd.strings_HasPrefix ⟨p.op.toArray⟩ ⟨#[58]⟩ wc).mono ?_
      rintro e w2 ⟨rfl, hw2⟩
      rw [hw2, show Lib.hasPrefix (ByteArray.mk p.op.toArray).data.toList (ByteArray.mk #[58]).data.toList = colon p.op from (colon_eq p.op).symm]
      clear hw2
      cases hc : colon p.op with
      | false =>
        go_upto_region 18 with fail
        obtain ⟨W9, hW9⟩ : ∃ W9, W9 = wc.setCell ⟨w.heap.size + 1 + 1, 9, none⟩ (.bool (false)) := ⟨_, rfl⟩
        have HA9 : Hid (AskS w W9 S T Eb fb (σ.say (askS tx)) F deep (.int .i64 p.kind) (.string ⟨tx.toArray⟩) (.string ⟨p.op.toArray⟩) (.bool p.q) (.slice A p.word.length c) (.pointer B) (.string ⟨val.toArray⟩) (.bool true) (.slice XA ags.length xc) (.bool (false))) := by
          rw [hW9]; exact hid (HA.out.set9 _)
        have HT9 : Hid (TR W9 9 1 XA ags.length (txv ags)) := by rw [hW9]; exact hid (HT.out.set75 HA.out.X _ _)
        rw [← hW9]
        clear hW9 y0 y1 y2 y3 y4 y5 y6 y7 y8 y9 hXl z9 HA HT x0 x1 x2 x3 x4 x5
        obtain ⟨y0, y1, y2, y3, y4, y5, y6, y7, y8, y9, hXl⟩ := cells10 HA9.out.X
        obtain ⟨x0, x1, x2, x3, x4, x5, x6, x7, x8, x9, hRl⟩ := cells10 HA9.out.R
        have z := HA9.out.R.frozen
        have z0 := z 0
        have z1 := z 1
        have z2 := z 2
        have z3 := z 3
        have z4 := z 4
        have z5 := z 5
        have z6 := z 6
        have z7 := z 7
        have z8 := z 8
        have z9 := z 9
        clear z
        go_wp2_with fail
        obtain ⟨hX10, hK10⟩ := set10 HA9.out.R (.int .i64 p.kind) (.string ⟨tx.toArray⟩) (.string ⟨p.op.toArray⟩) (.bool p.q) (.slice A p.word.length c) (.pointer B) (.string ⟨val.toArray⟩) (.bool true) (.slice XA ags.length xc) (.bool (false))
        obtain ⟨W10, hW10⟩ : ∃ W10, W10 = ((((((((((W9.setCell ⟨w.heap.size + 1, 0, none⟩ (.int .i64 p.kind)).setCell ⟨w.heap.size + 1, 1, none⟩ (.string ⟨tx.toArray⟩)).setCell ⟨w.heap.size + 1, 2, none⟩ (.string ⟨p.op.toArray⟩)).setCell ⟨w.heap.size + 1, 3, none⟩ (.bool p.q)).setCell ⟨w.heap.size + 1, 4, none⟩ (.slice A p.word.length c)).setCell ⟨w.heap.size + 1, 5, none⟩ (.pointer B)).setCell ⟨w.heap.size + 1, 6, none⟩ (.string ⟨val.toArray⟩)).setCell ⟨w.heap.size + 1, 7, none⟩ (.bool true)).setCell ⟨w.heap.size + 1, 8, none⟩ (.slice XA ags.length xc)).setCell ⟨w.heap.size + 1, 9, none⟩ (.bool (false))) := ⟨_, rfl⟩
        rw [← hW10] at hX10 hK10 ⊢
        clear hW10 y0 y1 y2 y3 y4 y5 y6 y7 y8 y9 x0 x1 x2 x3 x4 x5 x6 x7 x8 x9 z0 z1 z2 z3 z4 z5 z6 z7 z8 z9
        obtain ⟨y0, y1, y2, y3, y4, y5, y6, y7, y8, y9, hYl⟩ := cells10 hX10
        have HFIN : Hid (TR W10 9 1 XA ags.length (txv ags) ∧ St W10 S T Eb fb (σ.say (askS tx)) F deep ∧ Kw (ME S) w W10) := by
          refine hid ⟨HT9.out.kw hK10 fun b hh => absurd hh.2 (by decide), HA9.out.st.kw hK10 (fun k t ht hh => by rcases ht with rfl | rfl | rfl <;> exact absurd hh.2 (by decide)) (fun k t ht hh => by rcases ht with rfl | rfl | rfl <;> exact absurd hh.2 (by decide)) (fun t hh => absurd hh.1 (by omega)), HA9.out.K.thenNew hK10 fun k t hh => ?_⟩
          omega
        clear hX10 hK10
        simp [bodyPost, results, go_sem, y0, y1, y2, y3, y4, y5, y6, y7, y8, y9, HA0.out]
        refine ⟨XA, ?_, HFIN.out⟩
        simp [hc]
      | true =>
        go_upto_region 18 with fail
        obtain ⟨W9, hW9⟩ : ∃ W9, W9 = wc.setCell ⟨w.heap.size + 1 + 1, 9, none⟩ (.bool (val.isEmpty)) := ⟨_, rfl⟩
        have HA9 : Hid (AskS w W9 S T Eb fb (σ.say (askS tx)) F deep (.int .i64 p.kind) (.string ⟨tx.toArray⟩) (.string ⟨p.op.toArray⟩) (.bool p.q) (.slice A p.word.length c) (.pointer B) (.string ⟨val.toArray⟩) (.bool true) (.slice XA ags.length xc) (.bool (val.isEmpty))) := by
          rw [hW9]; exact hid (HA.out.set9 _)
        have HT9 : Hid (TR W9 9 1 XA ags.length (txv ags)) := by rw [hW9]; exact hid (HT.out.set75 HA.out.X _ _)
        rw [← hW9]
        clear hW9 y0 y1 y2 y3 y4 y5 y6 y7 y8 y9 hXl z9 HA HT x0 x1 x2 x3 x4 x5
        obtain ⟨y0, y1, y2, y3, y4, y5, y6, y7, y8, y9, hXl⟩ := cells10 HA9.out.X
        obtain ⟨x0, x1, x2, x3, x4, x5, x6, x7, x8, x9, hRl⟩ := cells10 HA9.out.R
        have z := HA9.out.R.frozen
        have z0 := z 0
        have z1 := z 1
        have z2 := z 2
        have z3 := z 3
        have z4 := z 4
        have z5 := z 5
        have z6 := z 6
        have z7 := z 7
        have z8 := z 8
        have z9 := z 9
        clear z
        go_wp2_with fail
        obtain ⟨hX10, hK10⟩ := set10 HA9.out.R (.int .i64 p.kind) (.string ⟨tx.toArray⟩) (.string ⟨p.op.toArray⟩) (.bool p.q) (.slice A p.word.length c) (.pointer B) (.string ⟨val.toArray⟩) (.bool true) (.slice XA ags.length xc) (.bool (val.isEmpty))
        obtain ⟨W10, hW10⟩ : ∃ W10, W10 = ((((((((((W9.setCell ⟨w.heap.size + 1, 0, none⟩ (.int .i64 p.kind)).setCell ⟨w.heap.size + 1, 1, none⟩ (.string ⟨tx.toArray⟩)).setCell ⟨w.heap.size + 1, 2, none⟩ (.string ⟨p.op.toArray⟩)).setCell ⟨w.heap.size + 1, 3, none⟩ (.bool p.q)).setCell ⟨w.heap.size + 1, 4, none⟩ (.slice A p.word.length c)).setCell ⟨w.heap.size + 1, 5, none⟩ (.pointer B)).setCell ⟨w.heap.size + 1, 6, none⟩ (.string ⟨val.toArray⟩)).setCell ⟨w.heap.size + 1, 7, none⟩ (.bool true)).setCell ⟨w.heap.size + 1, 8, none⟩ (.slice XA ags.length xc)).setCell ⟨w.heap.size + 1, 9, none⟩ (.bool (val.isEmpty))) := ⟨_, rfl⟩
        rw [← hW10] at hX10 hK10 ⊢
        clear hW10 y0 y1 y2 y3 y4 y5 y6 y7 y8 y9 x0 x1 x2 x3 x4 x5 x6 x7 x8 x9 z0 z1 z2 z3 z4 z5 z6 z7 z8 z9
        obtain ⟨y0, y1, y2, y3, y4, y5, y6, y7, y8, y9, hYl⟩ := cells10 hX10
        have HFIN : Hid (TR W10 9 1 XA ags.length (txv ags) ∧ St W10 S T Eb fb (σ.say (askS tx)) F deep ∧ Kw (ME S) w W10) := by
          refine hid ⟨HT9.out.kw hK10 fun b hh => absurd hh.2 (by decide), HA9.out.st.kw hK10 (fun k t ht hh => by rcases ht with rfl | rfl | rfl <;> exact absurd hh.2 (by decide)) (fun k t ht hh => by rcases ht with rfl | rfl | rfl <;> exact absurd hh.2 (by decide)) (fun t hh => absurd hh.1 (by omega)), HA9.out.K.thenNew hK10 fun k t hh => ?_⟩
          omega
        clear hX10 hK10
        simp [bodyPost, results, go_sem, y0, y1, y2, y3, y4, y5, y6, y7, y8, y9, HA0.out]
        refine ⟨XA, ?_, HFIN.out⟩
        simp [hc]
end Go.Proofs.YtklihdlfbhgpeaaDoor
