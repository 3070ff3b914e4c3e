/-
  ExpandQuoted's loop: the word and the variables, in memory. No conditions.
-/
import Derived.Test.YtklihdlfbhgpeaaDoorQuoP
namespace Go.Proofs.YtklihdlfbhgpeaaDoor
open Go.RowKit
set_option linter.unusedVariables false

theorem bel_any {w wa wb : World} (h : Below wa.heap.size wa wb) (k : Below w.heap.size w wa) : Below w.heap.size w wb := k.trans (h.mono k.size)
theorem bel_drw (w : World) : Below w.heap.size w w.drew := ⟨rfl, rfl, rfl, Nat.le_refl _, fun _ _ => rfl⟩
theorem bel_drwN (w : World) (n : Nat) : Below w.heap.size w (w.drewN n) := ⟨rfl, rfl, rfl, Nat.le_refl _, fun _ _ => rfl⟩
def nvCells : Array Value := #[.int .i64 0, .string ⟨#[110, 101, 118, 101, 114]⟩, .string ⟨#[]⟩, .bool false, .slice none 0 0, .pointer none]
theorem nv_patt {w : World} {b : Nat} (h : At w b 47 nvCells) (n : Nat) : PAt (n + 1) w (some ⟨b, 0, none⟩) [litV neverS] :=
  PAt.mk [⟨litV neverS, none, 0, none⟩] h rfl (by
    intro x hx
    simp only [List.mem_singleton] at hx
    subst hx
    exact ⟨PAt.nil _ _ _, rfl⟩)
/-- A part whose word, if it has one, is 'never'. -/
def PWord (w : World) (v : Value) (x : PartL) : Prop :=
  x.B = none ∧ x.p.body = none ∧ (x.p.word = [] ∨ x.p.word = [litV neverS] ∧ ∃ b, x.A = some ⟨b, 0, none⟩ ∧ At w b 47 nvCells ∧ v.ownBlock ≠ some b)
theorem PWord.patt {w : World} {v : Value} {x : PartL} (h : PWord w v x) : PAt 19 w x.A x.p.word ∧ BodyAt w x.B x.p.body := by
  obtain ⟨h1, h2, h3⟩ := h
  rw [h1, h2]
  refine ⟨?_, rfl⟩
  rcases h3 with h3 | ⟨h3, b, h4, h5, _⟩
  · rw [h3]; exact PAt.nil _ _ _
  · rw [h3, h4]; exact nv_patt h5 18
theorem flat_cells_len : ∀ l : List PartL, (l.flatMap PartL.cells).length = l.length * 6
  | [] => rfl
  | x :: l => by
    have : x.cells.length = 6 := rfl
    rw [List.flatMap_cons, List.length_append, flat_cells_len l, this, List.length_cons]
    omega
/-- A word that is built, part behind part. -/
def WAt (w : World) (B : Nat) (v : Value) (ps : List PartV) (l : List PartL) : Prop :=
  l.map PartL.p = ps ∧ w.ownsRow B 47 6 v ps.length (l.flatMap PartL.cells) ∧ ∀ x ∈ l, PWord w v x
theorem WAt.nil (w : World) (B : Nat) : WAt w B (.slice none 0 0) [] [] := ⟨rfl, World.ownsRow_nil _ _ _ _, fun x h => by cases h⟩
theorem WAt.kw {M : Nat → TypeId → Prop} {w w' : World} {B : Nat} {v : Value} {ps : List PartV} {l : List PartL} (h : WAt w B v ps l) (hk : Kw M w w') (hm : ∀ k, ¬ M k 47) : WAt w' B v ps l := by
  obtain ⟨h1, h2, h3⟩ := h
  refine ⟨h1, own_kw h2 hk fun r _ => hm r, fun x hx => ?_⟩
  obtain ⟨a1, a2, a3⟩ := h3 x hx
  refine ⟨a1, a2, ?_⟩
  rcases a3 with a3 | ⟨a3, b, a4, a5, a6⟩
  · exact .inl a3
  · exact .inr ⟨a3, b, a4, hk.at_ a5 (hm b), a6⟩
theorem WAt.below {w w' : World} {B : Nat} {v : Value} {ps : List PartV} {l : List PartL} (h : WAt w B v ps l) (hb : Below w.heap.size w w') : WAt w' B v ps l := h.kw (M := fun _ _ => False) (Kw.below hb) fun _ h => h
theorem WAt.patt {w : World} {B : Nat} {v : Value} {ps : List PartV} {l : List PartL} (h : WAt w B v ps l) : ∃ A c, v = .slice A ps.length c ∧ PAt 20 w A ps := by
  obtain ⟨h1, h2, h3⟩ := h
  obtain ⟨A, c, rfl, _, _⟩ := own_form h2
  refine ⟨A, c, rfl, fun h0 => ?_⟩
  obtain ⟨b, off, cur, fz, e, hb, hc⟩ := (TR.of_own h2).2 h0
  refine ⟨b, off, cur, fz, e, hb, fun i hi p hp => ?_⟩
  rw [← h1, List.getElem?_map, Option.map_eq_some_iff] at hp
  obtain ⟨x, hx, rfl⟩ := hp
  obtain ⟨a1, a2⟩ := (h3 x (List.mem_of_getElem? hx)).patt
  refine ⟨x.A, x.c, x.B, fun j u hj => ?_, a1, a2⟩
  have := hc (i * 6 + j) u (flat6_get l i j x u hx hj)
  rw [Nat.add_assoc]
  exact this
theorem WAt.push {w0 w2 w3 : World} {B : Nat} {v v' : Value} {ps : List PartV} {l : List PartL} (h : WAt w0 B v ps l) (hb : Below w0.heap.size w0 w2) (x : PartL) (x1 : x.B = none) (x2 : x.p.body = none)
    (x3 : x.p.word = [] ∨ x.p.word = [litV neverS] ∧ ∃ b, x.A = some ⟨b, 0, none⟩ ∧ At w2 b 47 nvCells ∧ w0.heap.size ≤ b)
    (h3 : w3.ownsRow B 47 6 v' (ps.length + 1) (l.flatMap PartL.cells ++ x.cells)) (hg : w2.grownBy w3 v.ownBlock) (hat : v'.ownBlock = v.ownBlock ∨ v'.ownBlock = some w2.heap.size) : WAt w3 B v' (ps ++ [x.p]) (l ++ [x]) := by
  obtain ⟨a1, a2, a3⟩ := h
  have hk : Kw (fun k t => v.ownBlock = some k ∧ t = 47) w2 w3 := Kw.grown hg fun r hr => by
    obtain ⟨cur, hc⟩ := own_cells a2 hr
    exact ⟨cur, 47, (0, 0), (Kw.below (M := fun _ _ => False) hb).keep r cur 47 (0, 0) (fun h => h) hc, hr, rfl⟩
  have hlt : ∀ r, v.ownBlock = some r → r < w0.heap.size := fun r hr => by
    obtain ⟨cur, hc⟩ := own_cells a2 hr
    exact (Array.getElem?_eq_some_iff.1 hc).1
  have hs := hb.size
  refine ⟨by rw [List.map_append, a1]; rfl, ?_, fun y hy => ?_⟩
  · rw [List.length_append, List.flatMap_append]
    have : [x].flatMap PartL.cells = x.cells := by simp
    rw [this]
    exact h3
  · rw [List.mem_append, List.mem_singleton] at hy
    rcases hy with hy | rfl
    · obtain ⟨b1, b2, b3⟩ := a3 y hy
      refine ⟨b1, b2, ?_⟩
      rcases b3 with b3 | ⟨b3, b, b4, b5, b6⟩
      · exact .inl b3
      · refine .inr ⟨b3, b, b4, hk.at_ (b5.below hb b5.lt) (fun h => b6 h.1), ?_⟩
        have := b5.lt
        rcases hat with hat | hat
        · rw [hat]; exact b6
        · rw [hat]; intro e; injection e with e; omega
    · refine ⟨x1, x2, ?_⟩
      rcases x3 with x3 | ⟨x3, b, x4, x5, x6⟩
      · exact .inl x3
      · have hnb : v.ownBlock ≠ some b := fun e => by have := hlt b e; omega
        refine .inr ⟨x3, b, x4, hk.at_ x5 (fun h => hnb h.1), ?_⟩
        have := x5.lt
        rcases hat with hat | hat
        · rw [hat]; exact hnb
        · rw [hat]; intro e; injection e with e; omega
/-- The loop's state: the box of the variables, the word. -/
structure QI (w0 w : World) (lv : List (Str × Str)) (ps : List PartV) (vL v : Value) (l : List PartL) : Prop where
  bel : Below w0.heap.size w0 w
  box : At w w0.heap.size 26 #[vL, .slice none 0 0, .int .i64 0]
  vars : w.ownsRow (w0.heap.size + 1) 44 2 vL lv.length (vrv lv)
  word : WAt w (w0.heap.size + 1) v ps l
theorem QI.below {w0 w w' : World} {lv : List (Str × Str)} {ps : List PartV} {vL v : Value} {l : List PartL} (h : QI w0 w lv ps vL v l) (hb : Below w.heap.size w w') : QI w0 w' lv ps vL v l :=
  ⟨h.bel.trans (hb.mono h.bel.size), h.box.below hb h.box.lt, own_kw h.vars (Kw.below (M := fun _ _ => False) hb) fun _ _ h => h, h.word.below hb⟩
theorem own_above {w : World} {B t k n : Nat} {v : Value} {xs : List Value} (h : w.ownsRow B t k v n xs) {r : Nat} (hr : v.ownBlock = some r) : B ≤ r := by
  rcases h.2 with ⟨rfl, rfl⟩ | ⟨g, cap, cur, rfl, hb, _⟩
  · cases hr
  · obtain rfl : g = r := by simpa [Value.ownBlock] using hr
    exact hb
theorem below_grown {w w' : World} {row : Option Nat} {n : Nat} (h : w.grownBy w' row) (hn : n ≤ w.heap.size) (hr : ∀ r, row = some r → n ≤ r ∧ ∃ cs t fz, w.heap[r]? = some (.cells cs t fz)) : Below n w w' := by
  have hk : Kw (fun k t => row = some k) w w' := Kw.grown h fun r hr' => by
    obtain ⟨_, cs, t, fz, hc⟩ := hr r hr'
    exact ⟨cs, t, fz, hc, hr'⟩
  exact hk.toBelow hn fun k t hh => (hr k hh).1
/-- A part behind the word. -/
theorem QI.push {w0 w w2 w3 : World} {lv : List (Str × Str)} {ps : List PartV} {vL v v' : Value} {l : List PartL} (h : QI w0 w lv ps vL v l) (hb : Below w.heap.size w w2) (x : PartL) (x1 : x.B = none) (x2 : x.p.body = none)
    (x3 : x.p.word = [] ∨ x.p.word = [litV neverS] ∧ ∃ b, x.A = some ⟨b, 0, none⟩ ∧ At w2 b 47 nvCells ∧ w.heap.size ≤ b)
    (h3 : w3.ownsRow (w0.heap.size + 1) 47 6 v' (ps.length + 1) (l.flatMap PartL.cells ++ x.cells)) (hg : w2.grownBy w3 v.ownBlock) (hat : v'.ownBlock = v.ownBlock ∨ v'.ownBlock = some w2.heap.size) :
    QI w0 w3 lv (ps ++ [x.p]) vL v' (l ++ [x]) := by
  have h2 := h.below hb
  have hk : Kw (fun k t => v.ownBlock = some k ∧ t = 47) w2 w3 := Kw.grown hg fun r hr => by
    obtain ⟨cur, hc⟩ := own_cells h2.word.2.1 hr
    exact ⟨cur, 47, (0, 0), hc, hr, rfl⟩
  refine ⟨h2.bel.trans (hk.toBelow h2.bel.size fun k t hh => ?_), hk.at_ h2.box (fun hh => absurd hh.2 (by decide)), own_kw h2.vars hk fun r _ hh => absurd hh.2 (by decide), h.word.push hb x x1 x2 x3 h3 hg hat⟩
  have := own_above h2.word.2.1 hh.1
  omega
/-- A variable behind the variables. -/
theorem QI.store {w0 w w2 w3 : World} {lv : List (Str × Str)} {ps : List PartV} {vL v vL' : Value} {l : List PartL} (h : QI w0 w lv ps vL v l) (hb : Below w.heap.size w w2) (x : Str × Str)
    (h3 : w3.ownsRow (w0.heap.size + 1) 44 2 vL' (lv.length + 1) (vrv lv ++ [.string ⟨x.1.toArray⟩, .string ⟨x.2.toArray⟩])) (hg : w2.grownBy w3 vL.ownBlock) (hat : vL'.ownBlock = vL.ownBlock ∨ vL'.ownBlock = some w2.heap.size) :
    QI w0 (w3.setCell ⟨w0.heap.size, 0, none⟩ vL') (lv ++ [x]) ps vL' v l := by
  have h2 := h.below hb
  have hk : Kw (fun k t => vL.ownBlock = some k ∧ t = 44) w2 w3 := Kw.grown hg fun r hr => by
    obtain ⟨cur, hc⟩ := own_cells h2.vars hr
    exact ⟨cur, 44, (0, 0), hc, hr, rfl⟩
  have hb3 := hk.at_ h2.box (fun hh => absurd hh.2 (by decide))
  have hk4 : Kw (fun k t => k = w0.heap.size ∧ t = 26) w3 (w3.setCell ⟨w0.heap.size, 0, none⟩ vL') := (Kw.refl _ _).set hb3 ⟨rfl, rfl⟩ 0 vL'
  have hbel3 : Below w0.heap.size w0 w3 := h2.bel.trans (hk.toBelow h2.bel.size fun k t hh => by
    have := own_above h2.vars hh.1
    omega)
  refine ⟨hbel3.trans (hk4.toBelow hbel3.size fun k t hh => by omega), ?_, ?_, (h2.word.kw hk fun k hh => absurd hh.2 (by decide)).kw hk4 fun k hh => absurd hh.2 (by decide)⟩
  · have := hb3.set 0 vL'
    exact this
  · rw [List.length_append, vrv_snoc]
    exact own_kw h3 hk4 fun r _ hh => absurd hh.2 (by decide)
theorem QI.store_facts {w0 w w2 w3 : World} {lv : List (Str × Str)} {ps : List PartV} {vL v vL' : Value} {l : List PartL} (x : Str × Str) (h : QI w0 w lv ps vL v l) (hb : Below w.heap.size w w2)
    (h3 : w3.ownsRow (w0.heap.size + 1) 44 2 vL' (lv.length + 1) (vrv lv ++ [.string ⟨x.1.toArray⟩, .string ⟨x.2.toArray⟩])) (hg : w2.grownBy w3 vL.ownBlock) (hat : vL'.ownBlock = vL.ownBlock ∨ vL'.ownBlock = some w2.heap.size) :
    ∃ A c, vL' = .slice A (lv.length + 1) c ∧ w3.cell? ⟨w0.heap.size, 0, none⟩ = some vL ∧ w3.frozen? ⟨w0.heap.size, 0, none⟩ = false ∧ Hid (QI w0 (w3.setCell ⟨w0.heap.size, 0, none⟩ (.slice A (lv.length + 1) c)) (lv ++ [x]) ps (.slice A (lv.length + 1) c) v l) := by
  have h2 := h.below hb
  have hk : Kw (fun k t => vL.ownBlock = some k ∧ t = 44) w2 w3 := Kw.grown hg fun r hr => by
    obtain ⟨cur, hc⟩ := own_cells h2.vars hr
    exact ⟨cur, 44, (0, 0), hc, hr, rfl⟩
  have hb3 := hk.at_ h2.box (fun hh => absurd hh.2 (by decide))
  obtain ⟨A, c, rfl, _, _⟩ := own_form h3
  exact ⟨A, c, rfl, by rw [hb3.cell]; rfl, hb3.frozen 0, hid (h.store hb x h3 hg hat)⟩
/-- The value that was laid last. -/
theorem QI.last {w0 w : World} {lv : List (Str × Str)} {x : Str × Str} {ps : List PartV} {vL v : Value} {l : List PartL} (h : QI w0 w (lv ++ [x]) ps vL v l) :
    ∃ b c, vL = .slice (some ⟨b, 0, none⟩) (lv.length + 1) c ∧ w.cell? ⟨b, lv.length * 2 + 1, none⟩ = some (.string ⟨x.2.toArray⟩) := by
  have h2 := h.vars
  rw [List.length_append] at h2
  obtain ⟨A, c, rfl, h3, _⟩ := own_form h2
  obtain ⟨b, rfl, _⟩ := h3 (by simp)
  obtain ⟨b', off, cur, fz, e, hb, hc⟩ := (TR.of_own h2).2 (by simp)
  injection e with e
  injection e with e1 e2
  subst e1 e2
  refine ⟨b, c, rfl, ?_⟩
  have h4 : (vrv (lv ++ [x]))[lv.length * 2 + 1]? = some (.string ⟨x.2.toArray⟩) := by
    rw [vrv_snoc, List.getElem?_append_right (by rw [vrv_length]; omega), vrv_length, show lv.length * 2 + 1 - lv.length * 2 = 1 by omega]
    rfl
  have := (cell_of_row w b (0 + (lv.length * 2 + 1)) cur 44 fz hb).trans (hc _ _ h4)
  simpa using this
end Go.Proofs.YtklihdlfbhgpeaaDoor
