/-
  The walk of the program's pieces: what lies in memory; the gathering of the characters.
-/
import Derived.Test.YtklihdlfbhgpeaaDoorG4
import Derived.Maps.AppendAt
namespace Go.Proofs.YtklihdlfbhgpeaaDoor
open Go.RowKit Go.Shelf
set_option linter.unusedVariables false
attribute [local go_sem] Oper.semAt_some

/-- All blocks stay but Lb and those of pieces. -/
structure K2 (Lb : Nat) (W W' : World) : Prop where
  size : W.heap.size ≤ W'.heap.size
  keep : ∀ (k : Nat) cs t fz, t ≠ 112 → k ≠ Lb → W.heap[k]? = some (.cells cs t fz) → W'.heap[k]? = some (.cells cs t fz)
theorem K2.refl (Lb : Nat) (W : World) : K2 Lb W W := ⟨Nat.le_refl _, fun _ _ _ _ _ _ h => h⟩
theorem K2.trans {Lb : Nat} {X Y Z : World} (h : K2 Lb X Y) (k : K2 Lb Y Z) : K2 Lb X Z := ⟨Nat.le_trans h.size k.size, fun i cs t fz ht hi hh => k.keep i cs t fz ht hi (h.keep i cs t fz ht hi hh)⟩
theorem K2.below {Lb : Nat} {W W' : World} (h : Below W.heap.size W W') : K2 Lb W W' := ⟨h.size, fun k cs t fz _ _ hh => (h.block k (Array.getElem?_eq_some_iff.1 hh).1).trans hh⟩
theorem K2.alloc (Lb : Nat) (W : World) (o : Obj) : K2 Lb W (W.alloc o) := K2.below ((Below.refl _ _).alloc (Nat.le_refl _) o)
theorem K2.set (Lb : Nat) (W : World) (v : Value) : K2 Lb W (W.setCell ⟨Lb, 0, none⟩ v) := ⟨by simp, fun k cs t fz _ hk hh => (Below.heap_setCell W ⟨Lb, 0, none⟩ v k (by simpa using hk)).trans hh⟩
theorem K2.grown {Lb base n k : Nat} {v : Value} {xs : List Value} {W W' : World} (hg : W.grownBy W' v.ownBlock) (hr : W.ownsRow base 112 n v k xs) : K2 Lb W W' := by
  refine ⟨hg.size, fun j cs t fz ht _ hh => (hg.block j (Array.getElem?_eq_some_iff.1 hh).1 (fun e => ?_)).trans hh⟩
  rcases hr.2 with ⟨rfl, _⟩ | ⟨g, cap, cur, rfl, _, hgb, _⟩
  · simp [Value.ownBlock] at e
  · obtain rfl : j = g := by simpa [Value.ownBlock] using e
    rw [hgb] at hh
    injection hh with hh
    injection hh with _ h2
    exact ht h2.symm
theorem K2.at_ {Lb : Nat} {W W' : World} (h : K2 Lb W W') {g : Nat} {t : TypeId} {cs : Array Value} (ha : At W g t cs) (ht : t ≠ 112) (hg : g ≠ Lb) : At W' g t cs := h.keep g cs t (0, 0) ht hg ha

/-- A row of characters, not in block Lb. -/
def TRow (w : World) (Lb : Nat) (A : Option Addr) (l : List Ch) : Prop :=
  0 < l.length → ∃ b off cur fz, A = some ⟨b, off, none⟩ ∧ b ≠ Lb ∧ w.heap[b]? = some (.cells cur 121 fz) ∧ ∀ j u, (chv l)[j]? = some u → cur[off + j]? = some u
theorem TRow.nil {w : World} {Lb : Nat} {A : Option Addr} : TRow w Lb A [] := fun h => absurd h (by simp)
theorem TRow.keep {w w' : World} {Lb : Nat} {A : Option Addr} {l : List Ch} (h : TRow w Lb A l) (hk : K2 Lb w w') : TRow w' Lb A l := fun hl => by
  obtain ⟨b, off, cur, fz, hA, hb, hc, hh⟩ := h hl
  exact ⟨b, off, cur, fz, hA, hb, hk.keep _ _ _ _ (by decide) hb hc, hh⟩
theorem TRow.cs {w : World} {Lb : Nat} {A : Option Addr} {l : List Ch} (h : TRow w Lb A l) : Cs w A l := by
  refine ⟨chv_length l, fun hl => ?_⟩
  obtain ⟨b, off, cur, fz, hA, hb, hc, hh⟩ := h hl
  exact ⟨b, off, hA, (Array.getElem?_eq_some_iff.1 hc).1, fun j u hu => (cell_of_row w b (off + j) cur 121 fz hc).trans (hh j u hu)⟩
theorem TRow.cut {w : World} {Lb b off : Nat} {l : List Ch} (h : TRow w Lb (some ⟨b, off, none⟩) l) (k : Nat) : TRow w Lb (some ⟨b, off + k * 2, none⟩) (l.drop k) := fun hl => by
  have hk : k < l.length := by rw [List.length_drop] at hl; omega
  obtain ⟨b', off', cur, fz, hA, hb, hc, hh⟩ := h (by omega)
  injection hA with hA
  injection hA with e1 e2
  subst e1 e2
  refine ⟨b, off + k * 2, cur, fz, rfl, hb, hc, fun j u hu => ?_⟩
  rw [← chv_drop, List.getElem?_drop] at hu
  rw [Nat.add_assoc]
  exact hh _ u hu
theorem TRow.take {w : World} {Lb : Nat} {A : Option Addr} {l : List Ch} (h : TRow w Lb A l) (k : Nat) : TRow w Lb A (l.take k) := fun hl => by
  obtain ⟨b', off', cur, fz, hA, hb, hc, hh⟩ := h (by rw [List.length_take] at hl; omega)
  refine ⟨b', off', cur, fz, hA, hb, hc, fun j u hu => hh j u ?_⟩
  rw [← chv_take, List.getElem?_take] at hu
  split at hu
  · exact hu
  · cases hu
theorem TRow.of_own {w : World} {base Lb c : Nat} {A : Option Addr} {n : Nat} {l : List Ch} {ds : Array Value} (h : w.ownsRow base 121 2 (.slice A n c) n (chv l)) (hb : At w Lb 116 ds) : TRow w Lb A l := fun hl => by
  have hn := h.1
  rw [chv_length] at hn
  obtain ⟨g, cap, hv, _, hlt⟩ := h.form (by omega)
  obtain ⟨rfl, _⟩ : A = some ⟨g, 0, none⟩ ∧ c = cap := by
    injection hv with h1 h2 h3
    exact ⟨h1, h3⟩
  rcases h.2 with ⟨h1, _⟩ | ⟨g', cap', cur, h1, _, hgb, _, _, hsz, ht⟩
  · cases h1
  · obtain ⟨rfl, _⟩ : g = g' ∧ c = cap' := by
      injection h1 with h1 h2 h3
      injection h1 with h1
      injection h1 with h1
      exact ⟨h1, h3⟩
    refine ⟨g, 0, cur, (0, 0), rfl, ?_, hgb, fun j u hu => ?_⟩
    · rintro rfl
      have hb' : w.heap[g]? = some (.cells ds 116 (0, 0)) := hb
      rw [hgb] at hb'
      injection hb' with hb'
      injection hb' with _ h2
      exact absurd h2 (by decide)
    · rw [← ht, List.getElem?_take] at hu
      split at hu
      · simpa using hu
      · cases hu

/-- A piece's function. -/
def PieceT (w : World) (Lb : Nat) (f : Value) : Pc → Prop
  | .star => f = .nilFunc
  | .any => f = .func (.func 62) #[] #[]
  | .set neg ins => ∃ B1 B2 A c, f = .func (.func 74) #[] #[.pointer (some ⟨B1, 0, none⟩), .pointer (some ⟨B2, 0, none⟩)] ∧ B1 ≠ Lb ∧ B2 ≠ Lb ∧ ins.length ≤ 1000000000 ∧
      At w B1 116 #[.slice A ins.length c] ∧ At w B2 4 #[.bool neg] ∧ TRow w Lb A ins
  | .lit x => ∃ B q, f = .func (.func 63) #[] #[.pointer (some ⟨B, 0, none⟩)] ∧ B ≠ Lb ∧ At w B 121 #[.int .u8 (x.toNat : Int), .bool q]
theorem PieceT.keep {w w' : World} {Lb : Nat} {f : Value} {p : Pc} (h : PieceT w Lb f p) (hk : K2 Lb w w') : PieceT w' Lb f p := by
  cases p with
  | star => exact h
  | any => exact h
  | set neg ins =>
    obtain ⟨B1, B2, A, c, hf, h1, h2, hl, c1, c2, hr⟩ := h
    exact ⟨B1, B2, A, c, hf, h1, h2, hl, hk.at_ c1 (by decide) h1, hk.at_ c2 (by decide) h2, hr.keep hk⟩
  | lit x =>
    obtain ⟨B, q, hf, h1, c1⟩ := h
    exact ⟨B, q, hf, h1, hk.at_ c1 (by decide) h1⟩
theorem PieceT.of_set {w w' : World} {Lb : Nat} {A : Option Addr} {l : List Ch} {f : Value} {neg : Bool} {ins : List Ch} (hL : Lb < w.heap.size) (hs : SetFn w.heap.size w' A l f neg ins) (hr : TRow w' Lb A l) : PieceT w' Lb f (.set neg ins) := by
  obtain ⟨B1, B2, b, off, k, c, rfl, hf, h1, h2, hl, c1, c2, hk, hins⟩ := hs
  refine ⟨B1, B2, _, c, hf, by omega, by omega, hl, c1, c2, ?_⟩
  have := (hr.cut k).take ins.length
  rwa [← hins] at this

/-- The cells of a row of pieces. -/
def pcv (ps : List (Value × Pc)) : List Value := ps.flatMap fun p => [.bool p.2.isStar, p.1, .bool p.2.odd]
theorem pcv_append (l k : List (Value × Pc)) : pcv (l ++ k) = pcv l ++ pcv k := by simp [pcv]
theorem pcv_cons (p : Value × Pc) (l : List (Value × Pc)) : pcv (p :: l) = .bool p.2.isStar :: p.1 :: .bool p.2.odd :: pcv l := rfl
theorem pcv_length : ∀ l : List (Value × Pc), (pcv l).length = l.length * 3
  | [] => rfl
  | c :: l => by rw [pcv_cons]; simp only [List.length_cons, pcv_length l]; omega
/-- The slice v holds these pieces. -/
def PcsAt (w : World) (Lb : Nat) (v : Value) (L : List Pc) : Prop :=
  ∃ (ps : List (Value × Pc)) (A : Option Addr) (c : Nat), ps.map (·.2) = L ∧ (∀ p ∈ ps, PieceT w Lb p.1 p.2) ∧ v = .slice A ps.length c ∧ Rc w 3 A ps.length (pcv ps)

theorem info73 : (Tryd.prog.info? 121).map (fun i => (i.zero, i.size, i.bytes)) = some (some (.agg #[.int .u8 0, .bool false]), 2, 2) := by kernel_rfl
theorem info44 : (Tryd.prog.info? 112).map (fun i => (i.zero, i.size, i.bytes)) = some (some (.agg #[.bool false, .nilFunc, .bool false]), 3, 24) := by kernel_rfl

theorem at_own {β : Type} (g : Nat) (t : TypeId) (cs : Array Value) : Own (fun (_ : β) W => At W g t cs) := fun s X Y row hs hg hrow =>
  hs.grown hg (fun e' => by obtain ⟨o, ho, hc⟩ := hrow g e'.symm; rw [show X.heap[g]? = _ from hs] at ho; cases ho; cases hc)

theorem chars_any (A : Option Addr) (n c : Nat) (w : World) :
    Calls Tryd.prog 59 #[.slice A n c] w fun e w' => e = .returned (.func (.func 71) #[] #[.pointer (some ⟨w.heap.size, 0, none⟩)]) ∧ w' = w.alloc (.cells #[.slice A n c] 38) := by
  go_enter Tryd.func59, Tryd.ntmps59
  go_wp2
  go_ret
  exact ⟨rfl, rfl⟩

/-- The pieces' loop at its head: ps are made, l is left. -/
structure PInv (w : World) (B D : Nat) (L l : List Ch) (ps : List (Value × Pc)) (A : Option Addr) (c : Nat) (v : Value) (x : World) : Prop where
  box : At x w.heap.size 116 #[.slice A l.length c]
  row : TRow x w.heap.size A l
  cap : l.length ≤ c
  capM : c ≤ maxLen
  own : x.ownsRow B 112 3 v ps.length (pcv ps)
  all : ∀ p ∈ ps, PieceT x w.heap.size p.1 p.2
  eq : ps.map (·.2) ++ pieces l = pieces L
  len : ps.length + l.length ≤ L.length
  bel : Below w.heap.size w x
  up : B ≤ x.heap.size
  low : w.heap.size < B
  dlow : w.heap.size + 2 ≤ D
  dB : D < B
  dfr : x.heap[D]? = some (.deferred (some []))
theorem PInv.below {w : World} {B D : Nat} {L l : List Ch} {ps : List (Value × Pc)} {A : Option Addr} {c : Nat} {v : Value} {x y : World} (h : PInv w B D L l ps A c v x) (hb : Below x.heap.size x y) : PInv w B D L l ps A c v y where
  box := h.box.below hb h.box.lt
  row := h.row.keep (K2.below hb)
  cap := h.cap
  capM := h.capM
  own := by
    refine h.own.kept (row := none) ⟨hb.os, hb.tape, hb.output, hb.size, fun k hk _ => hb.block k hk⟩ ?_
    cases e : v.ownBlock with
    | none => exact .inl rfl
    | some g => exact .inr (by simp)
  all := fun p hp => (h.all p hp).keep (K2.below hb)
  eq := h.eq
  len := h.len
  bel := h.bel.trans (hb.mono h.bel.size)
  up := Nat.le_trans h.up hb.size
  low := h.low
  dlow := h.dlow
  dB := h.dB
  dfr := (hb.block D (by have := h.dB; have := h.up; omega)).trans h.dfr
theorem cut_some (b off k : Nat) : (some (⟨b, off, none⟩ : Addr)).map (·.add (k * 2)) = some ⟨b, off + k * 2, none⟩ := by
  simp only [Option.map_some, Addr.add]
  split <;> simp_all
/-- The rest's address. -/
def cutA (A : Option Addr) (c k : Nat) : Option Addr := if c = k then A else A.map (·.add (k * 2))
theorem TRow.cutA {x : World} {Lb : Nat} {A : Option Addr} {l : List Ch} (h : TRow x Lb A l) {c k : Nat} (hc : l.length ≤ c) : TRow x Lb (cutA A c k) (l.drop k) := fun hl => by
  have hk : k < l.length := by rw [List.length_drop] at hl; omega
  obtain ⟨b, off, cur, fz, rfl, _⟩ := h (by omega)
  have := h.cut k hl
  unfold YtklihdlfbhgpeaaDoor.cutA
  rw [if_neg (by omega)]
  have e : (some (⟨b, off, none⟩ : Addr)).map (·.add (k * 2)) = some ⟨b, off + k * 2, none⟩ := by
    simp only [Option.map_some, Addr.add]
    split <;> simp_all
  rw [e]
  exact this
theorem PInv.step {w : World} {B D : Nat} {L l : List Ch} {ps : List (Value × Pc)} {A : Option Addr} {c : Nat} {v : Value} {x : World} (h : PInv w B D L l ps A c v x) {p : Pc} {f : Value} {k : Nat}
    (hf : PieceT x w.heap.size f p) (hk0 : 0 < k) (hk : k ≤ l.length) (hp : pieces l = p :: pieces (l.drop k)) {tmp : Obj} {v' : Value} {y : World}
    (hown : y.ownsRow B 112 3 v' (ps.length + 1) (pcv ps ++ [.bool p.isStar, f, .bool p.odd])) (hg : (x.alloc tmp).grownBy y v.ownBlock) :
    At y w.heap.size 116 #[.slice A l.length c] ∧ PInv w B D L (l.drop k) (ps ++ [(f, p)]) (cutA A c k) (c - k) v' (y.setCell ⟨w.heap.size, 0, none⟩ (.slice (cutA A c k) (l.length - k) (c - k))) := by
  have hk1 : K2 w.heap.size x y := (K2.alloc _ _ _).trans (K2.grown hg (h.own.alloc tmp))
  have hob : ∀ j, v.ownBlock = some j → B ≤ j := fun j e => (h.own.lt j e).1
  have hb1 : At y w.heap.size 116 #[.slice A l.length c] := (h.box.alloc tmp).grown hg (fun e => by have := hob _ e.symm; have := h.low; omega)
  have hk2 : K2 w.heap.size x (y.setCell ⟨w.heap.size, 0, none⟩ (.slice (cutA A c k) (l.length - k) (c - k))) := hk1.trans (K2.set _ _ _)
  have hl : (l.drop k).length = l.length - k := by simp
  have hw := h.bel.size
  have hup := h.up
  have hlow := h.low
  have hd1 : y.heap[D]? = some (.deferred (some [])) := (hg.block D (by simp; have := h.dB; omega) (fun e => by have := hob _ e.symm; have := h.dB; omega)).trans ((Below.heap_alloc x tmp D (by have := h.dB; omega)).trans h.dfr)
  refine ⟨hb1, ?_⟩
  constructor
  · have := hb1.set 0 (.slice (cutA A c k) (l.length - k) (c - k))
    rw [hl]
    simpa using this
  · exact (h.row.cutA h.cap).keep hk2
  · rw [hl]; have := h.cap; omega
  · have := h.capM; omega
  · rw [pcv_append, List.length_append, List.length_singleton]
    refine hown.kept (row := some w.heap.size) ⟨rfl, rfl, rfl, by simp, fun j _ hj => Below.heap_setCell y _ _ j (fun e => hj (by rw [e]))⟩ (.inr (fun e => ?_))
    have := (hown.lt _ e).1
    omega
  · intro q hq
    rw [List.mem_append, List.mem_singleton] at hq
    rcases hq with hq | rfl
    · exact (h.all q hq).keep hk2
    · exact hf.keep hk2
  · rw [List.map_append, List.append_assoc]
    have := h.eq
    rw [hp] at this
    simpa using this
  · rw [List.length_append, List.length_singleton, hl]; have := h.len; omega
  · refine (((h.bel.alloc hw tmp).grown hg (by simp; omega) (fun j e => by have := hob j e; omega))).setCell (p := ⟨w.heap.size, 0, none⟩) (Nat.le_refl _) _
  · have := hg.size; simp at this ⊢; omega
  · exact h.low
  · exact h.dlow
  · exact h.dB
  · exact (Below.heap_setCell y _ _ D (by have := h.dlow; simp; omega)).trans hd1
end Go.Proofs.YtklihdlfbhgpeaaDoor
