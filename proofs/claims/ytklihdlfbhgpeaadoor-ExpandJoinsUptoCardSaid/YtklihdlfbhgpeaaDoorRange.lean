/-
  A range over a function whose iterator hands over slices of memory that it has made itself, and whose body never leaves the loop. No program in sight.
-/
import Derived.Test.YtklihdlfbhgpeaaDoorGen
import Derived.RangeFuncNested
import Derived.RangeFuncCalls
import Derived.RangeFuncLeaves
import Derived.Shelf.Abstract
import Derived.WalkKit
import Derived.OwnWalkIn
import Derived.TacticsInMore
import Derived.Sort.LoopGhostIn
namespace Go.Proofs.YtklihdlfbhgpeaaDoor
open Go.RowKit Go.Shelf

/-- From block B on, what lay lies as it lay. -/
def Same (B : Nat) (W W' : World) : Prop := W.heap.size ≤ W'.heap.size ∧ ∀ k, B ≤ k → k < W.heap.size → W'.heap[k]? = W.heap[k]?
theorem Same.refl (B : Nat) (W : World) : Same B W W := ⟨Nat.le_refl _, fun _ _ _ => rfl⟩
theorem Same.trans {B : Nat} {X Y Z : World} (h : Same B X Y) (k : Same B Y Z) : Same B X Z :=
  ⟨Nat.le_trans h.1 k.1, fun i hi hl => (k.2 i hi (Nat.lt_of_lt_of_le hl h.1)).trans (h.2 i hi hl)⟩
theorem Same.mono {B C : Nat} {X Y : World} (h : Same B X Y) (hc : B ≤ C) : Same C X Y := ⟨h.1, fun k hk => h.2 k (Nat.le_trans hc hk)⟩
theorem Same.putObj {B : Nat} {W : World} {l : Nat} (o : Obj) (hl : l < B) : Same B W (W.putObj l o) := ⟨by simp, fun _ hk _ => World.putObj_heap_other (by omega)⟩
theorem Same.alloc (B : Nat) (W : World) (o : Obj) : Same B W (W.alloc o) := ⟨by simp, fun k _ hl => Below.heap_alloc W o k hl⟩
theorem Same.of_below {B : Nat} {W W' : World} (h : Below W.heap.size W W') : Same B W W' := ⟨h.size, fun k _ hl => h.block k hl⟩
theorem Same.of_only {B g : Nat} {W W' : World} (h : Only g W W') (hg : g < B) : Same B W W' := ⟨h.size, fun k hk hl => h.block k hl (fun e => by injection e; omega)⟩
theorem below_putObj {B : Nat} {W : World} {l : Nat} (o : Obj) (hl : B ≤ l) : Below B W (W.putObj l o) := ⟨rfl, rfl, rfl, by simp, fun k hk => World.putObj_heap_other (by omega)⟩

variable {F : Fence} {n : Nat} {P : Program}
theorem wpIn_rangeFunc_mem {α : Type} {g : Operand} {ps : Array Tmp} {assign body : Code} {Q : Exit → Act → World → Prop} {a : Act} {w : World}
    (hro : F.round = none) (h1 : 1 ≤ n) {gf : Nat} {lb : Array Value} (hg : a.eval g = .func (.func gf) #[] lb) (hFg : F.fn gf) (eg : ∀ args w, (callFunc gf args).run P w = .ok (.enter gf args) w)
    {encs : α → Array Value} (hps : ∀ x, (encs x).size = ps.size) (M : α → World → Prop) (hM : ∀ x W1 W2, M x W1 → Same (w.heap.size + 2) W1 W2 → M x W2) {S : List α → Prop} {N : Nat}
    (hseq : ∀ (l : Nat) (J : List α → World → Prop) (W : World), Below w.heap.size w W → W.heap.size = w.heap.size + 2 → (∀ pre W1 W2, J pre W1 → Below (w.heap.size + 2) W1 W2 → J pre W2) →
      (∀ pre x W1, J pre W1 → pre.length < N → M x W1 → YieldAt F (n - 1 - 1) P l (encs x) W1 fun e W' => e = .returned (.bool true) ∧ J (pre ++ [x]) W' ∧ Same (w.heap.size + 2) W1 W') → J [] W →
      CallsIn F (n - 1) P gf (#[.func (.yield l) #[] #[]] ++ lb) W fun e W' => (∃ v, e = .returned v) ∧ ∃ xs, S xs ∧ J xs W')
    (I : List α → World → Prop) (hI : ∀ pre W1 W2, I pre W1 → Below w.heap.size W1 W2 → I pre W2) (h0 : I [] w) (a₁ : α → Act)
    (hassign : ∀ (l : Nat) (x : α) (W : World) (K : Act → World → Prop), K (a₁ x) W →
      assign.wpIn (F.inRound l) (n - 1 - 1) P (Exit.then K (fun _ _ _ => False)) { tmps := (ps.zip (encs x)).foldl (fun t (p, v) => t.setIfInBounds p v) a.tmps, defers := [] } W)
    (hbody : ∀ (l : Nat) (pre : List α) (x : α) (W : World), I pre W → pre.length < N → M x W → body.wpIn (F.inRound l) (n - 1 - 1) P (fun e _ W' => e = .normal ∧ Same w.heap.size W W' ∧ I (pre ++ [x]) W') (a₁ x) W)
    (hdone : ∀ (D : Nat) (xs : List α) (W : World), w.heap.size ≤ D → S xs → I xs W → W.heap[D]? = some (.deferred (some [])) → Q .normal { a with defers := { target := .collected D, args := #[] } :: a.defers } W) :
    (Code.rangeFunc g ps assign body).wpIn F n P Q a w := by
  refine wpIn_rangeFunc fun fn hfn => ?_
  rw [hro]
  let B := w.heap.size
  let rc : LoopState → Option Code → Loop := fun st pe => { state := st, pending := pe, fn, tmps := a.tmps, params := ps, assign, body, defers := B }
  let W0 := (w.alloc (.deferred (some []))).alloc (.loop (rc .ready none))
  have hz0 : W0.heap.size = B + 2 := by simp [W0, B]
  have hL0 : W0.heap[B + 1]? = some (.loop (rc .ready none)) := by
    have := World.alloc_heap_new (w.alloc (.deferred (some []))) (.loop (rc .ready none))
    rwa [World.size_alloc] at this
  have hD0 : W0.heap[B]? = some (.deferred (some [])) := (Below.heap_alloc _ _ _ (by simp [B])).trans (World.alloc_heap_new w _)
  have hb0 : Below B w W0 := ((Below.refl _ w).alloc (Nat.le_refl _) _).alloc (by simp) _
  refine ⟨B + 1, [{ target := .collected B, args := #[] }], W0, { target := .fn (.func gf) lb, args := #[.func (.yield (B + 1)) #[] #[]] }, W0, gf, #[.func (.yield (B + 1)) #[] #[]] ++ lb, W0,
    run_enterLoop_outer _ _ _ _ _, by simp only [resolve, hg]; simp [go_sem], fun f' hf' => by simp [Target.leads] at hf'; subst hf'; exact hFg, by simp [invoke, go_sem, eg], fun _ => h1, ?_⟩
  refine (hseq (B + 1) (fun pre W => I pre W ∧ W.heap[B + 1]? = some (.loop (rc .ready none)) ∧ W.heap[B]? = some (.deferred (some []))) W0 hb0 hz0
    (fun pre W1 W2 h hb => ⟨hI pre W1 W2 h.1 (hb.mono (by omega)), (hb.block _ (by omega)).trans h.2.1, (hb.block _ (by omega)).trans h.2.2⟩) ?_ ⟨hI [] w W0 h0 hb0, hL0, hD0⟩).mono ?_
  · rintro pre x W ⟨hi, hl, hd⟩ hlen hm
    have hlt : B + 1 < W.heap.size := (Array.getElem?_eq_some_iff.1 hl).1
    refine ⟨fn, _, assign, body, run_yield (P := P) (args := encs x) hl (hps x), roundIn_of_wpIn hfn (hassign _ x W _ ⟨_, run_beginRound hl rfl, ?_⟩)⟩
    refine wpIn_mono (hbody _ pre x _ (hI _ _ _ hi (below_putObj _ (by omega))) hlen (hM _ _ _ hm (Same.putObj _ (by omega)))) ?_
    rintro e a3 W3 ⟨rfl, hs, hi3⟩
    have hl3 : W3.heap[B + 1]? = some (.loop { rc .ready none with state := .busy }) := (hs.2 _ (by omega) (by simpa using hlt)).trans (World.putObj_heap_same hlt)
    have hd3 : W3.heap[B]? = some (.deferred (some [])) := (hs.2 _ (Nat.le_refl _) (by simp; omega)).trans ((World.putObj_heap_other (by omega)).trans hd)
    refine ⟨_, _, run_endRound (P := P) none hl3, rfl, ⟨hI _ _ _ hi3 (below_putObj _ (by omega)), World.putObj_heap_same (Array.getElem?_eq_some_iff.1 hl3).1, (World.putObj_heap_other (by omega)).trans hd3⟩, ?_⟩
    exact ((Same.putObj _ (by omega)).trans (hs.mono (by omega))).trans (Same.putObj _ (by omega))
  · rintro e W2 ⟨⟨v, rfl⟩, xs, hS, hi, hl, hd⟩
    exact ⟨none, _, run_endLoop (P := P) hl (by simp [rc]), hdone B xs _ (Nat.le_refl _) hS (hI _ _ _ hi (below_putObj _ (by omega))) ((World.putObj_heap_other (by omega)).trans hd)⟩
end Go.Proofs.YtklihdlfbhgpeaaDoor
