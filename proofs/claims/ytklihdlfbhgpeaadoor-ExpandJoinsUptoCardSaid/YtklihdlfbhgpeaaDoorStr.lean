/-
  A slice of elements of k cells that reads as a list of cells; nil let in. No program in sight.
-/
import Derived.Test.YtklihdlfbhgpeaaDoorGen
import Derived.OwnWalk
import Derived.Laws.OwnMore
import Derived.Deep.AppendLies
namespace Go.Proofs.YtklihdlfbhgpeaaDoor
open Go.RowKit

/-- The slice '.slice A n c' of elements of k cells holds the cells xs. -/
def Rc (w : World) (k : Nat) (A : Option Addr) (n : Nat) (xs : List Value) : Prop :=
  xs.length = n * k ∧ (0 < n → ∃ b off, A = some ⟨b, off, none⟩ ∧ b < w.heap.size ∧ ∀ j u, xs[j]? = some u → w.cell? ⟨b, off + j, none⟩ = some u)
section
variable {w w' : World} {k n : Nat} {A : Option Addr} {xs : List Value}
theorem Rc.nil : Rc w k A 0 [] := ⟨by simp, fun h => absurd h (by omega)⟩
theorem Rc.keep (h : Rc w k A n xs) (hs : w.heap.size ≤ w'.heap.size) (hk : ∀ p : Addr, p.block < w.heap.size → w'.cell? p = w.cell? p) : Rc w' k A n xs :=
  ⟨h.1, fun hn => by
    obtain ⟨b, off, e, hb, hc⟩ := h.2 hn
    exact ⟨b, off, e, by omega, fun j u hu => (hk ⟨b, off + j, none⟩ hb).trans (hc j u hu)⟩⟩
theorem Rc.below (h : Rc w k A n xs) (hb : Below w.heap.size w w') : Rc w' k A n xs := h.keep hb.size fun _ hp => hb.cell hp
theorem Rc.alloc (h : Rc w k A n xs) (o : Obj) : Rc (w.alloc o) k A n xs := h.below ((Below.refl _ _).alloc (Nat.le_refl _) o)
theorem Rc.drewN (h : Rc w k A n xs) (m : Nat) : Rc (w.drewN m) k A n xs := h
theorem Rc.drew (h : Rc w k A n xs) : Rc w.drew k A n xs := h
/-- Element i's cells. -/
theorem Rc.at_ (h : Rc w k A n xs) {i : Nat} (hi : i < n) : ∃ b off, A = some ⟨b, off, none⟩ ∧ b < w.heap.size ∧ ∀ j u, xs[i * k + j]? = some u → w.cell? ⟨b, off + (i * k + j), none⟩ = some u := by
  obtain ⟨b, off, e, hb, hc⟩ := h.2 (by omega)
  exact ⟨b, off, e, hb, fun j u hu => hc _ u hu⟩
theorem Rc.cut (h : Rc w k A n xs) {i cap : Nat} (hi : i ≤ n) (hc : n ≤ cap) : Rc w k (if cap = i then A else A.map (·.add (i * k))) (n - i) (xs.drop (i * k)) := by
  refine ⟨by rw [List.length_drop, h.1, Nat.sub_mul], fun hn => ?_⟩
  obtain ⟨b, off, rfl, hb, hcell⟩ := h.2 (by omega)
  rw [if_neg (by omega)]
  refine ⟨b, off + i * k, ?_, hb, fun j u hu => ?_⟩
  · simp only [Option.map_some, Addr.add]
    split <;> simp_all
  · rw [List.getElem?_drop] at hu
    have := hcell _ u hu
    rwa [← Nat.add_assoc] at this
theorem Rc.take (h : Rc w k A n xs) {i : Nat} (hi : i ≤ n) : Rc w k A i (xs.take (i * k)) := by
  have hm : i * k ≤ n * k := Nat.mul_le_mul_right k hi
  refine ⟨by rw [List.length_take, h.1]; omega, fun hn => ?_⟩
  obtain ⟨b, off, e, hb, hc⟩ := h.2 (by omega)
  refine ⟨b, off, e, hb, fun j u hu => hc j u ?_⟩
  rw [List.getElem?_take] at hu
  split at hu
  · exact hu
  · cases hu
theorem Rc.of_own {base : Nat} {e : TypeId} {c : Nat} (h : w.ownsRow base e k (.slice A n c) n xs) : Rc w k A n xs := by
  refine ⟨h.1, fun hn => ?_⟩
  obtain ⟨g, cap, hv, _, hlt⟩ := h.form hn
  obtain ⟨rfl, _⟩ : A = some ⟨g, 0, none⟩ ∧ c = cap := by
    injection hv with h1 h2 h3
    exact ⟨h1, h3⟩
  exact ⟨g, 0, rfl, hlt, fun j u hu => by
    have := h.cells (g := g) rfl j u hu
    simpa [Addr.add_lit] using this⟩
end

theorem run_index_at {P : Program} (t : TypeId) (ht : P.underlying t = some .string) (l : List UInt8) (i : Nat) (hi : i < l.length) (p : UInt8) (hp : l.getD i 0 = p) (j : Int) (hj : j = (i : Int)) (k : IntKind) (w : World) :
    (Instr.index t (.string ⟨l.toArray⟩) (.int k j)).run P w = .ok (.int .u8 (p.toNat : Int)) w := by
  subst hj hp
  rw [run_index_string (P := P) w t ⟨l.toArray⟩ k i ht, dif_pos ⟨by omega, by simp [ByteArray.size]; omega⟩]
  simp [List.getD, List.getElem?_eq_getElem hi]
  rfl

section
variable {P : Program} {w : World} {ops : Array Oper} {o : Oper} {a : Act} {Q : Exit → Act → World → Prop} {K : Act → World → Prop} {E : Prop}
/-- append onto a row of the call's own, as a step of a region that draws its order. -/
theorem step_append_own (hgd : o.guard = none) (s x : Operand) (t : TypeId) (ho : o.op = .call { callee := .builtin .append, args := #[s, x], argTypes := #[t, t] })
    (base : Nat) (e : TypeId) (i : TypeInfo) (z : Value) (size bytes : Nat) (ht : P.underlying t = some (.slice e)) (hi : P.info? e = some i) (hz : i.zero = some z)
    (hsize : i.size = size) (hby : i.bytes = bytes) (hzs : z.cells.size = size) (hsz : 0 < size)
    (v : Value) (n : Nat) (xs : List Value) (hs : a.eval s = v) (hown : w.ownsRow base e size v n xs)
    (ad : Addr) (m c : Nat) (news : List Value) (hx : a.eval x = .slice (some ad) m c) (hl : news.length = m * size) (hnews : ∀ j u, news[j]? = some u → w.cell? (ad.add j) = some u) (h1 : ∀ u ∈ news, u.oneCell' = true)
    (h63 : n + m ≤ maxLen) (hbytes : (n + m) * bytes ≤ 140737488355328) (hbase : base ≤ w.heap.size)
    (h : ∀ v' w', w'.ownsRow base e size v' (n + m) (xs ++ news) → w.grownBy w' v.ownBlock → K (a.put o.dst v') w') :
    if Region.wanted o (yielded ops a.tmps) = true then Oper.wp P o a w K Q else E := by
  have hw : Region.wanted o (yielded ops a.tmps) = true := by simp [Region.wanted, hgd]
  rw [if_pos hw]
  exact wp_append_own w s x t ho base e i z size bytes ht hi hz hsize hby hzs hsz v n xs hs hown ad m c news hx hl hnews h1 h63 hbytes hbase fun v' w' h2 h3 _ => h v' w' h2 h3
end
end Go.Proofs.YtklihdlfbhgpeaaDoor
