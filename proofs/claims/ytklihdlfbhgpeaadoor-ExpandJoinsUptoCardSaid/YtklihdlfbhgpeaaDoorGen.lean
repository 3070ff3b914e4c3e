/-
  General facts on worlds, blocks, byte slices and byte strings, used by the walks of this seat. No program in sight.
-/
import Derived.WalkKit
import Derived.WalkSpells
import Derived.WalkLawsBesides
import Derived.Laws.CopyOwn
import Derived.Deep.LoopGhost
import Derived.Deep.Light
import Derived.Maps.RangeWalk
namespace Go.Proofs.YtklihdlfbhgpeaaDoor
open Go.RowKit

theorem hid {p : Prop} (h : p) : Hid p := h

theorem ret_int {k : IntKind} {a b : Int} (h : a = b) : Ending.returned (.int k a) = .returned (.int k b) := by rw [h]
theorem ret_bool {a b : Bool} (h : a = b) : Ending.returned (.bool a) = .returned (.bool b) := by rw [h]
theorem ret_str {a b : List UInt8} (h : a = b) : Ending.returned (.string ⟨a.toArray⟩) = .returned (.string ⟨b.toArray⟩) := by rw [h]
theorem int_cast {k : IntKind} {a b : Int} (h : a = b) : Value.int k a = .int k b := by rw [h]

/-- The cells of a row of bytes. -/
def bv (l : List UInt8) : List Value := l.map fun b => Value.int .u8 (b.toNat : Int)
theorem bv_nil : bv [] = [] := rfl
theorem bv_cons (b : UInt8) (l : List UInt8) : bv (b :: l) = Value.int .u8 (b.toNat : Int) :: bv l := rfl
theorem bv_length (l : List UInt8) : (bv l).length = l.length := by simp [bv]
theorem bv_append (l k : List UInt8) : bv (l ++ k) = bv l ++ bv k := by simp [bv]
theorem bv_take (l : List UInt8) (n : Nat) : (bv l).take n = bv (l.take n) := by simp [bv, List.map_take]
theorem bv_drop (l : List UInt8) (n : Nat) : (bv l).drop n = bv (l.drop n) := by simp [bv, List.map_drop]
theorem bv_get (l : List UInt8) (j : Nat) (h : j < l.length) : (bv l)[j]? = some (.int .u8 (l[j].toNat : Int)) := by simp [bv, h]
theorem bv_getD (l : List UInt8) (j : Nat) (h : j < l.length) : (bv l)[j]? = some (.int .u8 ((l.getD j 0).toNat : Int)) := by simp [bv, h]
theorem bv_one (l : List UInt8) : ∀ v ∈ bv l, v.oneCell' = true := by
  intro v hv
  obtain ⟨b, _, rfl⟩ := List.mem_map.1 hv
  rfl
theorem bv_inj : ∀ {l k : List UInt8}, bv l = bv k → l = k
  | [], [], _ => rfl
  | [], b :: k, h => by simp [bv] at h
  | a :: l, [], h => by simp [bv] at h
  | a :: l, b :: k, h => by
    rw [bv_cons, bv_cons] at h
    injection h with h1 h2
    injection h1 with _ h1
    have : a = b := UInt8.toNat_inj.1 (by omega)
    rw [this, bv_inj h2]

theorem take_drop_all (l : List UInt8) (n : Nat) : (l.drop n).take (l.length - n) = l.drop n := List.take_of_length_le (by simp)
attribute [go_sem] ByteArray.mk_append_mk ByteArray.extract_mk take_drop_all

/-! ## A block that is known whole -/
/-- Block g is just these cells, none of them frozen. -/
def At (w : World) (g : Nat) (t : TypeId) (cs : Array Value) : Prop := w.heap[g]? = some (.cells cs t (0, 0))
section
variable {w w' : World} {g : Nat} {t : TypeId} {cs : Array Value}
theorem At.lt (h : At w g t cs) : g < w.heap.size := by
  rcases Nat.lt_or_ge g w.heap.size with hlt | hge
  · exact hlt
  · unfold At at h
    rw [Array.getElem?_eq_none hge] at h
    cases h
theorem At.cell (h : At w g t cs) (i : Nat) : w.cell? ⟨g, i, none⟩ = cs[i]? := cell_of_row w g i cs t (0, 0) h
theorem At.frozen (h : At w g t cs) (i : Nat) : w.frozen? ⟨g, i, none⟩ = false := by
  unfold At at h
  simp [World.frozen?, h]
theorem At.new (w : World) (t : TypeId) (cs : Array Value) : At (w.alloc (.cells cs t)) w.heap.size t cs := by
  unfold At
  show (w.heap.push _)[w.heap.size]? = _
  simp
theorem At.new' (w : World) (t : TypeId) (cs : Array Value) {g : Nat} (h : w.heap.size = g) : At (w.alloc (.cells cs t)) g t cs := h ▸ At.new w t cs
theorem At.drew (h : At w g t cs) : At w.drew g t cs := h
theorem At.drewN (h : At w g t cs) (n : Nat) : At (w.drewN n) g t cs := h
theorem At.alloc (h : At w g t cs) (o : Obj) : At (w.alloc o) g t cs := (Below.heap_alloc w o g h.lt).trans h
theorem At.set (h : At w g t cs) (i : Nat) (u : Value) : At (w.setCell ⟨g, i, none⟩ u) g t (cs.setIfInBounds i u) := by
  unfold At at h ⊢
  simp [World.setCell, Array.getElem?_modify, h]
theorem At.far (h : At w g t cs) {p : Addr} (hp : g ≠ p.block) (u : Value) : At (w.setCell p u) g t cs := (Below.heap_setCell w p u g hp).trans h
theorem At.below {B : Nat} (h : At w g t cs) (hb : Below B w w') (hg : g < B) : At w' g t cs := (hb.block g hg).trans h
theorem At.grown {row : Option Nat} (h : At w g t cs) (hb : w.grownBy w' row) (hg : some g ≠ row) : At w' g t cs := (hb.block g h.lt hg).trans h
theorem At.ne {g' : Nat} {t' : TypeId} {cs' : Array Value} (h : At w g t cs) (h' : At w g' t' cs') (hne : t ≠ t') : g ≠ g' := by
  rintro rfl
  unfold At at h h'
  rw [h] at h'
  injection h' with h'
  injection h' with _ ht
  exact hne ht
theorem At.eq {t' : TypeId} {cs' : Array Value} (h : At w g t cs) (h' : At w g t' cs') : cs = cs' := by
  unfold At at h h'
  rw [h] at h'
  injection h' with h'
  injection h'
end

/-! ## What a world keeps -/
theorem Below.drewN' {B : Nat} {a w : World} (h : Below B a w) (n : Nat) : Below B a (w.drewN n) := ⟨h.os, h.tape, h.output, h.size, h.block⟩
theorem Below.of_grown {B : Nat} {a w : World} {row : Option Nat} (h : a.grownBy w row) (hB : B ≤ a.heap.size) (hr : ∀ k, row = some k → B ≤ k) : Below B a w :=
  ⟨h.os, h.tape, h.output, h.size, fun k hk => h.block k (by omega) (fun e => by have := hr k e.symm; omega)⟩

/-- Only block g, and what is new, has turned. -/
def Only (g : Nat) (w w' : World) : Prop := w.grownBy w' (some g)
section
variable {w w' w1 : World} {g : Nat}
theorem Only.refl (g : Nat) (w : World) : Only g w w := ⟨rfl, rfl, rfl, Nat.le_refl _, fun _ _ _ => rfl⟩
theorem Only.trans (h : Only g w w1) (k : Only g w1 w') : Only g w w' :=
  ⟨k.os.trans h.os, k.tape.trans h.tape, k.output.trans h.output, Nat.le_trans h.size k.size, fun i hi hne => (k.block i (Nat.lt_of_lt_of_le hi h.size) hne).trans (h.block i hi hne)⟩
theorem Only.drewN (h : Only g w w1) (n : Nat) : Only g w (w1.drewN n) := ⟨h.os, h.tape, h.output, h.size, h.block⟩
theorem Only.drew (h : Only g w w1) : Only g w w1.drew := ⟨h.os, h.tape, h.output, h.size, h.block⟩
theorem Only.alloc (h : Only g w w1) (o : Obj) : Only g w (w1.alloc o) :=
  ⟨h.os, h.tape, h.output, Nat.le_trans h.size (by simp), fun i hi hne => (Below.heap_alloc w1 o i (Nat.lt_of_lt_of_le hi h.size)).trans (h.block i hi hne)⟩
theorem Only.set (h : Only g w w1) {p : Addr} (hp : p.block = g ∨ w.heap.size ≤ p.block) (u : Value) : Only g w (w1.setCell p u) :=
  ⟨h.os, h.tape, h.output, by simpa [World.setCell] using h.size, fun i hi hne => (Below.heap_setCell w1 p u i (by
    rintro rfl
    rcases hp with hp | hp
    · exact hne (by rw [hp])
    · omega)).trans (h.block i hi hne)⟩
theorem Only.of_below (h : Below w.heap.size w w1) (g : Nat) : Only g w w1 := ⟨h.os, h.tape, h.output, h.size, fun i hi _ => h.block i hi⟩
theorem Only.below (h : Only g w w1) {B : Nat} (hB : B ≤ g) (hB' : B ≤ w.heap.size) : Below B w w1 := Below.of_grown h hB' (fun k e => by injection e; omega)
theorem Only.at_ {t : TypeId} {cs : Array Value} {b : Nat} (h : Only g w w1) (ha : At w b t cs) (hne : b ≠ g) : At w1 b t cs := ha.grown h (fun e => hne (by injection e))
theorem Only.cell (h : Only g w w1) {p : Addr} (hp : p.block < w.heap.size) (hne : p.block ≠ g) : w1.cell? p = w.cell? p := World.cell?_of_block (h.block p.block hp (fun e => hne (by injection e)))
end

/-! ## A slice of one-cell elements that reads as a list; nil let in -/
/-- The slice '.slice A n c' holds the cells xs; its block is not g. -/
def Rd (w : World) (g : Nat) (A : Option Addr) (n : Nat) (xs : List Value) : Prop :=
  xs.length = n ∧ (0 < n → ∃ b off, A = some ⟨b, off, none⟩ ∧ b ≠ g ∧ b < w.heap.size ∧ ∀ j u, xs[j]? = some u → w.cell? ⟨b, off + j, none⟩ = some u)
section
variable {w w' : World} {g n c : Nat} {A : Option Addr} {xs : List Value}
theorem Rd.nil : Rd w g A 0 [] := ⟨rfl, fun h => absurd h (by omega)⟩
theorem Rd.of_at {b : Nat} {t : TypeId} {cs : Array Value} (h : At w b t cs) (hne : b ≠ g) (hc : cs.toList = xs) (hn : xs.length = n) : Rd w g (some ⟨b, 0, none⟩) n xs :=
  ⟨hn, fun _ => ⟨b, 0, rfl, hne, h.lt, fun j u hu => by
    rw [h.cell, Nat.zero_add, ← hu, ← hc]
    simp⟩⟩
theorem Rd.at_ {k : Nat} (h : Rd w g A n xs) (hk : k < n) : ∃ b off u, A = some ⟨b, off, none⟩ ∧ b ≠ g ∧ b < w.heap.size ∧ xs[k]? = some u ∧ w.cell? ⟨b, off + k, none⟩ = some u := by
  obtain ⟨b, off, e, hne, hb, hc⟩ := h.2 (by omega)
  have hl : k < xs.length := by have := h.1; omega
  exact ⟨b, off, xs[k], e, hne, hb, List.getElem?_eq_getElem hl, hc k _ (List.getElem?_eq_getElem hl)⟩
theorem Rd.keep (h : Rd w g A n xs) (hs : w.heap.size ≤ w'.heap.size) (hk : ∀ p : Addr, p.block < w.heap.size → p.block ≠ g → w'.cell? p = w.cell? p) : Rd w' g A n xs :=
  ⟨h.1, fun hn => by
    obtain ⟨b, off, e, hne, hb, hc⟩ := h.2 hn
    exact ⟨b, off, e, hne, by omega, fun j u hu => (hk ⟨b, off + j, none⟩ hb hne).trans (hc j u hu)⟩⟩
theorem Rd.only (h : Rd w g A n xs) (ho : Only g w w') : Rd w' g A n xs := h.keep ho.size fun _ hp hne => ho.cell hp hne
theorem Rd.below (h : Rd w g A n xs) (ho : Below w.heap.size w w') : Rd w' g A n xs := h.keep ho.size fun _ hp _ => ho.cell hp
theorem Rd.take (h : Rd w g A n xs) {k : Nat} (hk : k ≤ n) : Rd w g A k (xs.take k) := by
  refine ⟨by rw [List.length_take, h.1]; omega, fun hn => ?_⟩
  obtain ⟨b, off, e, hne, hb, hc⟩ := h.2 (by omega)
  refine ⟨b, off, e, hne, hb, fun j u hu => hc j u ?_⟩
  rw [List.getElem?_take] at hu
  split at hu
  · exact hu
  · cases hu
theorem Rd.cut (h : Rd w g A n xs) {k cap : Nat} (hk : k ≤ n) (hc : n ≤ cap) : Rd w g (if cap = k then A else A.map (·.add k)) (n - k) (xs.drop k) := by
  refine ⟨by rw [List.length_drop, h.1], fun hn => ?_⟩
  obtain ⟨b, off, rfl, hne, hb, hcell⟩ := h.2 (by omega)
  rw [if_neg (by omega)]
  refine ⟨b, off + k, ?_, hne, hb, fun j u hu => ?_⟩
  · simp only [Option.map_some, Addr.add]
    split <;> simp_all
  · rw [List.getElem?_drop] at hu
    have := hcell _ u hu
    rwa [← Nat.add_assoc] at this
end

/-! ## Laws for the walk -/
section
variable {P : Program} {w : World} {ops : Array Oper} {rest : List Oper} {o : Oper} {a : Act} {Q : Exit → Act → World → Prop}

/-- 'make([]byte, n)'. -/
theorem wpList_make_bytes (hg : o.guard = none) (l : Operand) (t : TypeId) (hop : o.op = Op.makeSlice t l l) (e : TypeId) (i : TypeInfo) (h1 : P.underlying t = some (.slice e)) (h2 : P.info? e = some i)
    (h3 : i.zero = some (.int .u8 0)) (h4 : i.size = 1) (h5 : i.bytes = 1) (L : Int) (n : Nat) (hl : a.eval l = .int .i64 L) (hL : L = (n : Int)) (hn : n ≤ 281474976710656)
    (hK : ∀ w', At w' w.heap.size e (List.replicate n (Value.int .u8 0)).toArray → Below w.heap.size w w' → w'.heap.size = w.heap.size + 1 → wpList P ops Q rest (a.put o.dst (.slice (some ⟨w.heap.size, 0, none⟩) n n)) w') :
    wpList P ops Q (o :: rest) a w := by
  refine wpList_plain hg fun K hK' => ?_
  subst hL
  have hrun := run_make (P := P) w t e i (.int .u8 0) h1 h2 h3 .i64 .i64 n n (by omega) (by omega) (by rw [h5]; omega) (by omega)
  have hm : madeCells (Value.int .u8 0).cells ((n : Int).toNat * i.size) = (List.replicate n (Value.int .u8 0)).toArray := by
    apply Array.ext'
    rw [h4]
    apply List.ext_getElem?
    intro j
    simp only [madeCells, Value.cells, Int.toNat_natCast, Nat.mul_one]
    by_cases hj : j < n
    · simp [hj, Nat.mod_one]
    · simp [hj]
  rw [hm, Int.toNat_natCast] at hrun
  unfold Oper.wp
  simp [execOp, hop, hl, hrun, Result.andThen]
  exact hK' _ _ (hK _ (At.new _ _ _) ((Below.refl _ _).alloc (Nat.le_refl _) _) (by simp))

theorem run_copy_str (w : World) (dT sT ty elem : TypeId) (g off dLen dCap : Nat) (l : List UInt8) (cur : List Value) (t : TypeId)
    (hu : P.underlying dT = some (.slice elem)) (hsz : (P.info? elem).map (·.size) = some 1) (hle : l.length ≤ dLen) (hg : At w g t cur.toArray) (hfit : off + l.length ≤ cur.length) :
    (Builtin.copy_ #[dT, sT] ty #[.slice (some ⟨g, off, none⟩) dLen dCap, .string ⟨l.toArray⟩]).run P w = .ok (goInt l.length) (w.setRow g (splice cur off (bv l)).toArray) := by
  have hst := run_storeCells_at P g off t (bv l) 0 cur.toArray w hg (by rw [bv_length]; simpa using hfit) (bv_one l)
  cases hq : P.info? elem with
  | none => simp [hq] at hsz
  | some i =>
    have hmin : Nat.min l.length dLen = l.length := Nat.min_eq_left hle
    simp only [Nat.add_zero] at hst
    have ht : (l.map fun b => Value.int .u8 (b.toNat : Int)).take l.length = l.map fun b => Value.int .u8 (b.toNat : Int) := List.take_of_length_le (by simp)
    simp [Builtin.copy_, run_underlying hu, Builtin.lenOf, Builtin.firstCells, sizeOf, typeInfo, hq, ByteArray.size, hmin]
    simp [bv] at hst
    rw [ht, hst]
    simp [splice, bv]

/-- 'copy(dst, s)', s a string, dst a row of the call's own. -/
theorem wpList_copy_str (hgd : o.guard = none) (d s : Operand) (dT sT : TypeId) (ho : o.op = .call { callee := .builtin .copy, args := #[d, s], argTypes := #[dT, sT] })
    (elem : TypeId) (hu : P.underlying dT = some (.slice elem)) (hsz : (P.info? elem).map (·.size) = some 1) (g off dLen dCap : Nat) (l : List UInt8)
    (hd : a.eval d = .slice (some ⟨g, off, none⟩) dLen dCap) (hs : a.eval s = .string ⟨l.toArray⟩) (cur : List Value) (t : TypeId) (hg : At w g t cur.toArray) (hle : l.length ≤ dLen) (hfit : off + l.length ≤ cur.length)
    (B : Nat) (w0 : World) (hb : Below B w0 w) (hBg : B ≤ g)
    (h : ∀ w', At w' g t (splice cur off (bv l)).toArray → Below B w0 w' → Only g w w' → w'.heap.size = w.heap.size → wpList P ops Q rest (a.put o.dst (goInt l.length)) w') : wpList P ops Q (o :: rest) a w := by
  refine wpList_plain hgd fun K hK => ?_
  have hrun := run_copy_str (P := P) w dT sT o.type elem g off dLen dCap l cur t hu hsz hle hg hfit
  unfold Oper.wp
  simp [execOp, ho, resolve, invoke, builtin, hd, hs, hrun, Result.andThen]
  exact hK _ _ (h _ (setRow_heap w g _ _ t _ hg) (below_setRow hb hBg _) ⟨rfl, rfl, rfl, by simp, fun k _ hne => setRow_other w g k _ (fun e => hne (by rw [e]))⟩ (by simp))

/-- 'string(b)', b a slice of bytes that reads as l. -/
theorem run_string_of (w : World) (src dst e : TypeId) (hs : P.underlying src = some (.slice e)) (he : P.underlying e = some (.int .u8)) (hd : P.underlying dst = some .string)
    (g : Nat) (A : Option Addr) (n c : Nat) (l : List UInt8) (hr : Rd w g A n (bv l)) : (convert src dst (.slice A n c)).run P w = .ok (.string ⟨l.toArray⟩) w := by
  have hn : l.length = n := by rw [← bv_length]; exact hr.1
  subst hn
  by_cases h0 : l = []
  · subst h0
    cases A with
    | none => exact run_convert_bytes_nil (P := P) w src e hs he 0 c dst hd
    | some x => exact run_convert_bytes_back w src dst e x c [] hs he hd (fun j hj => absurd hj (by simp))
  · have hp : 0 < l.length := List.length_pos_iff.2 h0
    obtain ⟨b, off, rfl, _, _, hc⟩ := hr.2 hp
    refine run_convert_bytes_back w src dst e ⟨b, off, none⟩ c l hs he hd (fun j hj => ?_)
    have := hc j _ (bv_get l j hj)
    rw [← this]
    congr 1
    unfold Addr.add
    split <;> simp_all
theorem wpList_string_of (hgd : o.guard = none) (x : Operand) (src dst e : TypeId) (hop : o.op = Op.convert src dst x) (hs : P.underlying src = some (.slice e)) (he : P.underlying e = some (.int .u8)) (hd : P.underlying dst = some .string)
    (g : Nat) (A : Option Addr) (n c : Nat) (hx : a.eval x = .slice A n c) (l : List UInt8) (hr : Rd w g A n (bv l)) (h : wpList P ops Q rest (a.put o.dst (.string ⟨l.toArray⟩)) w) : wpList P ops Q (o :: rest) a w := by
  refine wpList_plain hgd fun K hK => ?_
  have hrun := run_string_of (P := P) w src dst e hs he hd g A n c l hr
  unfold Oper.wp
  simp [execOp, hop, hx, hrun, Result.andThen]
  exact hK _ _ h

/-- '[]byte(s)'. -/
theorem wpList_bytes_of (hgd : o.guard = none) (x : Operand) (src dst e : TypeId) (hop : o.op = Op.convert src dst x) (hs : P.underlying src = some .string) (hd : P.underlying dst = some (.slice e)) (he : P.underlying e = some (.int .u8))
    (l : List UInt8) (hx : a.eval x = .string ⟨l.toArray⟩)
    (h : ∀ w' c, (∀ j u, (bv l)[j]? = some u → w'.cell? ⟨w.heap.size, j, none⟩ = some u) → l.length ≤ c → Below w.heap.size w w' → w'.heap.size = w.heap.size + 1 →
      wpList P ops Q rest (a.put o.dst (.slice (some ⟨w.heap.size, 0, none⟩) l.length c)) w') : wpList P ops Q (o :: rest) a w := by
  refine wpList_plain hgd fun K hK => ?_
  have hrun := run_bytes_of_string (P := P) w src dst e ⟨l.toArray⟩ hs hd he
  have hcap : l.length ≤ grownCap w (ByteArray.mk l.toArray).size 0 e := by
    simpa [ByteArray.size] using grownCap_ge w (ByteArray.mk l.toArray).size 0 e
  unfold Oper.wp
  simp [execOp, hop, hx, hrun, Result.andThen]
  refine hK _ _ (h _ _ (fun j u hu => ?_) hcap ((Below.refl _ _).drew.alloc (by simp) _) (by simp))
  have hj : j < l.length := by have := (List.getElem?_eq_some_iff.1 hu).1; rwa [bv_length] at this
  have := World.cell?_alloc_mark w.drew (bytesRow ⟨l.toArray⟩ (grownCap w (ByteArray.mk l.toArray).size 0 e)) e ((bytesRow ⟨l.toArray⟩ (grownCap w (ByteArray.mk l.toArray).size 0 e)).size, (bytesRow ⟨l.toArray⟩ (grownCap w (ByteArray.mk l.toArray).size 0 e)).size + 1) j
  simp only [World.drew] at this ⊢
  rw [this, ← hu]
  simp [bytesRow, bv, Array.getElem?_append, hj]
end
end Go.Proofs.YtklihdlfbhgpeaaDoor
