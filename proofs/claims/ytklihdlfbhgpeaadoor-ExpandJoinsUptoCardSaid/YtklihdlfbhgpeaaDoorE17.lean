/-
  The walk of param: the map of the methods.
-/
import Derived.Test.YtklihdlfbhgpeaaDoorE16
import Derived.Test.YtklihdlfbhgpeaaDoorTbl
namespace Go.Proofs.YtklihdlfbhgpeaaDoor
open Go.RowKit
set_option linter.unusedVariables false

/-- A method bound to the fields. -/
abbrev mv (k fb : Nat) : Value := .func (.func k) #[.pointer (some ⟨fb, 0, none⟩)] #[]
def doTbl (fb : Nat) : List (List UInt8 × Value) :=
  [([], mv 26 fb), ([108, 101, 110], mv 27 fb), ([58, 45], mv 28 fb), ([45], mv 28 fb), ([58, 43], mv 29 fb), ([43], mv 29 fb), ([58, 61], mv 30 fb), ([61], mv 30 fb), ([58, 63], mv 31 fb), ([63], mv 31 fb),
   ([35], mv 32 fb), ([35, 35], mv 32 fb), ([37], mv 32 fb), ([37, 37], mv 32 fb)]
def opNum : OpK → Nat
  | .plain => 26 | .size => 27 | .orElse => 28 | .instead => 29 | .assign => 30 | .must => 31 | .trim => 32
theorem look_doTbl (fb : Nat) (op : Str) : lookL (doTbl fb) op = (opOf op).map fun k => mv (opNum k) fb := by
  unfold opOf
  simp only [doTbl, lookL]
  by_cases h : op = []
  · rw [if_pos h, if_pos h]; rfl
  rw [if_neg h, if_neg h]
  clear h
  by_cases h : op = [108, 101, 110]
  · rw [if_pos h, if_pos h]; rfl
  rw [if_neg h, if_neg h]
  clear h
  by_cases h : op = [58, 45]
  · rw [if_pos h, if_pos h]; rfl
  rw [if_neg h, if_neg h]
  clear h
  by_cases h : op = [45]
  · rw [if_pos h, if_pos h]; rfl
  rw [if_neg h, if_neg h]
  clear h
  by_cases h : op = [58, 43]
  · rw [if_pos h, if_pos h]; rfl
  rw [if_neg h, if_neg h]
  clear h
  by_cases h : op = [43]
  · rw [if_pos h, if_pos h]; rfl
  rw [if_neg h, if_neg h]
  clear h
  by_cases h : op = [58, 61]
  · rw [if_pos h, if_pos h]; rfl
  rw [if_neg h, if_neg h]
  clear h
  by_cases h : op = [61]
  · rw [if_pos h, if_pos h]; rfl
  rw [if_neg h, if_neg h]
  clear h
  by_cases h : op = [58, 63]
  · rw [if_pos h, if_pos h]; rfl
  rw [if_neg h, if_neg h]
  clear h
  by_cases h : op = [63]
  · rw [if_pos h, if_pos h]; rfl
  rw [if_neg h, if_neg h]
  clear h
  by_cases h : op = [35]
  · rw [if_pos h, if_pos h]; rfl
  rw [if_neg h, if_neg h]
  clear h
  by_cases h : op = [35, 35]
  · rw [if_pos h, if_pos h]; rfl
  rw [if_neg h, if_neg h]
  clear h
  by_cases h : op = [37]
  · rw [if_pos h, if_pos h]; rfl
  rw [if_neg h, if_neg h]
  clear h
  by_cases h : op = [37, 37]
  · rw [if_pos h, if_pos h]; rfl
  rw [if_neg h, if_neg h]
  clear h
  rfl
theorem PB.pd {n : Nat} {p : PartV} {σ : EnvV} {F : Flds} (h : PB n p σ F) (hs : costW n p.word ≤ 99999999) : PD n p (σ.say (askS p.text)) F := by
  have h1 := h.wt
  have h2 := h.seen
  have h3 := h.vars
  unfold costP at h1 h2 h3
  refine ⟨h.ok.say _, by omega, hs, ?_, ?_⟩
  · simp only [EnvV.say, List.length_append, List.length_singleton]; omega
  · simp only [EnvV.say]; omega
theorem trim_op {op : Str} (h : opOf op = some .trim) : ∃ a r, op = a :: r := by
  cases op with
  | nil => simp [opOf] at h
  | cons a r => exact ⟨a, r, rfl⟩
/-- The methods of the parameter, all of them. -/
theorem do_any [Inhabited LowT] (n : Nat) (hE : ExpOk n) (S T : Nat → Prop) (Eb fb : Nat) (σ : EnvV) (F : Flds) (deep : Int) (p : PartV) (A : Option Addr) (c : Nat) (B : Option Addr) (x : Asked) (XA : Option Addr) (xc : Nat) (w : World) (h : St w S T Eb fb σ F deep) (hb : PD n p σ F) (hp : PAt n w A p.word)
    (hd : deep + 1 = 21 - (n : Int)) (hd0 : 0 ≤ deep) (hd1 : deep ≤ 20) (hx : x.value.length ≤ 740) (hxa : x.args.length ≤ 12) (hX : TR w 9 1 XA x.args.length (txv x.args)) (k : OpK) (hk : opOf p.op = some k) :
    Calls Tryd.prog (opNum k) #[.pointer (some ⟨fb, 0, none⟩), xv p A c B x XA xc] w (DoPost S T Eb fb deep F w (doV (evalW n) p x σ k)) := by
  cases k with
  | plain => exact plain_any' n S T Eb fb σ F deep p A c B x XA xc w h hb hxa hX
  | size => exact size_any n hE S T Eb fb σ F deep p A c B x XA xc w h hb hp hx hxa hd hd0 hd1
  | orElse => exact orElse_any n hE S T Eb fb σ F deep p A c B x XA xc w h hb hp hd hd0 hd1
  | instead => exact instead_any n hE S T Eb fb σ F deep p A c B x XA xc w h hb hp hd hd0 hd1
  | assign => exact assign_any n hE S T Eb fb σ F deep p A c B x XA xc w h hb hp hd hd0 hd1
  | must => exact must_any n hE S T Eb fb σ F deep p A c B x XA xc w h hb hp hd hd0 hd1
  | trim =>
    obtain ⟨a, r, ho⟩ := trim_op hk
    exact trim_any n hE S T Eb fb σ F deep p A c B x XA xc w h hb hp hd hd0 hd1 hx a r ho
set_option maxRecDepth 100000 in
set_option maxHeartbeats 4000000 in
theorem param_any [Inhabited LowT] (n : Nat) (hE : ExpOk n) (S T : Nat → Prop) (Eb fb : Nat) (σ : EnvV) (F : Flds) (deep : Int) (p : PartV) (A : Option Addr) (c : Nat) (B : Option Addr) (w : World) (h : St w S T Eb fb σ F deep) (hb : PB n p σ F) (hs : costW n p.word ≤ 99999999) (hp : PAt n w A p.word)
    (hd : deep + 1 = 21 - (n : Int)) (hd0 : 0 ≤ deep) (hd1 : deep ≤ 20) :
    Calls Tryd.prog 21 #[.pointer (some ⟨fb, 0, none⟩), pv p A c B] w (DoPost S T Eb fb deep F w (paramV (evalW n) p σ)) := by
  obtain ⟨R, hR⟩ : ∃ R, R = paramV (evalW n) p σ := ⟨_, rfl⟩
  rw [← hR]
  have HR := hid hR
  have H := hid h
  have HB := hid hb
  have HP := hid hp
  clear h hb hp hR
  dsimp only [pv]
  go_enter Tryd.func21, Tryd.ntmps21
  go_wp2_with fail
  have hB0 : Below w.heap.size w (w.alloc (.cells #[.int .i64 p.kind, .string ⟨p.text.toArray⟩, .string ⟨p.op.toArray⟩, .bool p.q, .slice A p.word.length c, .pointer B] 47)) := (Below.refl _ _).alloc (Nat.le_refl _) _
  have hA0 : At (w.alloc (.cells #[.int .i64 p.kind, .string ⟨p.text.toArray⟩, .string ⟨p.op.toArray⟩, .bool p.q, .slice A p.word.length c, .pointer B] 47)) w.heap.size 47 #[.int .i64 p.kind, .string ⟨p.text.toArray⟩, .string ⟨p.op.toArray⟩, .bool p.q, .slice A p.word.length c, .pointer B] := heap_alloc_new w _
  refine (ask_any n S T Eb fb σ F deep p A c B _ (H.out.below hB0) HB.out).mono ?_
  rintro e w3 ⟨XA, xc, rfl, hX, hS, hK⟩
  have hA3 := hK.at_ hA0 (fun h => absurd h.2 (by decide))
  have HX := hid hX
  have HS := hid hS
  have HK := hid ((Kw.below hB0).trans hK)
  have HA3 := hid hA3
  clear hX hS hK hA3 hA0 hB0
  have hx0 := ask0_le p.text σ HB.out.ok
  have hargs := HB.out.ok.args
  have hxv : (askV p.text p.op σ).value.length ≤ 740 := hx0.1
  have hxa : (askV p.text p.op σ).args.length ≤ 12 := by
    have e : (askV p.text p.op σ).args = (ask0 p.text σ).2.2 := rfl
    rw [e]
    rcases hx0.2 with h | h
    · rw [h]; simp
    · rw [h]; exact hargs
  have HXX : Hid (∃ y, y = askV p.text p.op σ) := hid ⟨_, rfl⟩
  have hR' : R = (match opOf p.op with | none => ⟨2, [], σ.say (askS p.text)⟩ | some k => doV (evalW n) p (askV p.text p.op σ) (σ.say (askS p.text)) k) := HR.out
  have HRR := hid hR'
  clear hR' hx0 HXX
  generalize askV p.text p.op σ = x at *
  dsimp only [xv]
  have hmm : ∀ W : World, (Instr.makeMap 79 none).run Tryd.prog W = .ok (.map (some W.heap.size)) (W.alloc (.map #[] 0)) := fun W => run_makeMap 79 W
  obtain ⟨W0, hW0⟩ : ∃ W0, W0 = w3.alloc (.cells #[.int .i64 p.kind, .string ⟨p.text.toArray⟩, .string ⟨p.op.toArray⟩, .bool p.q, .slice A p.word.length c, .pointer B, .string ⟨x.value.toArray⟩, .bool x.set, .slice XA x.args.length xc, .bool x.missing] 75) := ⟨_, rfl⟩
  have hs0 : W0.heap.size = w3.heap.size + 1 := by rw [hW0]; simp
  have hM : MapAt (W0.alloc (.map #[] 0)) (w3.heap.size + 1) [] := by rw [← hs0]; exact mapAt_made W0
  have hAx : At W0 w3.heap.size 75 #[.int .i64 p.kind, .string ⟨p.text.toArray⟩, .string ⟨p.op.toArray⟩, .bool p.q, .slice A p.word.length c, .pointer B, .string ⟨x.value.toArray⟩, .bool x.set, .slice XA x.args.length xc, .bool x.missing] := by rw [hW0]; exact heap_alloc_new w3 _
  have hB30 : Below w3.heap.size w3 W0 := by rw [hW0]; exact (Below.refl _ _).alloc (Nat.le_refl _) _
  rw [hW0] at hM
  go_wp2_with (refine wpList_insert_map rfl 79 _ _ _ rfl 9 77 Tryd.underlying79 Tryd.underlying9 (w3.heap.size + 1) _ rfl hM rfl _ rfl ?_)
  intro w10 hM10 hB10
  rw [← hW0] at hB10
  clear hM
  go_wp2_with (refine wpList_insert_map rfl 79 _ _ _ rfl 9 77 Tryd.underlying79 Tryd.underlying9 (w3.heap.size + 1) _ rfl hM10 rfl _ rfl ?_)
  intro w11 hM11 hB11
  clear hM10
  go_wp2_with (refine wpList_insert_map rfl 79 _ _ _ rfl 9 77 Tryd.underlying79 Tryd.underlying9 (w3.heap.size + 1) _ rfl hM11 rfl _ rfl ?_)
  intro w12 hM12 hB12
  clear hM11
  go_wp2_with (refine wpList_insert_map rfl 79 _ _ _ rfl 9 77 Tryd.underlying79 Tryd.underlying9 (w3.heap.size + 1) _ rfl hM12 rfl _ rfl ?_)
  intro w13 hM13 hB13
  clear hM12
  go_wp2_with (refine wpList_insert_map rfl 79 _ _ _ rfl 9 77 Tryd.underlying79 Tryd.underlying9 (w3.heap.size + 1) _ rfl hM13 rfl _ rfl ?_)
  intro w14 hM14 hB14
  clear hM13
  go_wp2_with (refine wpList_insert_map rfl 79 _ _ _ rfl 9 77 Tryd.underlying79 Tryd.underlying9 (w3.heap.size + 1) _ rfl hM14 rfl _ rfl ?_)
  intro w15 hM15 hB15
  clear hM14
  go_wp2_with (refine wpList_insert_map rfl 79 _ _ _ rfl 9 77 Tryd.underlying79 Tryd.underlying9 (w3.heap.size + 1) _ rfl hM15 rfl _ rfl ?_)
  intro w16 hM16 hB16
  clear hM15
  go_wp2_with (refine wpList_insert_map rfl 79 _ _ _ rfl 9 77 Tryd.underlying79 Tryd.underlying9 (w3.heap.size + 1) _ rfl hM16 rfl _ rfl ?_)
  intro w17 hM17 hB17
  clear hM16
  go_wp2_with (refine wpList_insert_map rfl 79 _ _ _ rfl 9 77 Tryd.underlying79 Tryd.underlying9 (w3.heap.size + 1) _ rfl hM17 rfl _ rfl ?_)
  intro w18 hM18 hB18
  clear hM17
  go_wp2_with (refine wpList_insert_map rfl 79 _ _ _ rfl 9 77 Tryd.underlying79 Tryd.underlying9 (w3.heap.size + 1) _ rfl hM18 rfl _ rfl ?_)
  intro w19 hM19 hB19
  clear hM18
  go_wp2_with (refine wpList_insert_map rfl 79 _ _ _ rfl 9 77 Tryd.underlying79 Tryd.underlying9 (w3.heap.size + 1) _ rfl hM19 rfl _ rfl ?_)
  intro w20 hM20 hB20
  clear hM19
  go_wp2_with (refine wpList_insert_map rfl 79 _ _ _ rfl 9 77 Tryd.underlying79 Tryd.underlying9 (w3.heap.size + 1) _ rfl hM20 rfl _ rfl ?_)
  intro w21 hM21 hB21
  clear hM20
  go_wp2_with (refine wpList_insert_map rfl 79 _ _ _ rfl 9 77 Tryd.underlying79 Tryd.underlying9 (w3.heap.size + 1) _ rfl hM21 rfl _ rfl ?_)
  intro w22 hM22 hB22
  clear hM21
  go_wp2_with (refine wpList_insert_map rfl 79 _ _ _ rfl 9 77 Tryd.underlying79 Tryd.underlying9 (w3.heap.size + 1) _ rfl hM22 rfl _ rfl ?_)
  intro w23 hM23 hB23
  clear hM22
  have hBB : Below (w3.heap.size + 1) W0 w23 := (((Below.refl _ W0).alloc (by omega) _).trans hB10).trans (hB11.trans (hB12.trans (hB13.trans (hB14.trans (hB15.trans (hB16.trans (hB17.trans (hB18.trans (hB19.trans (hB20.trans (hB21.trans (hB22.trans hB23))))))))))))
  have hB3 : Below w3.heap.size w3 w23 := hB30.trans (hBB.mono (by omega))
  have hA23 := HA3.out.below hB3 HA3.out.lt
  have hAx23 : At w23 w3.heap.size 75 #[.int .i64 p.kind, .string ⟨p.text.toArray⟩, .string ⟨p.op.toArray⟩, .bool p.q, .slice A p.word.length c, .pointer B, .string ⟨x.value.toArray⟩, .bool x.set, .slice XA x.args.length xc, .bool x.missing] := hAx.below hBB (by omega)
  obtain ⟨x0, x1, x2, x3, x4, x5⟩ := cells6 hA23
  obtain ⟨y0, y1, y2, y3, y4, y5, y6, y7, y8, y9, hYl⟩ := cells10 hAx23
  have HS23 := hid (HS.out.below hB3)
  have HK23 := hid (HK.out.trans (Kw.below hB3))
  have HX23 := hid (HX.out.below hB3)
  have HP23 := hid ((HP.out.kw HK.out (fun _ h => absurd h.2 (by decide)) (fun _ h => absurd h.2 (by decide)) (fun k t hk h => HS.out.S0 k hk h.1)).below hB3)
  have hlook := run_look (P := Tryd.prog) (w := w23) 79 9 77 Tryd.underlying79 Tryd.underlying9 .nilFunc (Tryd.zeroValue77 w23) (w3.heap.size + 1) (doTbl fb) hM23 p.op
  rw [look_doTbl] at hlook
  have hl23 := HA3.out.lt
  clear hM23 hA23 hAx23 hB3 hBB hB10 hB11 hB12 hB13 hB14 hB15 hB16 hB17 hB18 hB19 hB20 hB21 hB22 hB23 hmm hAx hB30 hs0 hW0
  cases hop : opOf p.op with
  | none =>
    rw [hop] at hlook
    have HRN := hid HRR.out
    rw [hop] at HRN
    go_wp2_with fail
    go_ret
    rw [HRN.out]
    exact ⟨rfl, F, HS23.out, fun h => absurd h (by simp), KwA.e HK23.out⟩
  | some k =>
    rw [hop] at hlook
    have hR2 := HRR.out
    rw [hop] at hR2
    have HRS := hid hR2
    clear hR2
    have hdo := do_any n hE S T Eb fb (σ.say (askS p.text)) F deep p A c B x XA xc w23 HS23.out (HB.out.pd hs) HP23.out hd hd0 hd1 hxv hxa HX23.out k hop
    have hlook2 : (Instr.lookup 79 (.map (some (w3.heap.size + 1))) (.string ⟨p.op.toArray⟩) true).run Tryd.prog w23 = .ok (.tuple #[mv (opNum k) fb, .bool true]) w23 := hlook
    have HFIN : ∀ e w', DoPost S T Eb fb deep F w23 (doV (evalW n) p x (σ.say (askS p.text)) k) e w' → DoPost S T Eb fb deep F w R e w' := by
      rintro e w' ⟨h1, F', h2, h3, h4⟩
      rw [HRS.out]
      exact ⟨h1, F', h2, h3, (KwA.e HK23.out).trans h4⟩
    have HFN := hid HFIN
    have hen : ∀ (args : Array Value) (W : World), (callFunc (opNum k) args).run Tryd.prog W = .ok (.enter (opNum k) args) W := by
      cases k <;> (intro args W; kernel_rfl)
    clear HFIN hlook
    have HDO := hid (hdo.mono fun e w' h => HFN.out e w' h)
    clear hdo
    generalize opNum k = num at *
    go_wp2_with fail
    refine HDO.out.mono ?_
    rintro e w5 ⟨rfl, F', h2, h3, h4⟩
    have HZ := hid (And.intro h2 (And.intro h3 h4))
    clear h2 h3 h4
    go_wp2_with fail
    go_ret
    exact ⟨rfl, F', HZ.out⟩
end Go.Proofs.YtklihdlfbhgpeaaDoor
