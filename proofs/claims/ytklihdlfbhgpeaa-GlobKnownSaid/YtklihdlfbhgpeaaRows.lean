/-
  No cell of these rows narrows 'for every input' (looked for: loops, veiled, ifaces, maps, wideKeys, modest, calm, conditions, laid).
  DERIVED. THE GIVEN ROWS OF THIS SEAT. 7 by the template 'for every input the law returns true; each argument reads behind the call as it read before'; 0 by the template 'total and deterministic' (their statements: YtklihdlfbhgpeaaTotals.lean).
  GIVEN WITH THE SEED: the statements are not yours to turn. If you find one false, say at which input.
  Laid BY PROGRAM, IN A SANDBOX (cutbox-rows.mjs): the forced cells as the released guide's own fill.sh prints them over the translation d9b14e5672e8af19… (all of the seat's roots in one cut). By AI agents, Wed Nov 11 2026. No macro, syntax, notation, axiom, sorry.
-/
import Derived.Test.YtklihdlfbhgpeaaChecked
import GoSem.Claim
import GoSem.ClaimJoined
import GoSem.ClaimMapViews
import Derived.JoinedTies
import Derived.KernelRfl
namespace Go.Proofs.Ytklihdlfbhgpeaa
/- THE CELL 'sum', in the pinned program and in every row, IS THE sha256 OF THE DUMP (.gsa) THAT YtklihdlfbhgpeaaProg.lean LOADS. Nothing in Lean hashes anything: it is a label: what it is worth is what the hold of that sum in a sandbox is worth. -/
noncomputable def Try.pinned : Pinned := { name := "ytklihdlfbhgpeaa", sum := "d9b14e5672e8af1959a3c5a2a6f934602301387d233441e5a74186ed4fdebf77", checked := Try.checked }
namespace Rows
def none {H : Type} : Left H := { results := [], args := [] }

/-- 'whisklaw14.GlobBytes': WHATEVER THE INPUT: true; the input reads as it did. -/
def globBytesSpec : ChangeSpec := { name := "globBytes", fn := fun _ => fun
  | [d] => { results := [.lit (.bool true)], args := [d] }
  | _ => none }
def globBytesRow : OpenClaim := { program := "ytklihdlfbhgpeaa", sum := "d9b14e5672e8af1959a3c5a2a6f934602301387d233441e5a74186ed4fdebf77", func := "whisk/whisklaw14.GlobBytes", spec := "globBytes", inPlace := ["internal/bytealg.IndexByteString"], unfollowed := true, recurses := true, apart := false }
def GlobBytesSaid : Prop := globBytesRow.holds Try.pinned (OpenSpec.ofChange globBytesSpec)

/-- ITS FALSE NEIGHBOUR: 'it returns false'. Refute it at one input. -/
def globBytesWrong : ChangeSpec := { name := "globBytes", fn := fun _ => fun
  | [d] => { results := [.lit (.bool false)], args := [d] }
  | _ => none }
def GlobBytesWrongFalsely : Prop := globBytesRow.holds Try.pinned (OpenSpec.ofChange globBytesWrong)

/-- 'whisklaw14.GlobNot': WHATEVER THE INPUT: true; the input reads as it did. -/
def globNotSpec : ChangeSpec := { name := "globNot", fn := fun _ => fun
  | [d] => { results := [.lit (.bool true)], args := [d] }
  | _ => none }
def globNotRow : OpenClaim := { program := "ytklihdlfbhgpeaa", sum := "d9b14e5672e8af1959a3c5a2a6f934602301387d233441e5a74186ed4fdebf77", func := "whisk/whisklaw14.GlobNot", spec := "globNot", inPlace := ["internal/bytealg.IndexByteString"], unfollowed := true, recurses := true, apart := false }
def GlobNotSaid : Prop := globNotRow.holds Try.pinned (OpenSpec.ofChange globNotSpec)

/-- ITS FALSE NEIGHBOUR: 'it returns false'. Refute it at one input. -/
def globNotWrong : ChangeSpec := { name := "globNot", fn := fun _ => fun
  | [d] => { results := [.lit (.bool false)], args := [d] }
  | _ => none }
def GlobNotWrongFalsely : Prop := globNotRow.holds Try.pinned (OpenSpec.ofChange globNotWrong)

/-- 'whisklaw14.GlobStar': WHATEVER THE INPUT: true; the input reads as it did. -/
def globStarSpec : ChangeSpec := { name := "globStar", fn := fun _ => fun
  | [d1, d2, d3] => { results := [.lit (.bool true)], args := [d1, d2, d3] }
  | _ => none }
def globStarRow : OpenClaim := { program := "ytklihdlfbhgpeaa", sum := "d9b14e5672e8af1959a3c5a2a6f934602301387d233441e5a74186ed4fdebf77", func := "whisk/whisklaw14.GlobStar", spec := "globStar", inPlace := ["internal/bytealg.IndexByteString"], unfollowed := true, recurses := true, apart := false }
def GlobStarSaid : Prop := globStarRow.holds Try.pinned (OpenSpec.ofChange globStarSpec)

/-- ITS FALSE NEIGHBOUR: 'it returns false'. Refute it at one input. -/
def globStarWrong : ChangeSpec := { name := "globStar", fn := fun _ => fun
  | [d1, d2, d3] => { results := [.lit (.bool false)], args := [d1, d2, d3] }
  | _ => none }
def GlobStarWrongFalsely : Prop := globStarRow.holds Try.pinned (OpenSpec.ofChange globStarWrong)

/-- 'whisklaw14.GlobMatches': WHATEVER THE INPUT: true; the input reads as it did. -/
def globMatchesSpec : ChangeSpec := { name := "globMatches", fn := fun _ => fun
  | [d1, d2] => { results := [.lit (.bool true)], args := [d1, d2] }
  | _ => none }
def globMatchesRow : OpenClaim := { program := "ytklihdlfbhgpeaa", sum := "d9b14e5672e8af1959a3c5a2a6f934602301387d233441e5a74186ed4fdebf77", func := "whisk/whisklaw14.GlobMatches", spec := "globMatches", inPlace := ["internal/bytealg.IndexByteString", "internal/abi.NoEscape"], unfollowed := true, recurses := true, apart := false }
def GlobMatchesSaid : Prop := globMatchesRow.holds Try.pinned (OpenSpec.ofChange globMatchesSpec)

/-- ITS FALSE NEIGHBOUR: 'it returns false'. Refute it at one input. -/
def globMatchesWrong : ChangeSpec := { name := "globMatches", fn := fun _ => fun
  | [d1, d2] => { results := [.lit (.bool false)], args := [d1, d2] }
  | _ => none }
def GlobMatchesWrongFalsely : Prop := globMatchesRow.holds Try.pinned (OpenSpec.ofChange globMatchesWrong)

/-- 'whisklaw14.GlobPlain': WHATEVER THE INPUT: true; the input reads as it did. -/
def globPlainSpec : ChangeSpec := { name := "globPlain", fn := fun _ => fun
  | [d1, d2] => { results := [.lit (.bool true)], args := [d1, d2] }
  | _ => none }
def globPlainRow : OpenClaim := { program := "ytklihdlfbhgpeaa", sum := "d9b14e5672e8af1959a3c5a2a6f934602301387d233441e5a74186ed4fdebf77", func := "whisk/whisklaw14.GlobPlain", spec := "globPlain", inPlace := ["internal/bytealg.IndexByteString", "internal/abi.NoEscape"], unfollowed := true, recurses := true, apart := false }
def GlobPlainSaid : Prop := globPlainRow.holds Try.pinned (OpenSpec.ofChange globPlainSpec)

/-- ITS FALSE NEIGHBOUR: 'it returns false'. Refute it at one input. -/
def globPlainWrong : ChangeSpec := { name := "globPlain", fn := fun _ => fun
  | [d1, d2] => { results := [.lit (.bool false)], args := [d1, d2] }
  | _ => none }
def GlobPlainWrongFalsely : Prop := globPlainRow.holds Try.pinned (OpenSpec.ofChange globPlainWrong)

/-- 'whisklaw14.GlobRuns': WHATEVER THE INPUT: true; the input reads as it did. -/
def globRunsSpec : ChangeSpec := { name := "globRuns", fn := fun _ => fun
  | [d1, d2] => { results := [.lit (.bool true)], args := [d1, d2] }
  | _ => none }
def globRunsRow : OpenClaim := { program := "ytklihdlfbhgpeaa", sum := "d9b14e5672e8af1959a3c5a2a6f934602301387d233441e5a74186ed4fdebf77", func := "whisk/whisklaw14.GlobRuns", spec := "globRuns", inPlace := ["internal/bytealg.IndexByteString", "internal/abi.NoEscape"], unfollowed := true, recurses := true, apart := false }
def GlobRunsSaid : Prop := globRunsRow.holds Try.pinned (OpenSpec.ofChange globRunsSpec)

/-- ITS FALSE NEIGHBOUR: 'it returns false'. Refute it at one input. -/
def globRunsWrong : ChangeSpec := { name := "globRuns", fn := fun _ => fun
  | [d1, d2] => { results := [.lit (.bool false)], args := [d1, d2] }
  | _ => none }
def GlobRunsWrongFalsely : Prop := globRunsRow.holds Try.pinned (OpenSpec.ofChange globRunsWrong)

/-- 'whisklaw14.GlobKnown': WHATEVER THE INPUT: true; the input reads as it did. -/
def globKnownSpec : ChangeSpec := { name := "globKnown", fn := fun _ => fun
  | [] => { results := [.lit (.bool true)], args := [] }
  | _ => none }
def globKnownRow : OpenClaim := { program := "ytklihdlfbhgpeaa", sum := "d9b14e5672e8af1959a3c5a2a6f934602301387d233441e5a74186ed4fdebf77", func := "whisk/whisklaw14.GlobKnown", spec := "globKnown", inPlace := ["internal/bytealg.IndexByteString", "internal/abi.NoEscape", "internal/bytealg.MakeNoZero"], unfollowed := true, recurses := true, apart := false }
def GlobKnownSaid : Prop := globKnownRow.holds Try.pinned (OpenSpec.ofChange globKnownSpec)

/-- ITS FALSE NEIGHBOUR: 'it returns false'. Refute it at one input. -/
def globKnownWrong : ChangeSpec := { name := "globKnown", fn := fun _ => fun
  | [] => { results := [.lit (.bool false)], args := [] }
  | _ => none }
def GlobKnownWrongFalsely : Prop := globKnownRow.holds Try.pinned (OpenSpec.ofChange globKnownWrong)

/- THE SECOND FORM. 'bulk': how many values and letters a reading holds, each counted each time it is reached (what is shared counts as often as it is met; a slice's spare places count too). A statement '..UptoSaid' is the law's where the arguments, and the package variables that the reading takes, are together of bulk at most 1048576: NARROWER than '..Said'. Prove '..Said' where nothing that the law and all that it calls make is longer than what came in: it says more and counts as full. Else prove '..UptoSaid'. A law counts once. -/
mutual
def uptoBulk {H : Type} : DataW H → Nat
  | .lit (.string bytes) => bytes.length + 1
  | .lit _ => 1
  | .nil => 1
  | .ptr d => uptoBulk d + 1
  | .slice elems spare => uptoBulkAll elems + uptoBulkAll spare + 1
  | .agg parts => uptoBulkAll parts + 1
  | .iface _ d => uptoBulk d + 1
  | .map entries => uptoBulkEntries entries + 1
  | .held _ => 1
def uptoBulkAll {H : Type} : List (DataW H) → Nat
  | [] => 0
  | d :: r => uptoBulk d + uptoBulkAll r
def uptoBulkEntries {H : Type} : List (Lit × DataW H) → Nat
  | [] => 0
  | x :: r => uptoBulkEntry x + uptoBulkEntries r
def uptoBulkEntry {H : Type} : Lit × DataW H → Nat
  | (.string bytes, d) => bytes.length + uptoBulk d + 1
  | (_, d) => uptoBulk d + 1
 end
def uptoSmall : (H : Type) → List (DataW H) → Bool := fun _ ds => decide (uptoBulkAll ds ≤ 1048576)
def OpenSpec.upto (s : _root_.Go.ChangeSpec) : _root_.Go.OpenSpec := { _root_.Go.OpenSpec.ofChange s with cond := some uptoSmall }

/-- 'whisklaw14.GlobBytes', WHERE WHAT IT READS IS OF BULK AT MOST 1048576: true; the input reads as it did. -/
def globBytesUptoRow : OpenClaim := { program := "ytklihdlfbhgpeaa", sum := "d9b14e5672e8af1959a3c5a2a6f934602301387d233441e5a74186ed4fdebf77", func := "whisk/whisklaw14.GlobBytes", spec := "globBytes", inPlace := ["internal/bytealg.IndexByteString"], unfollowed := true, recurses := true, apart := false, narrowed := true }
def GlobBytesUptoSaid : Prop := globBytesUptoRow.holds Try.pinned (OpenSpec.upto globBytesSpec)

/-- 'whisklaw14.GlobNot', WHERE WHAT IT READS IS OF BULK AT MOST 1048576: true; the input reads as it did. -/
def globNotUptoRow : OpenClaim := { program := "ytklihdlfbhgpeaa", sum := "d9b14e5672e8af1959a3c5a2a6f934602301387d233441e5a74186ed4fdebf77", func := "whisk/whisklaw14.GlobNot", spec := "globNot", inPlace := ["internal/bytealg.IndexByteString"], unfollowed := true, recurses := true, apart := false, narrowed := true }
def GlobNotUptoSaid : Prop := globNotUptoRow.holds Try.pinned (OpenSpec.upto globNotSpec)

/-- 'whisklaw14.GlobStar', WHERE WHAT IT READS IS OF BULK AT MOST 1048576: true; the input reads as it did. -/
def globStarUptoRow : OpenClaim := { program := "ytklihdlfbhgpeaa", sum := "d9b14e5672e8af1959a3c5a2a6f934602301387d233441e5a74186ed4fdebf77", func := "whisk/whisklaw14.GlobStar", spec := "globStar", inPlace := ["internal/bytealg.IndexByteString"], unfollowed := true, recurses := true, apart := false, narrowed := true }
def GlobStarUptoSaid : Prop := globStarUptoRow.holds Try.pinned (OpenSpec.upto globStarSpec)

/-- 'whisklaw14.GlobMatches', WHERE WHAT IT READS IS OF BULK AT MOST 1048576: true; the input reads as it did. -/
def globMatchesUptoRow : OpenClaim := { program := "ytklihdlfbhgpeaa", sum := "d9b14e5672e8af1959a3c5a2a6f934602301387d233441e5a74186ed4fdebf77", func := "whisk/whisklaw14.GlobMatches", spec := "globMatches", inPlace := ["internal/bytealg.IndexByteString", "internal/abi.NoEscape"], unfollowed := true, recurses := true, apart := false, narrowed := true }
def GlobMatchesUptoSaid : Prop := globMatchesUptoRow.holds Try.pinned (OpenSpec.upto globMatchesSpec)

/-- 'whisklaw14.GlobPlain', WHERE WHAT IT READS IS OF BULK AT MOST 1048576: true; the input reads as it did. -/
def globPlainUptoRow : OpenClaim := { program := "ytklihdlfbhgpeaa", sum := "d9b14e5672e8af1959a3c5a2a6f934602301387d233441e5a74186ed4fdebf77", func := "whisk/whisklaw14.GlobPlain", spec := "globPlain", inPlace := ["internal/bytealg.IndexByteString", "internal/abi.NoEscape"], unfollowed := true, recurses := true, apart := false, narrowed := true }
def GlobPlainUptoSaid : Prop := globPlainUptoRow.holds Try.pinned (OpenSpec.upto globPlainSpec)

/-- 'whisklaw14.GlobRuns', WHERE WHAT IT READS IS OF BULK AT MOST 1048576: true; the input reads as it did. -/
def globRunsUptoRow : OpenClaim := { program := "ytklihdlfbhgpeaa", sum := "d9b14e5672e8af1959a3c5a2a6f934602301387d233441e5a74186ed4fdebf77", func := "whisk/whisklaw14.GlobRuns", spec := "globRuns", inPlace := ["internal/bytealg.IndexByteString", "internal/abi.NoEscape"], unfollowed := true, recurses := true, apart := false, narrowed := true }
def GlobRunsUptoSaid : Prop := globRunsUptoRow.holds Try.pinned (OpenSpec.upto globRunsSpec)

/-- 'whisklaw14.GlobKnown', WHERE WHAT IT READS IS OF BULK AT MOST 1048576: true; the input reads as it did. -/
def globKnownUptoRow : OpenClaim := { program := "ytklihdlfbhgpeaa", sum := "d9b14e5672e8af1959a3c5a2a6f934602301387d233441e5a74186ed4fdebf77", func := "whisk/whisklaw14.GlobKnown", spec := "globKnown", inPlace := ["internal/bytealg.IndexByteString", "internal/abi.NoEscape", "internal/bytealg.MakeNoZero"], unfollowed := true, recurses := true, apart := false, narrowed := true }
def GlobKnownUptoSaid : Prop := globKnownUptoRow.holds Try.pinned (OpenSpec.upto globKnownSpec)

end Rows
end Go.Proofs.Ytklihdlfbhgpeaa
