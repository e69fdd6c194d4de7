/-
  No cell of these rows narrows 'for every input' (looked for: loops, veiled, ifaces, maps, wideKeys, modest, calm, conditions, laid).
  DERIVED. THE GIVEN ROWS OF THIS SEAT. 9 by the template 'for every input the law returns true; each argument reads behind the call as it read before'; 0 by the template 'total and deterministic' (their statements: YtbcfnibpdfonkaaTotals.lean).
  GIVEN WITH THE SEED: the statements are not yours to turn. If you find one false, say at which input.
  Laid BY PROGRAM, IN A SANDBOX (cutbox-rows.mjs): the forced cells as the released guide's own fill.sh prints them over the translation 75aafa996dc430d1… (all of the seat's roots in one cut). By AI agents, Wed Nov 11 2026. No macro, syntax, notation, axiom, sorry.
-/
import Derived.Test.YtbcfnibpdfonkaaChecked
import GoSem.Claim
import GoSem.ClaimJoined
import GoSem.ClaimMapViews
import Derived.JoinedTies
import Derived.KernelRfl
namespace Go.Proofs.Ytbcfnibpdfonkaa
/- THE CELL 'sum', in the pinned program and in every row, IS THE sha256 OF THE DUMP (.gsa) THAT YtbcfnibpdfonkaaProg.lean LOADS. Nothing in Lean hashes anything: it is a label: what it is worth is what the hold of that sum in a sandbox is worth. -/
noncomputable def Try.pinned : Pinned := { name := "ytbcfnibpdfonkaa", sum := "75aafa996dc430d1283a9bbcadc39269f5b6b6d77a4ac6f76b83f2c51c5c06f9", checked := Try.checked }
namespace Rows
def none {H : Type} : Left H := { results := [], args := [] }

/-- 'laws.FnExactTrapCompletion': WHATEVER THE INPUT: true; the input reads as it did. -/
def fnExactTrapCompletionSpec : ChangeSpec := { name := "fnExactTrapCompletion", fn := fun _ => fun
  | [d] => { results := [.lit (.bool true)], args := [d] }
  | _ => none }
def fnExactTrapCompletionRow : OpenClaim := { program := "ytbcfnibpdfonkaa", sum := "75aafa996dc430d1283a9bbcadc39269f5b6b6d77a4ac6f76b83f2c51c5c06f9", func := "loop.example/g01102/laws.FnExactTrapCompletion", spec := "fnExactTrapCompletion", unfollowed := true, recurses := true, plainKeys := false, apart := false }
def FnExactTrapCompletionSaid : Prop := fnExactTrapCompletionRow.holds Try.pinned (OpenSpec.ofChange fnExactTrapCompletionSpec)

/-- ITS FALSE NEIGHBOUR: 'it returns false'. Refute it at one input. -/
def fnExactTrapCompletionWrong : ChangeSpec := { name := "fnExactTrapCompletion", fn := fun _ => fun
  | [d] => { results := [.lit (.bool false)], args := [d] }
  | _ => none }
def FnExactTrapCompletionWrongFalsely : Prop := fnExactTrapCompletionRow.holds Try.pinned (OpenSpec.ofChange fnExactTrapCompletionWrong)

/-- 'laws.FnExactTargetsOf': WHATEVER THE INPUT: true; the input reads as it did. -/
def fnExactTargetsOfSpec : ChangeSpec := { name := "fnExactTargetsOf", fn := fun _ => fun
  | [d] => { results := [.lit (.bool true)], args := [d] }
  | _ => none }
def fnExactTargetsOfRow : OpenClaim := { program := "ytbcfnibpdfonkaa", sum := "75aafa996dc430d1283a9bbcadc39269f5b6b6d77a4ac6f76b83f2c51c5c06f9", func := "loop.example/g01102/laws.FnExactTargetsOf", spec := "fnExactTargetsOf", unfollowed := true, recurses := true, plainKeys := false, apart := false }
def FnExactTargetsOfSaid : Prop := fnExactTargetsOfRow.holds Try.pinned (OpenSpec.ofChange fnExactTargetsOfSpec)

/-- ITS FALSE NEIGHBOUR: 'it returns false'. Refute it at one input. -/
def fnExactTargetsOfWrong : ChangeSpec := { name := "fnExactTargetsOf", fn := fun _ => fun
  | [d] => { results := [.lit (.bool false)], args := [d] }
  | _ => none }
def FnExactTargetsOfWrongFalsely : Prop := fnExactTargetsOfRow.holds Try.pinned (OpenSpec.ofChange fnExactTargetsOfWrong)

/-- 'laws.FnExactRenumberingOf': WHATEVER THE INPUT: true; the input reads as it did. -/
def fnExactRenumberingOfSpec : ChangeSpec := { name := "fnExactRenumberingOf", fn := fun _ => fun
  | [d1, d2] => { results := [.lit (.bool true)], args := [d1, d2] }
  | _ => none }
def fnExactRenumberingOfRow : OpenClaim := { program := "ytbcfnibpdfonkaa", sum := "75aafa996dc430d1283a9bbcadc39269f5b6b6d77a4ac6f76b83f2c51c5c06f9", func := "loop.example/g01102/laws.FnExactRenumberingOf", spec := "fnExactRenumberingOf", unfollowed := true, recurses := true, plainKeys := false, apart := false }
def FnExactRenumberingOfSaid : Prop := fnExactRenumberingOfRow.holds Try.pinned (OpenSpec.ofChange fnExactRenumberingOfSpec)

/-- ITS FALSE NEIGHBOUR: 'it returns false'. Refute it at one input. -/
def fnExactRenumberingOfWrong : ChangeSpec := { name := "fnExactRenumberingOf", fn := fun _ => fun
  | [d1, d2] => { results := [.lit (.bool false)], args := [d1, d2] }
  | _ => none }
def FnExactRenumberingOfWrongFalsely : Prop := fnExactRenumberingOfRow.holds Try.pinned (OpenSpec.ofChange fnExactRenumberingOfWrong)

/-- 'laws.FnExactRankWord': WHATEVER THE INPUT: true; the input reads as it did. -/
def fnExactRankWordSpec : ChangeSpec := { name := "fnExactRankWord", fn := fun _ => fun
  | [d] => { results := [.lit (.bool true)], args := [d] }
  | _ => none }
def fnExactRankWordRow : OpenClaim := { program := "ytbcfnibpdfonkaa", sum := "75aafa996dc430d1283a9bbcadc39269f5b6b6d77a4ac6f76b83f2c51c5c06f9", func := "loop.example/g01102/laws.FnExactRankWord", spec := "fnExactRankWord", unfollowed := true, recurses := true, plainKeys := false, apart := false }
def FnExactRankWordSaid : Prop := fnExactRankWordRow.holds Try.pinned (OpenSpec.ofChange fnExactRankWordSpec)

/-- ITS FALSE NEIGHBOUR: 'it returns false'. Refute it at one input. -/
def fnExactRankWordWrong : ChangeSpec := { name := "fnExactRankWord", fn := fun _ => fun
  | [d] => { results := [.lit (.bool false)], args := [d] }
  | _ => none }
def FnExactRankWordWrongFalsely : Prop := fnExactRankWordRow.holds Try.pinned (OpenSpec.ofChange fnExactRankWordWrong)

/-- 'laws.FnExactPairTable': WHATEVER THE INPUT: true; the input reads as it did. -/
def fnExactPairTableSpec : ChangeSpec := { name := "fnExactPairTable", fn := fun _ => fun
  | [d] => { results := [.lit (.bool true)], args := [d] }
  | _ => none }
def fnExactPairTableRow : OpenClaim := { program := "ytbcfnibpdfonkaa", sum := "75aafa996dc430d1283a9bbcadc39269f5b6b6d77a4ac6f76b83f2c51c5c06f9", func := "loop.example/g01102/laws.FnExactPairTable", spec := "fnExactPairTable", unfollowed := true, recurses := true, plainKeys := false, apart := false }
def FnExactPairTableSaid : Prop := fnExactPairTableRow.holds Try.pinned (OpenSpec.ofChange fnExactPairTableSpec)

/-- ITS FALSE NEIGHBOUR: 'it returns false'. Refute it at one input. -/
def fnExactPairTableWrong : ChangeSpec := { name := "fnExactPairTable", fn := fun _ => fun
  | [d] => { results := [.lit (.bool false)], args := [d] }
  | _ => none }
def FnExactPairTableWrongFalsely : Prop := fnExactPairTableRow.holds Try.pinned (OpenSpec.ofChange fnExactPairTableWrong)

/-- 'laws.FnExactColouringAt': WHATEVER THE INPUT: true; the input reads as it did. -/
def fnExactColouringAtSpec : ChangeSpec := { name := "fnExactColouringAt", fn := fun _ => fun
  | [d1, d2] => { results := [.lit (.bool true)], args := [d1, d2] }
  | _ => none }
def fnExactColouringAtRow : OpenClaim := { program := "ytbcfnibpdfonkaa", sum := "75aafa996dc430d1283a9bbcadc39269f5b6b6d77a4ac6f76b83f2c51c5c06f9", func := "loop.example/g01102/laws.FnExactColouringAt", spec := "fnExactColouringAt", unfollowed := true, recurses := true, plainKeys := false, apart := false }
def FnExactColouringAtSaid : Prop := fnExactColouringAtRow.holds Try.pinned (OpenSpec.ofChange fnExactColouringAtSpec)

/-- ITS FALSE NEIGHBOUR: 'it returns false'. Refute it at one input. -/
def fnExactColouringAtWrong : ChangeSpec := { name := "fnExactColouringAt", fn := fun _ => fun
  | [d1, d2] => { results := [.lit (.bool false)], args := [d1, d2] }
  | _ => none }
def FnExactColouringAtWrongFalsely : Prop := fnExactColouringAtRow.holds Try.pinned (OpenSpec.ofChange fnExactColouringAtWrong)

/-- 'laws.FnExactStablePairs': WHATEVER THE INPUT: true; the input reads as it did. -/
def fnExactStablePairsSpec : ChangeSpec := { name := "fnExactStablePairs", fn := fun _ => fun
  | [d] => { results := [.lit (.bool true)], args := [d] }
  | _ => none }
def fnExactStablePairsRow : OpenClaim := { program := "ytbcfnibpdfonkaa", sum := "75aafa996dc430d1283a9bbcadc39269f5b6b6d77a4ac6f76b83f2c51c5c06f9", func := "loop.example/g01102/laws.FnExactStablePairs", spec := "fnExactStablePairs", unfollowed := true, recurses := true, plainKeys := false, apart := false }
def FnExactStablePairsSaid : Prop := fnExactStablePairsRow.holds Try.pinned (OpenSpec.ofChange fnExactStablePairsSpec)

/-- ITS FALSE NEIGHBOUR: 'it returns false'. Refute it at one input. -/
def fnExactStablePairsWrong : ChangeSpec := { name := "fnExactStablePairs", fn := fun _ => fun
  | [d] => { results := [.lit (.bool false)], args := [d] }
  | _ => none }
def FnExactStablePairsWrongFalsely : Prop := fnExactStablePairsRow.holds Try.pinned (OpenSpec.ofChange fnExactStablePairsWrong)

/-- 'laws.FnExactFindCertificate': WHATEVER THE INPUT: true; the input reads as it did. -/
def fnExactFindCertificateSpec : ChangeSpec := { name := "fnExactFindCertificate", fn := fun _ => fun
  | [d] => { results := [.lit (.bool true)], args := [d] }
  | _ => none }
def fnExactFindCertificateRow : OpenClaim := { program := "ytbcfnibpdfonkaa", sum := "75aafa996dc430d1283a9bbcadc39269f5b6b6d77a4ac6f76b83f2c51c5c06f9", func := "loop.example/g01102/laws.FnExactFindCertificate", spec := "fnExactFindCertificate", unfollowed := true, recurses := true, plainKeys := false, apart := false }
def FnExactFindCertificateSaid : Prop := fnExactFindCertificateRow.holds Try.pinned (OpenSpec.ofChange fnExactFindCertificateSpec)

/-- ITS FALSE NEIGHBOUR: 'it returns false'. Refute it at one input. -/
def fnExactFindCertificateWrong : ChangeSpec := { name := "fnExactFindCertificate", fn := fun _ => fun
  | [d] => { results := [.lit (.bool false)], args := [d] }
  | _ => none }
def FnExactFindCertificateWrongFalsely : Prop := fnExactFindCertificateRow.holds Try.pinned (OpenSpec.ofChange fnExactFindCertificateWrong)

/-- 'laws.FnExactDirectingWord': WHATEVER THE INPUT: true; the input reads as it did. -/
def fnExactDirectingWordSpec : ChangeSpec := { name := "fnExactDirectingWord", fn := fun _ => fun
  | [d1, d2] => { results := [.lit (.bool true)], args := [d1, d2] }
  | _ => none }
def fnExactDirectingWordRow : OpenClaim := { program := "ytbcfnibpdfonkaa", sum := "75aafa996dc430d1283a9bbcadc39269f5b6b6d77a4ac6f76b83f2c51c5c06f9", func := "loop.example/g01102/laws.FnExactDirectingWord", spec := "fnExactDirectingWord", unfollowed := true, recurses := true, plainKeys := false, apart := false }
def FnExactDirectingWordSaid : Prop := fnExactDirectingWordRow.holds Try.pinned (OpenSpec.ofChange fnExactDirectingWordSpec)

/-- ITS FALSE NEIGHBOUR: 'it returns false'. Refute it at one input. -/
def fnExactDirectingWordWrong : ChangeSpec := { name := "fnExactDirectingWord", fn := fun _ => fun
  | [d1, d2] => { results := [.lit (.bool false)], args := [d1, d2] }
  | _ => none }
def FnExactDirectingWordWrongFalsely : Prop := fnExactDirectingWordRow.holds Try.pinned (OpenSpec.ofChange fnExactDirectingWordWrong)

/- THE SECOND FORM. 'bulk': how many values and letters a reading holds, each counted each time it is reached (what is shared counts as often as it is met; a slice's spare places count too). A statement '..UptoSaid' is the law's where the arguments, and the package variables that the reading takes, are together of bulk at most 1048576: NARROWER than '..Said'. Prove '..Said' where nothing that the law and all that it calls make is longer than what came in: it says more and counts as full. Else prove '..UptoSaid'. A law counts once. -/
mutual
def uptoBulk {H : Type} : DataW H → Nat
  | .lit (.string bytes) => bytes.length + 1
  | .lit _ => 1
  | .nil => 1
  | .ptr d => uptoBulk d + 1
  | .slice elems spare => uptoBulkAll elems + uptoBulkAll spare + 1
  | .agg parts => uptoBulkAll parts + 1
  | .iface _ d => uptoBulk d + 1
  | .map entries => uptoBulkEntries entries + 1
  | .held _ => 1
def uptoBulkAll {H : Type} : List (DataW H) → Nat
  | [] => 0
  | d :: r => uptoBulk d + uptoBulkAll r
def uptoBulkEntries {H : Type} : List (Lit × DataW H) → Nat
  | [] => 0
  | x :: r => uptoBulkEntry x + uptoBulkEntries r
def uptoBulkEntry {H : Type} : Lit × DataW H → Nat
  | (.string bytes, d) => bytes.length + uptoBulk d + 1
  | (_, d) => uptoBulk d + 1
 end
def uptoSmall : (H : Type) → List (DataW H) → Bool := fun _ ds => decide (uptoBulkAll ds ≤ 1048576)
def OpenSpec.upto (s : _root_.Go.ChangeSpec) : _root_.Go.OpenSpec := { _root_.Go.OpenSpec.ofChange s with cond := some uptoSmall }

/-- 'laws.FnExactTrapCompletion', WHERE WHAT IT READS IS OF BULK AT MOST 1048576: true; the input reads as it did. -/
def fnExactTrapCompletionUptoRow : OpenClaim := { program := "ytbcfnibpdfonkaa", sum := "75aafa996dc430d1283a9bbcadc39269f5b6b6d77a4ac6f76b83f2c51c5c06f9", func := "loop.example/g01102/laws.FnExactTrapCompletion", spec := "fnExactTrapCompletion", unfollowed := true, recurses := true, plainKeys := false, apart := false, narrowed := true }
def FnExactTrapCompletionUptoSaid : Prop := fnExactTrapCompletionUptoRow.holds Try.pinned (OpenSpec.upto fnExactTrapCompletionSpec)

/-- 'laws.FnExactTargetsOf', WHERE WHAT IT READS IS OF BULK AT MOST 1048576: true; the input reads as it did. -/
def fnExactTargetsOfUptoRow : OpenClaim := { program := "ytbcfnibpdfonkaa", sum := "75aafa996dc430d1283a9bbcadc39269f5b6b6d77a4ac6f76b83f2c51c5c06f9", func := "loop.example/g01102/laws.FnExactTargetsOf", spec := "fnExactTargetsOf", unfollowed := true, recurses := true, plainKeys := false, apart := false, narrowed := true }
def FnExactTargetsOfUptoSaid : Prop := fnExactTargetsOfUptoRow.holds Try.pinned (OpenSpec.upto fnExactTargetsOfSpec)

/-- 'laws.FnExactRenumberingOf', WHERE WHAT IT READS IS OF BULK AT MOST 1048576: true; the input reads as it did. -/
def fnExactRenumberingOfUptoRow : OpenClaim := { program := "ytbcfnibpdfonkaa", sum := "75aafa996dc430d1283a9bbcadc39269f5b6b6d77a4ac6f76b83f2c51c5c06f9", func := "loop.example/g01102/laws.FnExactRenumberingOf", spec := "fnExactRenumberingOf", unfollowed := true, recurses := true, plainKeys := false, apart := false, narrowed := true }
def FnExactRenumberingOfUptoSaid : Prop := fnExactRenumberingOfUptoRow.holds Try.pinned (OpenSpec.upto fnExactRenumberingOfSpec)

/-- 'laws.FnExactRankWord', WHERE WHAT IT READS IS OF BULK AT MOST 1048576: true; the input reads as it did. -/
def fnExactRankWordUptoRow : OpenClaim := { program := "ytbcfnibpdfonkaa", sum := "75aafa996dc430d1283a9bbcadc39269f5b6b6d77a4ac6f76b83f2c51c5c06f9", func := "loop.example/g01102/laws.FnExactRankWord", spec := "fnExactRankWord", unfollowed := true, recurses := true, plainKeys := false, apart := false, narrowed := true }
def FnExactRankWordUptoSaid : Prop := fnExactRankWordUptoRow.holds Try.pinned (OpenSpec.upto fnExactRankWordSpec)

/-- 'laws.FnExactPairTable', WHERE WHAT IT READS IS OF BULK AT MOST 1048576: true; the input reads as it did. -/
def fnExactPairTableUptoRow : OpenClaim := { program := "ytbcfnibpdfonkaa", sum := "75aafa996dc430d1283a9bbcadc39269f5b6b6d77a4ac6f76b83f2c51c5c06f9", func := "loop.example/g01102/laws.FnExactPairTable", spec := "fnExactPairTable", unfollowed := true, recurses := true, plainKeys := false, apart := false, narrowed := true }
def FnExactPairTableUptoSaid : Prop := fnExactPairTableUptoRow.holds Try.pinned (OpenSpec.upto fnExactPairTableSpec)

/-- 'laws.FnExactColouringAt', WHERE WHAT IT READS IS OF BULK AT MOST 1048576: true; the input reads as it did. -/
def fnExactColouringAtUptoRow : OpenClaim := { program := "ytbcfnibpdfonkaa", sum := "75aafa996dc430d1283a9bbcadc39269f5b6b6d77a4ac6f76b83f2c51c5c06f9", func := "loop.example/g01102/laws.FnExactColouringAt", spec := "fnExactColouringAt", unfollowed := true, recurses := true, plainKeys := false, apart := false, narrowed := true }
def FnExactColouringAtUptoSaid : Prop := fnExactColouringAtUptoRow.holds Try.pinned (OpenSpec.upto fnExactColouringAtSpec)

/-- 'laws.FnExactStablePairs', WHERE WHAT IT READS IS OF BULK AT MOST 1048576: true; the input reads as it did. -/
def fnExactStablePairsUptoRow : OpenClaim := { program := "ytbcfnibpdfonkaa", sum := "75aafa996dc430d1283a9bbcadc39269f5b6b6d77a4ac6f76b83f2c51c5c06f9", func := "loop.example/g01102/laws.FnExactStablePairs", spec := "fnExactStablePairs", unfollowed := true, recurses := true, plainKeys := false, apart := false, narrowed := true }
def FnExactStablePairsUptoSaid : Prop := fnExactStablePairsUptoRow.holds Try.pinned (OpenSpec.upto fnExactStablePairsSpec)

/-- 'laws.FnExactFindCertificate', WHERE WHAT IT READS IS OF BULK AT MOST 1048576: true; the input reads as it did. -/
def fnExactFindCertificateUptoRow : OpenClaim := { program := "ytbcfnibpdfonkaa", sum := "75aafa996dc430d1283a9bbcadc39269f5b6b6d77a4ac6f76b83f2c51c5c06f9", func := "loop.example/g01102/laws.FnExactFindCertificate", spec := "fnExactFindCertificate", unfollowed := true, recurses := true, plainKeys := false, apart := false, narrowed := true }
def FnExactFindCertificateUptoSaid : Prop := fnExactFindCertificateUptoRow.holds Try.pinned (OpenSpec.upto fnExactFindCertificateSpec)

/-- 'laws.FnExactDirectingWord', WHERE WHAT IT READS IS OF BULK AT MOST 1048576: true; the input reads as it did. -/
def fnExactDirectingWordUptoRow : OpenClaim := { program := "ytbcfnibpdfonkaa", sum := "75aafa996dc430d1283a9bbcadc39269f5b6b6d77a4ac6f76b83f2c51c5c06f9", func := "loop.example/g01102/laws.FnExactDirectingWord", spec := "fnExactDirectingWord", unfollowed := true, recurses := true, plainKeys := false, apart := false, narrowed := true }
def FnExactDirectingWordUptoSaid : Prop := fnExactDirectingWordUptoRow.holds Try.pinned (OpenSpec.upto fnExactDirectingWordSpec)

end Rows
end Go.Proofs.Ytbcfnibpdfonkaa
