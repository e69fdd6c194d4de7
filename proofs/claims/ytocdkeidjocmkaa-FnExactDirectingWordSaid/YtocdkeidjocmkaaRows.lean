/-
  No cell of these rows narrows 'for every input' (looked for: loops, veiled, ifaces, maps, wideKeys, modest, calm, conditions, laid).
  DERIVED. THE GIVEN ROWS OF THIS SEAT. 5 by the template 'for every input the law returns true; each argument reads behind the call as it read before'; 0 by the template 'total and deterministic' (their statements: YtocdkeidjocmkaaTotals.lean).
  GIVEN WITH THE SEED: the statements are not yours to turn. If you find one false, say at which input.
  Laid BY PROGRAM, IN A SANDBOX (cutbox-rows.mjs): the forced cells as the released guide's own fill.sh prints them over the translation 1d28040444a3e232… (all of the seat's roots in one cut). By AI agents, Wed Nov 11 2026. No macro, syntax, notation, axiom, sorry.
-/
import Derived.Test.YtocdkeidjocmkaaChecked
import GoSem.Claim
import GoSem.ClaimJoined
import GoSem.ClaimMapViews
import Derived.JoinedTies
import Derived.KernelRfl
namespace Go.Proofs.Ytocdkeidjocmkaa
/- THE CELL 'sum', in the pinned program and in every row, IS THE sha256 OF THE DUMP (.gsa) THAT YtocdkeidjocmkaaProg.lean LOADS. Nothing in Lean hashes anything: it is a label: what it is worth is what the hold of that sum in a sandbox is worth. -/
noncomputable def Try.pinned : Pinned := { name := "ytocdkeidjocmkaa", sum := "1d28040444a3e232a6957710a5696803bc4e42e7f368d751bd032e0eb4f76185", checked := Try.checked }
namespace Rows
def none {H : Type} : Left H := { results := [], args := [] }

/-- 'laws.FnExactChoiceOf': WHATEVER THE INPUT: true; the input reads as it did. -/
def fnExactChoiceOfSpec : ChangeSpec := { name := "fnExactChoiceOf", fn := fun _ => fun
  | [d] => { results := [.lit (.bool true)], args := [d] }
  | _ => none }
def fnExactChoiceOfRow : OpenClaim := { program := "ytocdkeidjocmkaa", sum := "1d28040444a3e232a6957710a5696803bc4e42e7f368d751bd032e0eb4f76185", func := "loop.example/g01102/laws.FnExactChoiceOf", spec := "fnExactChoiceOf", unfollowed := true, recurses := true, plainKeys := false, apart := false }
def FnExactChoiceOfSaid : Prop := fnExactChoiceOfRow.holds Try.pinned (OpenSpec.ofChange fnExactChoiceOfSpec)

/-- ITS FALSE NEIGHBOUR: 'it returns false'. Refute it at one input. -/
def fnExactChoiceOfWrong : ChangeSpec := { name := "fnExactChoiceOf", fn := fun _ => fun
  | [d] => { results := [.lit (.bool false)], args := [d] }
  | _ => none }
def FnExactChoiceOfWrongFalsely : Prop := fnExactChoiceOfRow.holds Try.pinned (OpenSpec.ofChange fnExactChoiceOfWrong)

/-- 'laws.FnExactFindCertificate': WHATEVER THE INPUT: true; the input reads as it did. -/
def fnExactFindCertificateSpec : ChangeSpec := { name := "fnExactFindCertificate", fn := fun _ => fun
  | [d] => { results := [.lit (.bool true)], args := [d] }
  | _ => none }
def fnExactFindCertificateRow : OpenClaim := { program := "ytocdkeidjocmkaa", sum := "1d28040444a3e232a6957710a5696803bc4e42e7f368d751bd032e0eb4f76185", func := "loop.example/g01102/laws.FnExactFindCertificate", spec := "fnExactFindCertificate", unfollowed := true, recurses := true, plainKeys := false, apart := false }
def FnExactFindCertificateSaid : Prop := fnExactFindCertificateRow.holds Try.pinned (OpenSpec.ofChange fnExactFindCertificateSpec)

/-- ITS FALSE NEIGHBOUR: 'it returns false'. Refute it at one input. -/
def fnExactFindCertificateWrong : ChangeSpec := { name := "fnExactFindCertificate", fn := fun _ => fun
  | [d] => { results := [.lit (.bool false)], args := [d] }
  | _ => none }
def FnExactFindCertificateWrongFalsely : Prop := fnExactFindCertificateRow.holds Try.pinned (OpenSpec.ofChange fnExactFindCertificateWrong)

/-- 'laws.FnExactMonoidOf': WHATEVER THE INPUT: true; the input reads as it did. -/
def fnExactMonoidOfSpec : ChangeSpec := { name := "fnExactMonoidOf", fn := fun _ => fun
  | [d] => { results := [.lit (.bool true)], args := [d] }
  | _ => none }
def fnExactMonoidOfRow : OpenClaim := { program := "ytocdkeidjocmkaa", sum := "1d28040444a3e232a6957710a5696803bc4e42e7f368d751bd032e0eb4f76185", func := "loop.example/g01102/laws.FnExactMonoidOf", spec := "fnExactMonoidOf", unfollowed := true, recurses := true, plainKeys := false, apart := false }
def FnExactMonoidOfSaid : Prop := fnExactMonoidOfRow.holds Try.pinned (OpenSpec.ofChange fnExactMonoidOfSpec)

/-- ITS FALSE NEIGHBOUR: 'it returns false'. Refute it at one input. -/
def fnExactMonoidOfWrong : ChangeSpec := { name := "fnExactMonoidOf", fn := fun _ => fun
  | [d] => { results := [.lit (.bool false)], args := [d] }
  | _ => none }
def FnExactMonoidOfWrongFalsely : Prop := fnExactMonoidOfRow.holds Try.pinned (OpenSpec.ofChange fnExactMonoidOfWrong)

/-- 'laws.FnExactRenumberingOf': WHATEVER THE INPUT: true; the input reads as it did. -/
def fnExactRenumberingOfSpec : ChangeSpec := { name := "fnExactRenumberingOf", fn := fun _ => fun
  | [d1, d2] => { results := [.lit (.bool true)], args := [d1, d2] }
  | _ => none }
def fnExactRenumberingOfRow : OpenClaim := { program := "ytocdkeidjocmkaa", sum := "1d28040444a3e232a6957710a5696803bc4e42e7f368d751bd032e0eb4f76185", func := "loop.example/g01102/laws.FnExactRenumberingOf", spec := "fnExactRenumberingOf", unfollowed := true, recurses := true, plainKeys := false, apart := false }
def FnExactRenumberingOfSaid : Prop := fnExactRenumberingOfRow.holds Try.pinned (OpenSpec.ofChange fnExactRenumberingOfSpec)

/-- ITS FALSE NEIGHBOUR: 'it returns false'. Refute it at one input. -/
def fnExactRenumberingOfWrong : ChangeSpec := { name := "fnExactRenumberingOf", fn := fun _ => fun
  | [d1, d2] => { results := [.lit (.bool false)], args := [d1, d2] }
  | _ => none }
def FnExactRenumberingOfWrongFalsely : Prop := fnExactRenumberingOfRow.holds Try.pinned (OpenSpec.ofChange fnExactRenumberingOfWrong)

/-- 'laws.FnExactDirectingWord': WHATEVER THE INPUT: true; the input reads as it did. -/
def fnExactDirectingWordSpec : ChangeSpec := { name := "fnExactDirectingWord", fn := fun _ => fun
  | [d1, d2] => { results := [.lit (.bool true)], args := [d1, d2] }
  | _ => none }
def fnExactDirectingWordRow : OpenClaim := { program := "ytocdkeidjocmkaa", sum := "1d28040444a3e232a6957710a5696803bc4e42e7f368d751bd032e0eb4f76185", func := "loop.example/g01102/laws.FnExactDirectingWord", spec := "fnExactDirectingWord", unfollowed := true, recurses := true, plainKeys := false, apart := false }
def FnExactDirectingWordSaid : Prop := fnExactDirectingWordRow.holds Try.pinned (OpenSpec.ofChange fnExactDirectingWordSpec)

/-- ITS FALSE NEIGHBOUR: 'it returns false'. Refute it at one input. -/
def fnExactDirectingWordWrong : ChangeSpec := { name := "fnExactDirectingWord", fn := fun _ => fun
  | [d1, d2] => { results := [.lit (.bool false)], args := [d1, d2] }
  | _ => none }
def FnExactDirectingWordWrongFalsely : Prop := fnExactDirectingWordRow.holds Try.pinned (OpenSpec.ofChange fnExactDirectingWordWrong)

/- THE SECOND FORM. 'bulk': how many values and letters a reading holds, each counted each time it is reached (what is shared counts as often as it is met; a slice's spare places count too). A statement '..UptoSaid' is the law's where the arguments, and the package variables that the reading takes, are together of bulk at most 1048576: NARROWER than '..Said'. Prove '..Said' where nothing that the law and all that it calls make is longer than what came in: it says more and counts as full. Else prove '..UptoSaid'. A law counts once. -/
mutual
def uptoBulk {H : Type} : DataW H → Nat
  | .lit (.string bytes) => bytes.length + 1
  | .lit _ => 1
  | .nil => 1
  | .ptr d => uptoBulk d + 1
  | .slice elems spare => uptoBulkAll elems + uptoBulkAll spare + 1
  | .agg parts => uptoBulkAll parts + 1
  | .iface _ d => uptoBulk d + 1
  | .map entries => uptoBulkEntries entries + 1
  | .held _ => 1
def uptoBulkAll {H : Type} : List (DataW H) → Nat
  | [] => 0
  | d :: r => uptoBulk d + uptoBulkAll r
def uptoBulkEntries {H : Type} : List (Lit × DataW H) → Nat
  | [] => 0
  | x :: r => uptoBulkEntry x + uptoBulkEntries r
def uptoBulkEntry {H : Type} : Lit × DataW H → Nat
  | (.string bytes, d) => bytes.length + uptoBulk d + 1
  | (_, d) => uptoBulk d + 1
 end
def uptoSmall : (H : Type) → List (DataW H) → Bool := fun _ ds => decide (uptoBulkAll ds ≤ 1048576)
def OpenSpec.upto (s : _root_.Go.ChangeSpec) : _root_.Go.OpenSpec := { _root_.Go.OpenSpec.ofChange s with cond := some uptoSmall }

/-- 'laws.FnExactChoiceOf', WHERE WHAT IT READS IS OF BULK AT MOST 1048576: true; the input reads as it did. -/
def fnExactChoiceOfUptoRow : OpenClaim := { program := "ytocdkeidjocmkaa", sum := "1d28040444a3e232a6957710a5696803bc4e42e7f368d751bd032e0eb4f76185", func := "loop.example/g01102/laws.FnExactChoiceOf", spec := "fnExactChoiceOf", unfollowed := true, recurses := true, plainKeys := false, apart := false, narrowed := true }
def FnExactChoiceOfUptoSaid : Prop := fnExactChoiceOfUptoRow.holds Try.pinned (OpenSpec.upto fnExactChoiceOfSpec)

/-- 'laws.FnExactFindCertificate', WHERE WHAT IT READS IS OF BULK AT MOST 1048576: true; the input reads as it did. -/
def fnExactFindCertificateUptoRow : OpenClaim := { program := "ytocdkeidjocmkaa", sum := "1d28040444a3e232a6957710a5696803bc4e42e7f368d751bd032e0eb4f76185", func := "loop.example/g01102/laws.FnExactFindCertificate", spec := "fnExactFindCertificate", unfollowed := true, recurses := true, plainKeys := false, apart := false, narrowed := true }
def FnExactFindCertificateUptoSaid : Prop := fnExactFindCertificateUptoRow.holds Try.pinned (OpenSpec.upto fnExactFindCertificateSpec)

/-- 'laws.FnExactMonoidOf', WHERE WHAT IT READS IS OF BULK AT MOST 1048576: true; the input reads as it did. -/
def fnExactMonoidOfUptoRow : OpenClaim := { program := "ytocdkeidjocmkaa", sum := "1d28040444a3e232a6957710a5696803bc4e42e7f368d751bd032e0eb4f76185", func := "loop.example/g01102/laws.FnExactMonoidOf", spec := "fnExactMonoidOf", unfollowed := true, recurses := true, plainKeys := false, apart := false, narrowed := true }
def FnExactMonoidOfUptoSaid : Prop := fnExactMonoidOfUptoRow.holds Try.pinned (OpenSpec.upto fnExactMonoidOfSpec)

/-- 'laws.FnExactRenumberingOf', WHERE WHAT IT READS IS OF BULK AT MOST 1048576: true; the input reads as it did. -/
def fnExactRenumberingOfUptoRow : OpenClaim := { program := "ytocdkeidjocmkaa", sum := "1d28040444a3e232a6957710a5696803bc4e42e7f368d751bd032e0eb4f76185", func := "loop.example/g01102/laws.FnExactRenumberingOf", spec := "fnExactRenumberingOf", unfollowed := true, recurses := true, plainKeys := false, apart := false, narrowed := true }
def FnExactRenumberingOfUptoSaid : Prop := fnExactRenumberingOfUptoRow.holds Try.pinned (OpenSpec.upto fnExactRenumberingOfSpec)

/-- 'laws.FnExactDirectingWord', WHERE WHAT IT READS IS OF BULK AT MOST 1048576: true; the input reads as it did. -/
def fnExactDirectingWordUptoRow : OpenClaim := { program := "ytocdkeidjocmkaa", sum := "1d28040444a3e232a6957710a5696803bc4e42e7f368d751bd032e0eb4f76185", func := "loop.example/g01102/laws.FnExactDirectingWord", spec := "fnExactDirectingWord", unfollowed := true, recurses := true, plainKeys := false, apart := false, narrowed := true }
def FnExactDirectingWordUptoSaid : Prop := fnExactDirectingWordUptoRow.holds Try.pinned (OpenSpec.upto fnExactDirectingWordSpec)

end Rows
end Go.Proofs.Ytocdkeidjocmkaa
