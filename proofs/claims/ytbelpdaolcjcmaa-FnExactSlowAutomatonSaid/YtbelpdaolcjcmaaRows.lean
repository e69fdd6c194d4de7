/-
  No cell of these rows narrows 'for every input' (looked for: loops, veiled, ifaces, maps, wideKeys, modest, calm, conditions, laid).
  DERIVED. THE GIVEN ROWS OF THIS SEAT. 11 by the template 'for every input the law returns true; each argument reads behind the call as it read before'; 0 by the template 'total and deterministic' (their statements: YtbelpdaolcjcmaaTotals.lean).
  GIVEN WITH THE SEED: the statements are not yours to turn. If you find one false, say at which input.
  Laid BY PROGRAM, IN A SANDBOX (cutbox-rows.mjs): the forced cells as the released guide's own fill.sh prints them over the translation c80c0a9e621eda38… (all of the seat's roots in one cut). By AI agents, Wed Nov 11 2026. No macro, syntax, notation, axiom, sorry.
-/
import Derived.Test.YtbelpdaolcjcmaaChecked
import GoSem.Claim
import GoSem.ClaimJoined
import GoSem.ClaimMapViews
import Derived.JoinedTies
import Derived.KernelRfl
namespace Go.Proofs.Ytbelpdaolcjcmaa
/- THE CELL 'sum', in the pinned program and in every row, IS THE sha256 OF THE DUMP (.gsa) THAT YtbelpdaolcjcmaaProg.lean LOADS. Nothing in Lean hashes anything: it is a label: what it is worth is what the hold of that sum in a sandbox is worth. -/
noncomputable def Try.pinned : Pinned := { name := "ytbelpdaolcjcmaa", sum := "c80c0a9e621eda38034bd134eb66d0bdfaedf8285ed89a8ac7dc52c39cc626cd", checked := Try.checked }
namespace Rows
def none {H : Type} : Left H := { results := [], args := [] }

/-- 'laws.FnExactConstants': WHATEVER THE INPUT: true; the input reads as it did. -/
def fnExactConstantsSpec : ChangeSpec := { name := "fnExactConstants", fn := fun _ => fun
  | [] => { results := [.lit (.bool true)], args := [] }
  | _ => none }
def fnExactConstantsRow : OpenClaim := { program := "ytbelpdaolcjcmaa", sum := "c80c0a9e621eda38034bd134eb66d0bdfaedf8285ed89a8ac7dc52c39cc626cd", func := "loop.example/g01102/laws.FnExactConstants", spec := "fnExactConstants", apart := false }
def FnExactConstantsSaid : Prop := fnExactConstantsRow.holds Try.pinned (OpenSpec.ofChange fnExactConstantsSpec)

/-- ITS FALSE NEIGHBOUR: 'it returns false'. Refute it at one input. -/
def fnExactConstantsWrong : ChangeSpec := { name := "fnExactConstants", fn := fun _ => fun
  | [] => { results := [.lit (.bool false)], args := [] }
  | _ => none }
def FnExactConstantsWrongFalsely : Prop := fnExactConstantsRow.holds Try.pinned (OpenSpec.ofChange fnExactConstantsWrong)

/-- 'laws.FnExactCodeName': WHATEVER THE INPUT: true; the input reads as it did. -/
def fnExactCodeNameSpec : ChangeSpec := { name := "fnExactCodeName", fn := fun _ => fun
  | [d] => { results := [.lit (.bool true)], args := [d] }
  | _ => none }
def fnExactCodeNameRow : OpenClaim := { program := "ytbelpdaolcjcmaa", sum := "c80c0a9e621eda38034bd134eb66d0bdfaedf8285ed89a8ac7dc52c39cc626cd", func := "loop.example/g01102/laws.FnExactCodeName", spec := "fnExactCodeName", apart := false }
def FnExactCodeNameSaid : Prop := fnExactCodeNameRow.holds Try.pinned (OpenSpec.ofChange fnExactCodeNameSpec)

/-- ITS FALSE NEIGHBOUR: 'it returns false'. Refute it at one input. -/
def fnExactCodeNameWrong : ChangeSpec := { name := "fnExactCodeName", fn := fun _ => fun
  | [d] => { results := [.lit (.bool false)], args := [d] }
  | _ => none }
def FnExactCodeNameWrongFalsely : Prop := fnExactCodeNameRow.holds Try.pinned (OpenSpec.ofChange fnExactCodeNameWrong)

/-- 'laws.FnExactResetBound': WHATEVER THE INPUT: true; the input reads as it did. -/
def fnExactResetBoundSpec : ChangeSpec := { name := "fnExactResetBound", fn := fun _ => fun
  | [d] => { results := [.lit (.bool true)], args := [d] }
  | _ => none }
def fnExactResetBoundRow : OpenClaim := { program := "ytbelpdaolcjcmaa", sum := "c80c0a9e621eda38034bd134eb66d0bdfaedf8285ed89a8ac7dc52c39cc626cd", func := "loop.example/g01102/laws.FnExactResetBound", spec := "fnExactResetBound", apart := false }
def FnExactResetBoundSaid : Prop := fnExactResetBoundRow.holds Try.pinned (OpenSpec.ofChange fnExactResetBoundSpec)

/-- ITS FALSE NEIGHBOUR: 'it returns false'. Refute it at one input. -/
def fnExactResetBoundWrong : ChangeSpec := { name := "fnExactResetBound", fn := fun _ => fun
  | [d] => { results := [.lit (.bool false)], args := [d] }
  | _ => none }
def FnExactResetBoundWrongFalsely : Prop := fnExactResetBoundRow.holds Try.pinned (OpenSpec.ofChange fnExactResetBoundWrong)

/-- 'laws.FnExactWordText': WHATEVER THE INPUT: true; the input reads as it did. -/
def fnExactWordTextSpec : ChangeSpec := { name := "fnExactWordText", fn := fun _ => fun
  | [d] => { results := [.lit (.bool true)], args := [d] }
  | _ => none }
def fnExactWordTextRow : OpenClaim := { program := "ytbelpdaolcjcmaa", sum := "c80c0a9e621eda38034bd134eb66d0bdfaedf8285ed89a8ac7dc52c39cc626cd", func := "loop.example/g01102/laws.FnExactWordText", spec := "fnExactWordText", unfollowed := true, recurses := true, apart := false }
def FnExactWordTextSaid : Prop := fnExactWordTextRow.holds Try.pinned (OpenSpec.ofChange fnExactWordTextSpec)

/-- ITS FALSE NEIGHBOUR: 'it returns false'. Refute it at one input. -/
def fnExactWordTextWrong : ChangeSpec := { name := "fnExactWordText", fn := fun _ => fun
  | [d] => { results := [.lit (.bool false)], args := [d] }
  | _ => none }
def FnExactWordTextWrongFalsely : Prop := fnExactWordTextRow.holds Try.pinned (OpenSpec.ofChange fnExactWordTextWrong)

/-- 'laws.FnExactReadWord': WHATEVER THE INPUT: true; the input reads as it did. -/
def fnExactReadWordSpec : ChangeSpec := { name := "fnExactReadWord", fn := fun _ => fun
  | [d] => { results := [.lit (.bool true)], args := [d] }
  | _ => none }
def fnExactReadWordRow : OpenClaim := { program := "ytbelpdaolcjcmaa", sum := "c80c0a9e621eda38034bd134eb66d0bdfaedf8285ed89a8ac7dc52c39cc626cd", func := "loop.example/g01102/laws.FnExactReadWord", spec := "fnExactReadWord", unfollowed := true, recurses := true, apart := false }
def FnExactReadWordSaid : Prop := fnExactReadWordRow.holds Try.pinned (OpenSpec.ofChange fnExactReadWordSpec)

/-- ITS FALSE NEIGHBOUR: 'it returns false'. Refute it at one input. -/
def fnExactReadWordWrong : ChangeSpec := { name := "fnExactReadWord", fn := fun _ => fun
  | [d] => { results := [.lit (.bool false)], args := [d] }
  | _ => none }
def FnExactReadWordWrongFalsely : Prop := fnExactReadWordRow.holds Try.pinned (OpenSpec.ofChange fnExactReadWordWrong)

/-- 'laws.FnExactSlowAutomaton': WHATEVER THE INPUT: true; the input reads as it did. -/
def fnExactSlowAutomatonSpec : ChangeSpec := { name := "fnExactSlowAutomaton", fn := fun _ => fun
  | [d] => { results := [.lit (.bool true)], args := [d] }
  | _ => none }
def fnExactSlowAutomatonRow : OpenClaim := { program := "ytbelpdaolcjcmaa", sum := "c80c0a9e621eda38034bd134eb66d0bdfaedf8285ed89a8ac7dc52c39cc626cd", func := "loop.example/g01102/laws.FnExactSlowAutomaton", spec := "fnExactSlowAutomaton", apart := false }
def FnExactSlowAutomatonSaid : Prop := fnExactSlowAutomatonRow.holds Try.pinned (OpenSpec.ofChange fnExactSlowAutomatonSpec)

/-- ITS FALSE NEIGHBOUR: 'it returns false'. Refute it at one input. -/
def fnExactSlowAutomatonWrong : ChangeSpec := { name := "fnExactSlowAutomaton", fn := fun _ => fun
  | [d] => { results := [.lit (.bool false)], args := [d] }
  | _ => none }
def FnExactSlowAutomatonWrongFalsely : Prop := fnExactSlowAutomatonRow.holds Try.pinned (OpenSpec.ofChange fnExactSlowAutomatonWrong)

/-- 'laws.FnExactValidAutomaton': WHATEVER THE INPUT: true; the input reads as it did. -/
def fnExactValidAutomatonSpec : ChangeSpec := { name := "fnExactValidAutomaton", fn := fun _ => fun
  | [d] => { results := [.lit (.bool true)], args := [d] }
  | _ => none }
def fnExactValidAutomatonRow : OpenClaim := { program := "ytbelpdaolcjcmaa", sum := "c80c0a9e621eda38034bd134eb66d0bdfaedf8285ed89a8ac7dc52c39cc626cd", func := "loop.example/g01102/laws.FnExactValidAutomaton", spec := "fnExactValidAutomaton", unfollowed := true, recurses := true, apart := false }
def FnExactValidAutomatonSaid : Prop := fnExactValidAutomatonRow.holds Try.pinned (OpenSpec.ofChange fnExactValidAutomatonSpec)

/-- ITS FALSE NEIGHBOUR: 'it returns false'. Refute it at one input. -/
def fnExactValidAutomatonWrong : ChangeSpec := { name := "fnExactValidAutomaton", fn := fun _ => fun
  | [d] => { results := [.lit (.bool false)], args := [d] }
  | _ => none }
def FnExactValidAutomatonWrongFalsely : Prop := fnExactValidAutomatonRow.holds Try.pinned (OpenSpec.ofChange fnExactValidAutomatonWrong)

/-- 'laws.FnExactValidPartial': WHATEVER THE INPUT: true; the input reads as it did. -/
def fnExactValidPartialSpec : ChangeSpec := { name := "fnExactValidPartial", fn := fun _ => fun
  | [d] => { results := [.lit (.bool true)], args := [d] }
  | _ => none }
def fnExactValidPartialRow : OpenClaim := { program := "ytbelpdaolcjcmaa", sum := "c80c0a9e621eda38034bd134eb66d0bdfaedf8285ed89a8ac7dc52c39cc626cd", func := "loop.example/g01102/laws.FnExactValidPartial", spec := "fnExactValidPartial", unfollowed := true, recurses := true, apart := false }
def FnExactValidPartialSaid : Prop := fnExactValidPartialRow.holds Try.pinned (OpenSpec.ofChange fnExactValidPartialSpec)

/-- ITS FALSE NEIGHBOUR: 'it returns false'. Refute it at one input. -/
def fnExactValidPartialWrong : ChangeSpec := { name := "fnExactValidPartial", fn := fun _ => fun
  | [d] => { results := [.lit (.bool false)], args := [d] }
  | _ => none }
def FnExactValidPartialWrongFalsely : Prop := fnExactValidPartialRow.holds Try.pinned (OpenSpec.ofChange fnExactValidPartialWrong)

/-- 'laws.FnExactSameAutomaton': WHATEVER THE INPUT: true; the input reads as it did. -/
def fnExactSameAutomatonSpec : ChangeSpec := { name := "fnExactSameAutomaton", fn := fun _ => fun
  | [d1, d2] => { results := [.lit (.bool true)], args := [d1, d2] }
  | _ => none }
def fnExactSameAutomatonRow : OpenClaim := { program := "ytbelpdaolcjcmaa", sum := "c80c0a9e621eda38034bd134eb66d0bdfaedf8285ed89a8ac7dc52c39cc626cd", func := "loop.example/g01102/laws.FnExactSameAutomaton", spec := "fnExactSameAutomaton", unfollowed := true, recurses := true, apart := false }
def FnExactSameAutomatonSaid : Prop := fnExactSameAutomatonRow.holds Try.pinned (OpenSpec.ofChange fnExactSameAutomatonSpec)

/-- ITS FALSE NEIGHBOUR: 'it returns false'. Refute it at one input. -/
def fnExactSameAutomatonWrong : ChangeSpec := { name := "fnExactSameAutomaton", fn := fun _ => fun
  | [d1, d2] => { results := [.lit (.bool false)], args := [d1, d2] }
  | _ => none }
def FnExactSameAutomatonWrongFalsely : Prop := fnExactSameAutomatonRow.holds Try.pinned (OpenSpec.ofChange fnExactSameAutomatonWrong)

/-- 'laws.FnExactSameRoads': WHATEVER THE INPUT: true; the input reads as it did. -/
def fnExactSameRoadsSpec : ChangeSpec := { name := "fnExactSameRoads", fn := fun _ => fun
  | [d1, d2] => { results := [.lit (.bool true)], args := [d1, d2] }
  | _ => none }
def fnExactSameRoadsRow : OpenClaim := { program := "ytbelpdaolcjcmaa", sum := "c80c0a9e621eda38034bd134eb66d0bdfaedf8285ed89a8ac7dc52c39cc626cd", func := "loop.example/g01102/laws.FnExactSameRoads", spec := "fnExactSameRoads", unfollowed := true, recurses := true, apart := false }
def FnExactSameRoadsSaid : Prop := fnExactSameRoadsRow.holds Try.pinned (OpenSpec.ofChange fnExactSameRoadsSpec)

/-- ITS FALSE NEIGHBOUR: 'it returns false'. Refute it at one input. -/
def fnExactSameRoadsWrong : ChangeSpec := { name := "fnExactSameRoads", fn := fun _ => fun
  | [d1, d2] => { results := [.lit (.bool false)], args := [d1, d2] }
  | _ => none }
def FnExactSameRoadsWrongFalsely : Prop := fnExactSameRoadsRow.holds Try.pinned (OpenSpec.ofChange fnExactSameRoadsWrong)

/-- 'laws.FnExactSamePartial': WHATEVER THE INPUT: true; the input reads as it did. -/
def fnExactSamePartialSpec : ChangeSpec := { name := "fnExactSamePartial", fn := fun _ => fun
  | [d1, d2] => { results := [.lit (.bool true)], args := [d1, d2] }
  | _ => none }
def fnExactSamePartialRow : OpenClaim := { program := "ytbelpdaolcjcmaa", sum := "c80c0a9e621eda38034bd134eb66d0bdfaedf8285ed89a8ac7dc52c39cc626cd", func := "loop.example/g01102/laws.FnExactSamePartial", spec := "fnExactSamePartial", unfollowed := true, recurses := true, apart := false }
def FnExactSamePartialSaid : Prop := fnExactSamePartialRow.holds Try.pinned (OpenSpec.ofChange fnExactSamePartialSpec)

/-- ITS FALSE NEIGHBOUR: 'it returns false'. Refute it at one input. -/
def fnExactSamePartialWrong : ChangeSpec := { name := "fnExactSamePartial", fn := fun _ => fun
  | [d1, d2] => { results := [.lit (.bool false)], args := [d1, d2] }
  | _ => none }
def FnExactSamePartialWrongFalsely : Prop := fnExactSamePartialRow.holds Try.pinned (OpenSpec.ofChange fnExactSamePartialWrong)

/- THE SECOND FORM. 'bulk': how many values and letters a reading holds, each counted each time it is reached (what is shared counts as often as it is met; a slice's spare places count too). A statement '..UptoSaid' is the law's where the arguments, and the package variables that the reading takes, are together of bulk at most 1048576: NARROWER than '..Said'. Prove '..Said' where nothing that the law and all that it calls make is longer than what came in: it says more and counts as full. Else prove '..UptoSaid'. A law counts once. -/
mutual
def uptoBulk {H : Type} : DataW H → Nat
  | .lit (.string bytes) => bytes.length + 1
  | .lit _ => 1
  | .nil => 1
  | .ptr d => uptoBulk d + 1
  | .slice elems spare => uptoBulkAll elems + uptoBulkAll spare + 1
  | .agg parts => uptoBulkAll parts + 1
  | .iface _ d => uptoBulk d + 1
  | .map entries => uptoBulkEntries entries + 1
  | .held _ => 1
def uptoBulkAll {H : Type} : List (DataW H) → Nat
  | [] => 0
  | d :: r => uptoBulk d + uptoBulkAll r
def uptoBulkEntries {H : Type} : List (Lit × DataW H) → Nat
  | [] => 0
  | x :: r => uptoBulkEntry x + uptoBulkEntries r
def uptoBulkEntry {H : Type} : Lit × DataW H → Nat
  | (.string bytes, d) => bytes.length + uptoBulk d + 1
  | (_, d) => uptoBulk d + 1
 end
def uptoSmall : (H : Type) → List (DataW H) → Bool := fun _ ds => decide (uptoBulkAll ds ≤ 1048576)
def OpenSpec.upto (s : _root_.Go.ChangeSpec) : _root_.Go.OpenSpec := { _root_.Go.OpenSpec.ofChange s with cond := some uptoSmall }

/-- 'laws.FnExactConstants', WHERE WHAT IT READS IS OF BULK AT MOST 1048576: true; the input reads as it did. -/
def fnExactConstantsUptoRow : OpenClaim := { program := "ytbelpdaolcjcmaa", sum := "c80c0a9e621eda38034bd134eb66d0bdfaedf8285ed89a8ac7dc52c39cc626cd", func := "loop.example/g01102/laws.FnExactConstants", spec := "fnExactConstants", apart := false, narrowed := true }
def FnExactConstantsUptoSaid : Prop := fnExactConstantsUptoRow.holds Try.pinned (OpenSpec.upto fnExactConstantsSpec)

/-- 'laws.FnExactCodeName', WHERE WHAT IT READS IS OF BULK AT MOST 1048576: true; the input reads as it did. -/
def fnExactCodeNameUptoRow : OpenClaim := { program := "ytbelpdaolcjcmaa", sum := "c80c0a9e621eda38034bd134eb66d0bdfaedf8285ed89a8ac7dc52c39cc626cd", func := "loop.example/g01102/laws.FnExactCodeName", spec := "fnExactCodeName", apart := false, narrowed := true }
def FnExactCodeNameUptoSaid : Prop := fnExactCodeNameUptoRow.holds Try.pinned (OpenSpec.upto fnExactCodeNameSpec)

/-- 'laws.FnExactResetBound', WHERE WHAT IT READS IS OF BULK AT MOST 1048576: true; the input reads as it did. -/
def fnExactResetBoundUptoRow : OpenClaim := { program := "ytbelpdaolcjcmaa", sum := "c80c0a9e621eda38034bd134eb66d0bdfaedf8285ed89a8ac7dc52c39cc626cd", func := "loop.example/g01102/laws.FnExactResetBound", spec := "fnExactResetBound", apart := false, narrowed := true }
def FnExactResetBoundUptoSaid : Prop := fnExactResetBoundUptoRow.holds Try.pinned (OpenSpec.upto fnExactResetBoundSpec)

/-- 'laws.FnExactWordText', WHERE WHAT IT READS IS OF BULK AT MOST 1048576: true; the input reads as it did. -/
def fnExactWordTextUptoRow : OpenClaim := { program := "ytbelpdaolcjcmaa", sum := "c80c0a9e621eda38034bd134eb66d0bdfaedf8285ed89a8ac7dc52c39cc626cd", func := "loop.example/g01102/laws.FnExactWordText", spec := "fnExactWordText", unfollowed := true, recurses := true, apart := false, narrowed := true }
def FnExactWordTextUptoSaid : Prop := fnExactWordTextUptoRow.holds Try.pinned (OpenSpec.upto fnExactWordTextSpec)

/-- 'laws.FnExactReadWord', WHERE WHAT IT READS IS OF BULK AT MOST 1048576: true; the input reads as it did. -/
def fnExactReadWordUptoRow : OpenClaim := { program := "ytbelpdaolcjcmaa", sum := "c80c0a9e621eda38034bd134eb66d0bdfaedf8285ed89a8ac7dc52c39cc626cd", func := "loop.example/g01102/laws.FnExactReadWord", spec := "fnExactReadWord", unfollowed := true, recurses := true, apart := false, narrowed := true }
def FnExactReadWordUptoSaid : Prop := fnExactReadWordUptoRow.holds Try.pinned (OpenSpec.upto fnExactReadWordSpec)

/-- 'laws.FnExactSlowAutomaton', WHERE WHAT IT READS IS OF BULK AT MOST 1048576: true; the input reads as it did. -/
def fnExactSlowAutomatonUptoRow : OpenClaim := { program := "ytbelpdaolcjcmaa", sum := "c80c0a9e621eda38034bd134eb66d0bdfaedf8285ed89a8ac7dc52c39cc626cd", func := "loop.example/g01102/laws.FnExactSlowAutomaton", spec := "fnExactSlowAutomaton", apart := false, narrowed := true }
def FnExactSlowAutomatonUptoSaid : Prop := fnExactSlowAutomatonUptoRow.holds Try.pinned (OpenSpec.upto fnExactSlowAutomatonSpec)

/-- 'laws.FnExactValidAutomaton', WHERE WHAT IT READS IS OF BULK AT MOST 1048576: true; the input reads as it did. -/
def fnExactValidAutomatonUptoRow : OpenClaim := { program := "ytbelpdaolcjcmaa", sum := "c80c0a9e621eda38034bd134eb66d0bdfaedf8285ed89a8ac7dc52c39cc626cd", func := "loop.example/g01102/laws.FnExactValidAutomaton", spec := "fnExactValidAutomaton", unfollowed := true, recurses := true, apart := false, narrowed := true }
def FnExactValidAutomatonUptoSaid : Prop := fnExactValidAutomatonUptoRow.holds Try.pinned (OpenSpec.upto fnExactValidAutomatonSpec)

/-- 'laws.FnExactValidPartial', WHERE WHAT IT READS IS OF BULK AT MOST 1048576: true; the input reads as it did. -/
def fnExactValidPartialUptoRow : OpenClaim := { program := "ytbelpdaolcjcmaa", sum := "c80c0a9e621eda38034bd134eb66d0bdfaedf8285ed89a8ac7dc52c39cc626cd", func := "loop.example/g01102/laws.FnExactValidPartial", spec := "fnExactValidPartial", unfollowed := true, recurses := true, apart := false, narrowed := true }
def FnExactValidPartialUptoSaid : Prop := fnExactValidPartialUptoRow.holds Try.pinned (OpenSpec.upto fnExactValidPartialSpec)

/-- 'laws.FnExactSameAutomaton', WHERE WHAT IT READS IS OF BULK AT MOST 1048576: true; the input reads as it did. -/
def fnExactSameAutomatonUptoRow : OpenClaim := { program := "ytbelpdaolcjcmaa", sum := "c80c0a9e621eda38034bd134eb66d0bdfaedf8285ed89a8ac7dc52c39cc626cd", func := "loop.example/g01102/laws.FnExactSameAutomaton", spec := "fnExactSameAutomaton", unfollowed := true, recurses := true, apart := false, narrowed := true }
def FnExactSameAutomatonUptoSaid : Prop := fnExactSameAutomatonUptoRow.holds Try.pinned (OpenSpec.upto fnExactSameAutomatonSpec)

/-- 'laws.FnExactSameRoads', WHERE WHAT IT READS IS OF BULK AT MOST 1048576: true; the input reads as it did. -/
def fnExactSameRoadsUptoRow : OpenClaim := { program := "ytbelpdaolcjcmaa", sum := "c80c0a9e621eda38034bd134eb66d0bdfaedf8285ed89a8ac7dc52c39cc626cd", func := "loop.example/g01102/laws.FnExactSameRoads", spec := "fnExactSameRoads", unfollowed := true, recurses := true, apart := false, narrowed := true }
def FnExactSameRoadsUptoSaid : Prop := fnExactSameRoadsUptoRow.holds Try.pinned (OpenSpec.upto fnExactSameRoadsSpec)

/-- 'laws.FnExactSamePartial', WHERE WHAT IT READS IS OF BULK AT MOST 1048576: true; the input reads as it did. -/
def fnExactSamePartialUptoRow : OpenClaim := { program := "ytbelpdaolcjcmaa", sum := "c80c0a9e621eda38034bd134eb66d0bdfaedf8285ed89a8ac7dc52c39cc626cd", func := "loop.example/g01102/laws.FnExactSamePartial", spec := "fnExactSamePartial", unfollowed := true, recurses := true, apart := false, narrowed := true }
def FnExactSamePartialUptoSaid : Prop := fnExactSamePartialUptoRow.holds Try.pinned (OpenSpec.upto fnExactSamePartialSpec)

end Rows
end Go.Proofs.Ytbelpdaolcjcmaa
