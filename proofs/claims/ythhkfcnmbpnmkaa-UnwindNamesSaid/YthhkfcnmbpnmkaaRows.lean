/-
  No cell of these rows narrows 'for every input' (looked for: loops, veiled, ifaces, maps, wideKeys, modest, calm, conditions, laid).
  DERIVED. THE GIVEN ROWS OF THIS SEAT. 5 by the template 'for every input the law returns true; each argument reads behind the call as it read before'; 0 by the template 'total and deterministic' (their statements: YthhkfcnmbpnmkaaTotals.lean).
  GIVEN WITH THE SEED: the statements are not yours to turn. If you find one false, say at which input.
  Laid BY PROGRAM, IN A SANDBOX (cutbox-rows.mjs): the forced cells as the released guide's own fill.sh prints them over the translation 18b3b12a25c2a53c… (all of the seat's roots in one cut). By AI agents, Wed Nov 11 2026. No macro, syntax, notation, axiom, sorry.
-/
import Derived.Test.YthhkfcnmbpnmkaaChecked
import GoSem.Claim
import GoSem.ClaimJoined
import GoSem.ClaimMapViews
import Derived.JoinedTies
import Derived.KernelRfl
namespace Go.Proofs.Ythhkfcnmbpnmkaa
/- THE CELL 'sum', in the pinned program and in every row, IS THE sha256 OF THE DUMP (.gsa) THAT YthhkfcnmbpnmkaaProg.lean LOADS. Nothing in Lean hashes anything: it is a label: what it is worth is what the hold of that sum in a sandbox is worth. -/
noncomputable def Try.pinned : Pinned := { name := "ythhkfcnmbpnmkaa", sum := "18b3b12a25c2a53ca60b6bdd2ffe4fc6f2925c7d31e4801012051050a788eb54", checked := Try.checked }
namespace Rows
def none {H : Type} : Left H := { results := [], args := [] }

/-- 'backstaylaw18.UnwindEnds': WHATEVER THE INPUT: true; the input reads as it did. -/
def unwindEndsSpec : ChangeSpec := { name := "unwindEnds", fn := fun _ => fun
  | [d1, d2] => { results := [.lit (.bool true)], args := [d1, d2] }
  | _ => none }
def unwindEndsRow : OpenClaim := { program := "ythhkfcnmbpnmkaa", sum := "18b3b12a25c2a53ca60b6bdd2ffe4fc6f2925c7d31e4801012051050a788eb54", func := "backstay/backstaylaw18.UnwindEnds", spec := "unwindEnds", unfollowed := true, recurses := true, apart := false }
def UnwindEndsSaid : Prop := unwindEndsRow.holds Try.pinned (OpenSpec.ofChange unwindEndsSpec)

/-- ITS FALSE NEIGHBOUR: 'it returns false'. Refute it at one input. -/
def unwindEndsWrong : ChangeSpec := { name := "unwindEnds", fn := fun _ => fun
  | [d1, d2] => { results := [.lit (.bool false)], args := [d1, d2] }
  | _ => none }
def UnwindEndsWrongFalsely : Prop := unwindEndsRow.holds Try.pinned (OpenSpec.ofChange unwindEndsWrong)

/-- 'backstaylaw18.UnwindOnce': WHATEVER THE INPUT: true; the input reads as it did. -/
def unwindOnceSpec : ChangeSpec := { name := "unwindOnce", fn := fun _ => fun
  | [d1, d2] => { results := [.lit (.bool true)], args := [d1, d2] }
  | _ => none }
def unwindOnceRow : OpenClaim := { program := "ythhkfcnmbpnmkaa", sum := "18b3b12a25c2a53ca60b6bdd2ffe4fc6f2925c7d31e4801012051050a788eb54", func := "backstay/backstaylaw18.UnwindOnce", spec := "unwindOnce", unfollowed := true, recurses := true, apart := false }
def UnwindOnceSaid : Prop := unwindOnceRow.holds Try.pinned (OpenSpec.ofChange unwindOnceSpec)

/-- ITS FALSE NEIGHBOUR: 'it returns false'. Refute it at one input. -/
def unwindOnceWrong : ChangeSpec := { name := "unwindOnce", fn := fun _ => fun
  | [d1, d2] => { results := [.lit (.bool false)], args := [d1, d2] }
  | _ => none }
def UnwindOnceWrongFalsely : Prop := unwindOnceRow.holds Try.pinned (OpenSpec.ofChange unwindOnceWrong)

/-- 'backstaylaw18.UnwindChains': WHATEVER THE INPUT: true; the input reads as it did. -/
def unwindChainsSpec : ChangeSpec := { name := "unwindChains", fn := fun _ => fun
  | [d1, d2] => { results := [.lit (.bool true)], args := [d1, d2] }
  | _ => none }
def unwindChainsRow : OpenClaim := { program := "ythhkfcnmbpnmkaa", sum := "18b3b12a25c2a53ca60b6bdd2ffe4fc6f2925c7d31e4801012051050a788eb54", func := "backstay/backstaylaw18.UnwindChains", spec := "unwindChains", unfollowed := true, recurses := true, apart := false }
def UnwindChainsSaid : Prop := unwindChainsRow.holds Try.pinned (OpenSpec.ofChange unwindChainsSpec)

/-- ITS FALSE NEIGHBOUR: 'it returns false'. Refute it at one input. -/
def unwindChainsWrong : ChangeSpec := { name := "unwindChains", fn := fun _ => fun
  | [d1, d2] => { results := [.lit (.bool false)], args := [d1, d2] }
  | _ => none }
def UnwindChainsWrongFalsely : Prop := unwindChainsRow.holds Try.pinned (OpenSpec.ofChange unwindChainsWrong)

/-- 'backstaylaw18.UnwindRecovers': WHATEVER THE INPUT: true; the input reads as it did. -/
def unwindRecoversSpec : ChangeSpec := { name := "unwindRecovers", fn := fun _ => fun
  | [d1, d2] => { results := [.lit (.bool true)], args := [d1, d2] }
  | _ => none }
def unwindRecoversRow : OpenClaim := { program := "ythhkfcnmbpnmkaa", sum := "18b3b12a25c2a53ca60b6bdd2ffe4fc6f2925c7d31e4801012051050a788eb54", func := "backstay/backstaylaw18.UnwindRecovers", spec := "unwindRecovers", unfollowed := true, recurses := true, apart := false }
def UnwindRecoversSaid : Prop := unwindRecoversRow.holds Try.pinned (OpenSpec.ofChange unwindRecoversSpec)

/-- ITS FALSE NEIGHBOUR: 'it returns false'. Refute it at one input. -/
def unwindRecoversWrong : ChangeSpec := { name := "unwindRecovers", fn := fun _ => fun
  | [d1, d2] => { results := [.lit (.bool false)], args := [d1, d2] }
  | _ => none }
def UnwindRecoversWrongFalsely : Prop := unwindRecoversRow.holds Try.pinned (OpenSpec.ofChange unwindRecoversWrong)

/-- 'backstaylaw18.UnwindNames': WHATEVER THE INPUT: true; the input reads as it did. -/
def unwindNamesSpec : ChangeSpec := { name := "unwindNames", fn := fun _ => fun
  | [] => { results := [.lit (.bool true)], args := [] }
  | _ => none }
def unwindNamesRow : OpenClaim := { program := "ythhkfcnmbpnmkaa", sum := "18b3b12a25c2a53ca60b6bdd2ffe4fc6f2925c7d31e4801012051050a788eb54", func := "backstay/backstaylaw18.UnwindNames", spec := "unwindNames", unfollowed := true, recurses := true, apart := false }
def UnwindNamesSaid : Prop := unwindNamesRow.holds Try.pinned (OpenSpec.ofChange unwindNamesSpec)

/-- ITS FALSE NEIGHBOUR: 'it returns false'. Refute it at one input. -/
def unwindNamesWrong : ChangeSpec := { name := "unwindNames", fn := fun _ => fun
  | [] => { results := [.lit (.bool false)], args := [] }
  | _ => none }
def UnwindNamesWrongFalsely : Prop := unwindNamesRow.holds Try.pinned (OpenSpec.ofChange unwindNamesWrong)

/- THE SECOND FORM. 'bulk': how many values and letters a reading holds, each counted each time it is reached (what is shared counts as often as it is met; a slice's spare places count too). A statement '..UptoSaid' is the law's where the arguments, and the package variables that the reading takes, are together of bulk at most 1048576: NARROWER than '..Said'. Prove '..Said' where nothing that the law and all that it calls make is longer than what came in: it says more and counts as full. Else prove '..UptoSaid'. A law counts once. -/
mutual
def uptoBulk {H : Type} : DataW H → Nat
  | .lit (.string bytes) => bytes.length + 1
  | .lit _ => 1
  | .nil => 1
  | .ptr d => uptoBulk d + 1
  | .slice elems spare => uptoBulkAll elems + uptoBulkAll spare + 1
  | .agg parts => uptoBulkAll parts + 1
  | .iface _ d => uptoBulk d + 1
  | .map entries => uptoBulkEntries entries + 1
  | .held _ => 1
def uptoBulkAll {H : Type} : List (DataW H) → Nat
  | [] => 0
  | d :: r => uptoBulk d + uptoBulkAll r
def uptoBulkEntries {H : Type} : List (Lit × DataW H) → Nat
  | [] => 0
  | x :: r => uptoBulkEntry x + uptoBulkEntries r
def uptoBulkEntry {H : Type} : Lit × DataW H → Nat
  | (.string bytes, d) => bytes.length + uptoBulk d + 1
  | (_, d) => uptoBulk d + 1
 end
def uptoSmall : (H : Type) → List (DataW H) → Bool := fun _ ds => decide (uptoBulkAll ds ≤ 1048576)
def OpenSpec.upto (s : _root_.Go.ChangeSpec) : _root_.Go.OpenSpec := { _root_.Go.OpenSpec.ofChange s with cond := some uptoSmall }

/-- 'backstaylaw18.UnwindEnds', WHERE WHAT IT READS IS OF BULK AT MOST 1048576: true; the input reads as it did. -/
def unwindEndsUptoRow : OpenClaim := { program := "ythhkfcnmbpnmkaa", sum := "18b3b12a25c2a53ca60b6bdd2ffe4fc6f2925c7d31e4801012051050a788eb54", func := "backstay/backstaylaw18.UnwindEnds", spec := "unwindEnds", unfollowed := true, recurses := true, apart := false, narrowed := true }
def UnwindEndsUptoSaid : Prop := unwindEndsUptoRow.holds Try.pinned (OpenSpec.upto unwindEndsSpec)

/-- 'backstaylaw18.UnwindOnce', WHERE WHAT IT READS IS OF BULK AT MOST 1048576: true; the input reads as it did. -/
def unwindOnceUptoRow : OpenClaim := { program := "ythhkfcnmbpnmkaa", sum := "18b3b12a25c2a53ca60b6bdd2ffe4fc6f2925c7d31e4801012051050a788eb54", func := "backstay/backstaylaw18.UnwindOnce", spec := "unwindOnce", unfollowed := true, recurses := true, apart := false, narrowed := true }
def UnwindOnceUptoSaid : Prop := unwindOnceUptoRow.holds Try.pinned (OpenSpec.upto unwindOnceSpec)

/-- 'backstaylaw18.UnwindChains', WHERE WHAT IT READS IS OF BULK AT MOST 1048576: true; the input reads as it did. -/
def unwindChainsUptoRow : OpenClaim := { program := "ythhkfcnmbpnmkaa", sum := "18b3b12a25c2a53ca60b6bdd2ffe4fc6f2925c7d31e4801012051050a788eb54", func := "backstay/backstaylaw18.UnwindChains", spec := "unwindChains", unfollowed := true, recurses := true, apart := false, narrowed := true }
def UnwindChainsUptoSaid : Prop := unwindChainsUptoRow.holds Try.pinned (OpenSpec.upto unwindChainsSpec)

/-- 'backstaylaw18.UnwindRecovers', WHERE WHAT IT READS IS OF BULK AT MOST 1048576: true; the input reads as it did. -/
def unwindRecoversUptoRow : OpenClaim := { program := "ythhkfcnmbpnmkaa", sum := "18b3b12a25c2a53ca60b6bdd2ffe4fc6f2925c7d31e4801012051050a788eb54", func := "backstay/backstaylaw18.UnwindRecovers", spec := "unwindRecovers", unfollowed := true, recurses := true, apart := false, narrowed := true }
def UnwindRecoversUptoSaid : Prop := unwindRecoversUptoRow.holds Try.pinned (OpenSpec.upto unwindRecoversSpec)

/-- 'backstaylaw18.UnwindNames', WHERE WHAT IT READS IS OF BULK AT MOST 1048576: true; the input reads as it did. -/
def unwindNamesUptoRow : OpenClaim := { program := "ythhkfcnmbpnmkaa", sum := "18b3b12a25c2a53ca60b6bdd2ffe4fc6f2925c7d31e4801012051050a788eb54", func := "backstay/backstaylaw18.UnwindNames", spec := "unwindNames", unfollowed := true, recurses := true, apart := false, narrowed := true }
def UnwindNamesUptoSaid : Prop := unwindNamesUptoRow.holds Try.pinned (OpenSpec.upto unwindNamesSpec)

end Rows
end Go.Proofs.Ythhkfcnmbpnmkaa
