/-
  No cell of these rows narrows 'for every input' (looked for: loops, veiled, ifaces, maps, wideKeys, modest, calm, conditions, laid).
  DERIVED. THE GIVEN ROWS OF THIS SEAT. 3 by the template 'for every input the law returns true; each argument reads behind the call as it read before'; 0 by the template 'total and deterministic' (their statements: YtnmpafcflfjhgaaGreatTotals.lean).
  GIVEN WITH THE SEED: the statements are not yours to turn. If you find one false, say at which input.
  Laid BY PROGRAM, IN A SANDBOX (cutbox-rows.mjs): the forced cells as the released guide's own fill.sh prints them over the translation 17771cb3beb005f5… (all of the seat's roots in one cut). By AI agents, Wed Nov 11 2026. No macro, syntax, notation, axiom, sorry.
-/
import Derived.Test.YtnmpafcflfjhgaaGreatChecked
import GoSem.Claim
import GoSem.ClaimJoined
import GoSem.ClaimMapViews
import Derived.JoinedTies
import Derived.KernelRfl
namespace Go.Proofs.YtnmpafcflfjhgaaGreat
/- THE CELL 'sum', in the pinned program and in every row, IS THE sha256 OF THE DUMP (.gsa) THAT YtnmpafcflfjhgaaGreatProg.lean LOADS. Nothing in Lean hashes anything: it is a label: what it is worth is what the hold of that sum in a sandbox is worth. -/
noncomputable def Tryz.pinned : Pinned := { name := "ytnmpafcflfjhgaagreat", sum := "17771cb3beb005f57776efacef8de2bed1bdb16969d20e4902a71e8de1103859", checked := Tryz.checked }
namespace Rows
def none {H : Type} : Left H := { results := [], args := [] }

/-- 'broughamlaw23.HostRight': WHATEVER THE INPUT: true; the input reads as it did. -/
def hostRightSpec : ChangeSpec := { name := "hostRight", fn := fun _ => fun
  | [d] => { results := [.lit (.bool true)], args := [d] }
  | _ => none }
def hostRightRow : OpenClaim := { program := "ytnmpafcflfjhgaagreat", sum := "17771cb3beb005f57776efacef8de2bed1bdb16969d20e4902a71e8de1103859", func := "brougham/broughamlaw23.HostRight", spec := "hostRight", inPlace := ["slices.overlaps[brougham/spans.Span]"], unfollowed := true, recurses := true, apart := false }
def HostRightSaid : Prop := hostRightRow.holds Tryz.pinned (OpenSpec.ofChange hostRightSpec)

/-- ITS FALSE NEIGHBOUR: 'it returns false'. Refute it at one input. -/
def hostRightWrong : ChangeSpec := { name := "hostRight", fn := fun _ => fun
  | [d] => { results := [.lit (.bool false)], args := [d] }
  | _ => none }
def HostRightWrongFalsely : Prop := hostRightRow.holds Tryz.pinned (OpenSpec.ofChange hostRightWrong)

/-- 'broughamlaw23.HostAsks': WHATEVER THE INPUT: true; the input reads as it did. -/
def hostAsksSpec : ChangeSpec := { name := "hostAsks", fn := fun _ => fun
  | [d1, d2, d3] => { results := [.lit (.bool true)], args := [d1, d2, d3] }
  | _ => none }
def hostAsksRow : OpenClaim := { program := "ytnmpafcflfjhgaagreat", sum := "17771cb3beb005f57776efacef8de2bed1bdb16969d20e4902a71e8de1103859", func := "brougham/broughamlaw23.HostAsks", spec := "hostAsks", inPlace := ["slices.overlaps[brougham/spans.Span]"], unfollowed := true, recurses := true, apart := false }
def HostAsksSaid : Prop := hostAsksRow.holds Tryz.pinned (OpenSpec.ofChange hostAsksSpec)

/-- ITS FALSE NEIGHBOUR: 'it returns false'. Refute it at one input. -/
def hostAsksWrong : ChangeSpec := { name := "hostAsks", fn := fun _ => fun
  | [d1, d2, d3] => { results := [.lit (.bool false)], args := [d1, d2, d3] }
  | _ => none }
def HostAsksWrongFalsely : Prop := hostAsksRow.holds Tryz.pinned (OpenSpec.ofChange hostAsksWrong)

/-- 'broughamlaw23.HostRefuses': WHATEVER THE INPUT: true; the input reads as it did. -/
def hostRefusesSpec : ChangeSpec := { name := "hostRefuses", fn := fun _ => fun
  | [d1, d2, d3] => { results := [.lit (.bool true)], args := [d1, d2, d3] }
  | _ => none }
def hostRefusesRow : OpenClaim := { program := "ytnmpafcflfjhgaagreat", sum := "17771cb3beb005f57776efacef8de2bed1bdb16969d20e4902a71e8de1103859", func := "brougham/broughamlaw23.HostRefuses", spec := "hostRefuses", inPlace := ["slices.overlaps[brougham/spans.Span]"], unfollowed := true, recurses := true, apart := false }
def HostRefusesSaid : Prop := hostRefusesRow.holds Tryz.pinned (OpenSpec.ofChange hostRefusesSpec)

/-- ITS FALSE NEIGHBOUR: 'it returns false'. Refute it at one input. -/
def hostRefusesWrong : ChangeSpec := { name := "hostRefuses", fn := fun _ => fun
  | [d1, d2, d3] => { results := [.lit (.bool false)], args := [d1, d2, d3] }
  | _ => none }
def HostRefusesWrongFalsely : Prop := hostRefusesRow.holds Tryz.pinned (OpenSpec.ofChange hostRefusesWrong)

/- THE SECOND FORM. 'bulk': how many values and letters a reading holds, each counted each time it is reached (what is shared counts as often as it is met; a slice's spare places count too). A statement '..UptoSaid' is the law's where the arguments, and the package variables that the reading takes, are together of bulk at most 1048576: NARROWER than '..Said'. Prove '..Said' where nothing that the law and all that it calls make is longer than what came in: it says more and counts as full. Else prove '..UptoSaid'. A law counts once. -/
mutual
def uptoBulk {H : Type} : DataW H → Nat
  | .lit (.string bytes) => bytes.length + 1
  | .lit _ => 1
  | .nil => 1
  | .ptr d => uptoBulk d + 1
  | .slice elems spare => uptoBulkAll elems + uptoBulkAll spare + 1
  | .agg parts => uptoBulkAll parts + 1
  | .iface _ d => uptoBulk d + 1
  | .map entries => uptoBulkEntries entries + 1
  | .held _ => 1
def uptoBulkAll {H : Type} : List (DataW H) → Nat
  | [] => 0
  | d :: r => uptoBulk d + uptoBulkAll r
def uptoBulkEntries {H : Type} : List (Lit × DataW H) → Nat
  | [] => 0
  | x :: r => uptoBulkEntry x + uptoBulkEntries r
def uptoBulkEntry {H : Type} : Lit × DataW H → Nat
  | (.string bytes, d) => bytes.length + uptoBulk d + 1
  | (_, d) => uptoBulk d + 1
 end
def uptoSmall : (H : Type) → List (DataW H) → Bool := fun _ ds => decide (uptoBulkAll ds ≤ 1048576)
def OpenSpec.upto (s : _root_.Go.ChangeSpec) : _root_.Go.OpenSpec := { _root_.Go.OpenSpec.ofChange s with cond := some uptoSmall }

/-- 'broughamlaw23.HostRight', WHERE WHAT IT READS IS OF BULK AT MOST 1048576: true; the input reads as it did. -/
def hostRightUptoRow : OpenClaim := { program := "ytnmpafcflfjhgaagreat", sum := "17771cb3beb005f57776efacef8de2bed1bdb16969d20e4902a71e8de1103859", func := "brougham/broughamlaw23.HostRight", spec := "hostRight", inPlace := ["slices.overlaps[brougham/spans.Span]"], unfollowed := true, recurses := true, apart := false, narrowed := true }
def HostRightUptoSaid : Prop := hostRightUptoRow.holds Tryz.pinned (OpenSpec.upto hostRightSpec)

/-- 'broughamlaw23.HostAsks', WHERE WHAT IT READS IS OF BULK AT MOST 1048576: true; the input reads as it did. -/
def hostAsksUptoRow : OpenClaim := { program := "ytnmpafcflfjhgaagreat", sum := "17771cb3beb005f57776efacef8de2bed1bdb16969d20e4902a71e8de1103859", func := "brougham/broughamlaw23.HostAsks", spec := "hostAsks", inPlace := ["slices.overlaps[brougham/spans.Span]"], unfollowed := true, recurses := true, apart := false, narrowed := true }
def HostAsksUptoSaid : Prop := hostAsksUptoRow.holds Tryz.pinned (OpenSpec.upto hostAsksSpec)

/-- 'broughamlaw23.HostRefuses', WHERE WHAT IT READS IS OF BULK AT MOST 1048576: true; the input reads as it did. -/
def hostRefusesUptoRow : OpenClaim := { program := "ytnmpafcflfjhgaagreat", sum := "17771cb3beb005f57776efacef8de2bed1bdb16969d20e4902a71e8de1103859", func := "brougham/broughamlaw23.HostRefuses", spec := "hostRefuses", inPlace := ["slices.overlaps[brougham/spans.Span]"], unfollowed := true, recurses := true, apart := false, narrowed := true }
def HostRefusesUptoSaid : Prop := hostRefusesUptoRow.holds Tryz.pinned (OpenSpec.upto hostRefusesSpec)

end Rows
end Go.Proofs.YtnmpafcflfjhgaaGreat
