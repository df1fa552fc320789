/-
  No cell of these rows narrows 'for every input' (looked for: loops, veiled, ifaces, maps, wideKeys, modest, calm, conditions, laid).
  DERIVED. THE GIVEN ROWS OF THIS SEAT. 4 by the template 'for every input the law returns true; each argument reads behind the call as it read before'; 0 by the template 'total and deterministic' (their statements: YthalpbbjcagnnaaTotals.lean).
  GIVEN WITH THE SEED: the statements are not yours to turn. If you find one false, say at which input.
  Laid BY PROGRAM, IN A SANDBOX (cutbox-rows.mjs): the forced cells as the released guide's own fill.sh prints them over the translation bca807592508ef17… (all of the seat's roots in one cut). By AI agents, Wed Nov 11 2026. No macro, syntax, notation, axiom, sorry.
-/
import Derived.Test.YthalpbbjcagnnaaChecked
import GoSem.Claim
import GoSem.ClaimJoined
import GoSem.ClaimMapViews
import Derived.JoinedTies
import Derived.KernelRfl
namespace Go.Proofs.Ythalpbbjcagnnaa
/- THE CELL 'sum', in the pinned program and in every row, IS THE sha256 OF THE DUMP (.gsa) THAT YthalpbbjcagnnaaProg.lean LOADS. Nothing in Lean hashes anything: it is a label: what it is worth is what the hold of that sum in a sandbox is worth. -/
noncomputable def Try.pinned : Pinned := { name := "ythalpbbjcagnnaa", sum := "bca807592508ef17cf8eadb81c0aa4a0b1dc1821d786e0255bca758339305eab", checked := Try.checked }
namespace Rows
def none {H : Type} : Left H := { results := [], args := [] }

/-- 'damierlaw28.RegsOwn': WHATEVER THE INPUT: true; the input reads as it did. -/
def regsOwnSpec : ChangeSpec := { name := "regsOwn", fn := fun _ => fun
  | [d1, d2] => { results := [.lit (.bool true)], args := [d1, d2] }
  | _ => none }
def regsOwnRow : OpenClaim := { program := "ythalpbbjcagnnaa", sum := "bca807592508ef17cf8eadb81c0aa4a0b1dc1821d786e0255bca758339305eab", func := "damier/damierlaw28.RegsOwn", spec := "regsOwn", apart := false }
def RegsOwnSaid : Prop := regsOwnRow.holds Try.pinned (OpenSpec.ofChange regsOwnSpec)

/-- ITS FALSE NEIGHBOUR: 'it returns false'. Refute it at one input. -/
def regsOwnWrong : ChangeSpec := { name := "regsOwn", fn := fun _ => fun
  | [d1, d2] => { results := [.lit (.bool false)], args := [d1, d2] }
  | _ => none }
def RegsOwnWrongFalsely : Prop := regsOwnRow.holds Try.pinned (OpenSpec.ofChange regsOwnWrong)

/-- 'damierlaw28.RegsPlay': WHATEVER THE INPUT: true; the input reads as it did. -/
def regsPlaySpec : ChangeSpec := { name := "regsPlay", fn := fun _ => fun
  | [d] => { results := [.lit (.bool true)], args := [d] }
  | _ => none }
def regsPlayRow : OpenClaim := { program := "ythalpbbjcagnnaa", sum := "bca807592508ef17cf8eadb81c0aa4a0b1dc1821d786e0255bca758339305eab", func := "damier/damierlaw28.RegsPlay", spec := "regsPlay", apart := false }
def RegsPlaySaid : Prop := regsPlayRow.holds Try.pinned (OpenSpec.ofChange regsPlaySpec)

/-- ITS FALSE NEIGHBOUR: 'it returns false'. Refute it at one input. -/
def regsPlayWrong : ChangeSpec := { name := "regsPlay", fn := fun _ => fun
  | [d] => { results := [.lit (.bool false)], args := [d] }
  | _ => none }
def RegsPlayWrongFalsely : Prop := regsPlayRow.holds Try.pinned (OpenSpec.ofChange regsPlayWrong)

/-- 'damierlaw28.RegsNil': WHATEVER THE INPUT: true; the input reads as it did. -/
def regsNilSpec : ChangeSpec := { name := "regsNil", fn := fun _ => fun
  | [d1, d2] => { results := [.lit (.bool true)], args := [d1, d2] }
  | _ => none }
def regsNilRow : OpenClaim := { program := "ythalpbbjcagnnaa", sum := "bca807592508ef17cf8eadb81c0aa4a0b1dc1821d786e0255bca758339305eab", func := "damier/damierlaw28.RegsNil", spec := "regsNil", apart := false }
def RegsNilSaid : Prop := regsNilRow.holds Try.pinned (OpenSpec.ofChange regsNilSpec)

/-- ITS FALSE NEIGHBOUR: 'it returns false'. Refute it at one input. -/
def regsNilWrong : ChangeSpec := { name := "regsNil", fn := fun _ => fun
  | [d1, d2] => { results := [.lit (.bool false)], args := [d1, d2] }
  | _ => none }
def RegsNilWrongFalsely : Prop := regsNilRow.holds Try.pinned (OpenSpec.ofChange regsNilWrong)

/-- 'damierlaw28.RegsSame': WHATEVER THE INPUT: true; the input reads as it did. -/
def regsSameSpec : ChangeSpec := { name := "regsSame", fn := fun _ => fun
  | [d1, d2] => { results := [.lit (.bool true)], args := [d1, d2] }
  | _ => none }
def regsSameRow : OpenClaim := { program := "ythalpbbjcagnnaa", sum := "bca807592508ef17cf8eadb81c0aa4a0b1dc1821d786e0255bca758339305eab", func := "damier/damierlaw28.RegsSame", spec := "regsSame", unfollowed := true, recurses := true, apart := false }
def RegsSameSaid : Prop := regsSameRow.holds Try.pinned (OpenSpec.ofChange regsSameSpec)

/-- ITS FALSE NEIGHBOUR: 'it returns false'. Refute it at one input. -/
def regsSameWrong : ChangeSpec := { name := "regsSame", fn := fun _ => fun
  | [d1, d2] => { results := [.lit (.bool false)], args := [d1, d2] }
  | _ => none }
def RegsSameWrongFalsely : Prop := regsSameRow.holds Try.pinned (OpenSpec.ofChange regsSameWrong)

/- THE SECOND FORM. 'bulk': how many values and letters a reading holds, each counted each time it is reached (what is shared counts as often as it is met; a slice's spare places count too). A statement '..UptoSaid' is the law's where the arguments, and the package variables that the reading takes, are together of bulk at most 1048576: NARROWER than '..Said'. Prove '..Said' where nothing that the law and all that it calls make is longer than what came in: it says more and counts as full. Else prove '..UptoSaid'. A law counts once. -/
mutual
def uptoBulk {H : Type} : DataW H → Nat
  | .lit (.string bytes) => bytes.length + 1
  | .lit _ => 1
  | .nil => 1
  | .ptr d => uptoBulk d + 1
  | .slice elems spare => uptoBulkAll elems + uptoBulkAll spare + 1
  | .agg parts => uptoBulkAll parts + 1
  | .iface _ d => uptoBulk d + 1
  | .map entries => uptoBulkEntries entries + 1
  | .held _ => 1
def uptoBulkAll {H : Type} : List (DataW H) → Nat
  | [] => 0
  | d :: r => uptoBulk d + uptoBulkAll r
def uptoBulkEntries {H : Type} : List (Lit × DataW H) → Nat
  | [] => 0
  | x :: r => uptoBulkEntry x + uptoBulkEntries r
def uptoBulkEntry {H : Type} : Lit × DataW H → Nat
  | (.string bytes, d) => bytes.length + uptoBulk d + 1
  | (_, d) => uptoBulk d + 1
 end
def uptoSmall : (H : Type) → List (DataW H) → Bool := fun _ ds => decide (uptoBulkAll ds ≤ 1048576)
def OpenSpec.upto (s : _root_.Go.ChangeSpec) : _root_.Go.OpenSpec := { _root_.Go.OpenSpec.ofChange s with cond := some uptoSmall }

/-- 'damierlaw28.RegsOwn', WHERE WHAT IT READS IS OF BULK AT MOST 1048576: true; the input reads as it did. -/
def regsOwnUptoRow : OpenClaim := { program := "ythalpbbjcagnnaa", sum := "bca807592508ef17cf8eadb81c0aa4a0b1dc1821d786e0255bca758339305eab", func := "damier/damierlaw28.RegsOwn", spec := "regsOwn", apart := false, narrowed := true }
def RegsOwnUptoSaid : Prop := regsOwnUptoRow.holds Try.pinned (OpenSpec.upto regsOwnSpec)

/-- 'damierlaw28.RegsPlay', WHERE WHAT IT READS IS OF BULK AT MOST 1048576: true; the input reads as it did. -/
def regsPlayUptoRow : OpenClaim := { program := "ythalpbbjcagnnaa", sum := "bca807592508ef17cf8eadb81c0aa4a0b1dc1821d786e0255bca758339305eab", func := "damier/damierlaw28.RegsPlay", spec := "regsPlay", apart := false, narrowed := true }
def RegsPlayUptoSaid : Prop := regsPlayUptoRow.holds Try.pinned (OpenSpec.upto regsPlaySpec)

/-- 'damierlaw28.RegsNil', WHERE WHAT IT READS IS OF BULK AT MOST 1048576: true; the input reads as it did. -/
def regsNilUptoRow : OpenClaim := { program := "ythalpbbjcagnnaa", sum := "bca807592508ef17cf8eadb81c0aa4a0b1dc1821d786e0255bca758339305eab", func := "damier/damierlaw28.RegsNil", spec := "regsNil", apart := false, narrowed := true }
def RegsNilUptoSaid : Prop := regsNilUptoRow.holds Try.pinned (OpenSpec.upto regsNilSpec)

/-- 'damierlaw28.RegsSame', WHERE WHAT IT READS IS OF BULK AT MOST 1048576: true; the input reads as it did. -/
def regsSameUptoRow : OpenClaim := { program := "ythalpbbjcagnnaa", sum := "bca807592508ef17cf8eadb81c0aa4a0b1dc1821d786e0255bca758339305eab", func := "damier/damierlaw28.RegsSame", spec := "regsSame", unfollowed := true, recurses := true, apart := false, narrowed := true }
def RegsSameUptoSaid : Prop := regsSameUptoRow.holds Try.pinned (OpenSpec.upto regsSameSpec)

end Rows
end Go.Proofs.Ythalpbbjcagnnaa
