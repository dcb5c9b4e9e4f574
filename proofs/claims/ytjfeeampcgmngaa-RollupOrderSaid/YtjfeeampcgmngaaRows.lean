/-
  No cell of these rows narrows 'for every input' (looked for: loops, veiled, ifaces, maps, wideKeys, modest, calm, conditions, laid).
  DERIVED. THE GIVEN ROWS OF THIS SEAT. 2 by the template 'for every input the law returns true; each argument reads behind the call as it read before'; 0 by the template 'total and deterministic' (their statements: YtjfeeampcgmngaaTotals.lean).
  GIVEN WITH THE SEED: the statements are not yours to turn. If you find one false, say at which input.
  Laid BY PROGRAM, IN A SANDBOX (cutbox-rows.mjs): the forced cells as the released guide's own fill.sh prints them over the translation 81b92d6aa2afde75… (all of the seat's roots in one cut). By AI agents, Wed Nov 11 2026. No macro, syntax, notation, axiom, sorry.
-/
import Derived.Test.YtjfeeampcgmngaaChecked
import GoSem.Claim
import GoSem.ClaimJoined
import GoSem.ClaimMapViews
import Derived.JoinedTies
import Derived.KernelRfl
namespace Go.Proofs.Ytjfeeampcgmngaa
/- THE CELL 'sum', in the pinned program and in every row, IS THE sha256 OF THE DUMP (.gsa) THAT YtjfeeampcgmngaaProg.lean LOADS. Nothing in Lean hashes anything: it is a label: what it is worth is what the hold of that sum in a sandbox is worth. -/
noncomputable def Try.pinned : Pinned := { name := "ytjfeeampcgmngaa", sum := "81b92d6aa2afde752b92b328ef2805b894cee2f7e0c6176edbae7e3c326e0b10", checked := Try.checked }
namespace Rows
def none {H : Type} : Left H := { results := [], args := [] }

/-- 'spoorlaw15.RollupWide': WHATEVER THE INPUT: true; the input reads as it did. -/
def rollupWideSpec : ChangeSpec := { name := "rollupWide", fn := fun _ => fun
  | [d1, d2, d3, d4] => { results := [.lit (.bool true)], args := [d1, d2, d3, d4] }
  | _ => none }
def rollupWideRow : OpenClaim := { program := "ytjfeeampcgmngaa", sum := "81b92d6aa2afde752b92b328ef2805b894cee2f7e0c6176edbae7e3c326e0b10", func := "spoor/spoorlaw15.RollupWide", spec := "rollupWide", inPlace := ["math/bits.Add64", "math/bits.Sub64"], unfollowed := true, recurses := true, plainKeys := false, apart := false }
def RollupWideSaid : Prop := rollupWideRow.holds Try.pinned (OpenSpec.ofChange rollupWideSpec)

/-- ITS FALSE NEIGHBOUR: 'it returns false'. Refute it at one input. -/
def rollupWideWrong : ChangeSpec := { name := "rollupWide", fn := fun _ => fun
  | [d1, d2, d3, d4] => { results := [.lit (.bool false)], args := [d1, d2, d3, d4] }
  | _ => none }
def RollupWideWrongFalsely : Prop := rollupWideRow.holds Try.pinned (OpenSpec.ofChange rollupWideWrong)

/-- 'spoorlaw15.RollupOrder': WHATEVER THE INPUT: true; the input reads as it did. -/
def rollupOrderSpec : ChangeSpec := { name := "rollupOrder", fn := fun _ => fun
  | [d1, d2, d3] => { results := [.lit (.bool true)], args := [d1, d2, d3] }
  | _ => none }
def rollupOrderRow : OpenClaim := { program := "ytjfeeampcgmngaa", sum := "81b92d6aa2afde752b92b328ef2805b894cee2f7e0c6176edbae7e3c326e0b10", func := "spoor/spoorlaw15.RollupOrder", spec := "rollupOrder", inPlace := ["math/bits.Add64", "math/bits.Sub64"], unfollowed := true, recurses := true, plainKeys := false, apart := false }
def RollupOrderSaid : Prop := rollupOrderRow.holds Try.pinned (OpenSpec.ofChange rollupOrderSpec)

/-- ITS FALSE NEIGHBOUR: 'it returns false'. Refute it at one input. -/
def rollupOrderWrong : ChangeSpec := { name := "rollupOrder", fn := fun _ => fun
  | [d1, d2, d3] => { results := [.lit (.bool false)], args := [d1, d2, d3] }
  | _ => none }
def RollupOrderWrongFalsely : Prop := rollupOrderRow.holds Try.pinned (OpenSpec.ofChange rollupOrderWrong)

/- THE SECOND FORM. 'bulk': how many values and letters a reading holds, each counted each time it is reached (what is shared counts as often as it is met; a slice's spare places count too). A statement '..UptoSaid' is the law's where the arguments, and the package variables that the reading takes, are together of bulk at most 1048576: NARROWER than '..Said'. Prove '..Said' where nothing that the law and all that it calls make is longer than what came in: it says more and counts as full. Else prove '..UptoSaid'. A law counts once. -/
mutual
def uptoBulk {H : Type} : DataW H → Nat
  | .lit (.string bytes) => bytes.length + 1
  | .lit _ => 1
  | .nil => 1
  | .ptr d => uptoBulk d + 1
  | .slice elems spare => uptoBulkAll elems + uptoBulkAll spare + 1
  | .agg parts => uptoBulkAll parts + 1
  | .iface _ d => uptoBulk d + 1
  | .map entries => uptoBulkEntries entries + 1
  | .held _ => 1
def uptoBulkAll {H : Type} : List (DataW H) → Nat
  | [] => 0
  | d :: r => uptoBulk d + uptoBulkAll r
def uptoBulkEntries {H : Type} : List (Lit × DataW H) → Nat
  | [] => 0
  | x :: r => uptoBulkEntry x + uptoBulkEntries r
def uptoBulkEntry {H : Type} : Lit × DataW H → Nat
  | (.string bytes, d) => bytes.length + uptoBulk d + 1
  | (_, d) => uptoBulk d + 1
 end
def uptoSmall : (H : Type) → List (DataW H) → Bool := fun _ ds => decide (uptoBulkAll ds ≤ 1048576)
def OpenSpec.upto (s : _root_.Go.ChangeSpec) : _root_.Go.OpenSpec := { _root_.Go.OpenSpec.ofChange s with cond := some uptoSmall }

/-- 'spoorlaw15.RollupWide', WHERE WHAT IT READS IS OF BULK AT MOST 1048576: true; the input reads as it did. -/
def rollupWideUptoRow : OpenClaim := { program := "ytjfeeampcgmngaa", sum := "81b92d6aa2afde752b92b328ef2805b894cee2f7e0c6176edbae7e3c326e0b10", func := "spoor/spoorlaw15.RollupWide", spec := "rollupWide", inPlace := ["math/bits.Add64", "math/bits.Sub64"], unfollowed := true, recurses := true, plainKeys := false, apart := false, narrowed := true }
def RollupWideUptoSaid : Prop := rollupWideUptoRow.holds Try.pinned (OpenSpec.upto rollupWideSpec)

/-- 'spoorlaw15.RollupOrder', WHERE WHAT IT READS IS OF BULK AT MOST 1048576: true; the input reads as it did. -/
def rollupOrderUptoRow : OpenClaim := { program := "ytjfeeampcgmngaa", sum := "81b92d6aa2afde752b92b328ef2805b894cee2f7e0c6176edbae7e3c326e0b10", func := "spoor/spoorlaw15.RollupOrder", spec := "rollupOrder", inPlace := ["math/bits.Add64", "math/bits.Sub64"], unfollowed := true, recurses := true, plainKeys := false, apart := false, narrowed := true }
def RollupOrderUptoSaid : Prop := rollupOrderUptoRow.holds Try.pinned (OpenSpec.upto rollupOrderSpec)

end Rows
end Go.Proofs.Ytjfeeampcgmngaa
