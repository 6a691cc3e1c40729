/-
  No cell of these rows narrows 'for every input' (looked for: loops, veiled, ifaces, maps, wideKeys, modest, calm, conditions, laid).
  DERIVED. THE GIVEN ROWS OF THIS SEAT. 3 by the template 'for every input the law returns true; each argument reads behind the call as it read before'; 0 by the template 'total and deterministic' (their statements: YtephnmmbmacbfaaTotals.lean).
  GIVEN WITH THE SEED: the statements are not yours to turn. If you find one false, say at which input.
  Laid BY PROGRAM, IN A SANDBOX (cutbox-rows.mjs): the forced cells as the released guide's own fill.sh prints them over the translation bfcee161804602f5… (all of the seat's roots in one cut). By AI agents, Wed Nov 11 2026. No macro, syntax, notation, axiom, sorry.
-/
import Derived.Test.YtephnmmbmacbfaaChecked
import GoSem.Claim
import GoSem.ClaimJoined
import GoSem.ClaimMapViews
import Derived.JoinedTies
import Derived.KernelRfl
namespace Go.Proofs.Ytephnmmbmacbfaa
/- THE CELL 'sum', in the pinned program and in every row, IS THE sha256 OF THE DUMP (.gsa) THAT YtephnmmbmacbfaaProg.lean LOADS. Nothing in Lean hashes anything: it is a label: what it is worth is what the hold of that sum in a sandbox is worth. -/
noncomputable def Try.pinned : Pinned := { name := "ytephnmmbmacbfaa", sum := "bfcee161804602f55842263dbf30daf6d958aafdf99b502cfbca359e012e0799", checked := Try.checked }
namespace Rows
def none {H : Type} : Left H := { results := [], args := [] }

/-- 'coldframelaw43.ChunkCuts': WHATEVER THE INPUT: true; the input reads as it did. -/
def chunkCutsSpec : ChangeSpec := { name := "chunkCuts", fn := fun _ => fun
  | [d1, d2, d3] => { results := [.lit (.bool true)], args := [d1, d2, d3] }
  | _ => none }
def chunkCutsRow : OpenClaim := { program := "ytephnmmbmacbfaa", sum := "bfcee161804602f55842263dbf30daf6d958aafdf99b502cfbca359e012e0799", func := "coldframe/coldframelaw43.ChunkCuts", spec := "chunkCuts", unfollowed := true, recurses := true, apart := false }
def ChunkCutsSaid : Prop := chunkCutsRow.holds Try.pinned (OpenSpec.ofChange chunkCutsSpec)

/-- ITS FALSE NEIGHBOUR: 'it returns false'. Refute it at one input. -/
def chunkCutsWrong : ChangeSpec := { name := "chunkCuts", fn := fun _ => fun
  | [d1, d2, d3] => { results := [.lit (.bool false)], args := [d1, d2, d3] }
  | _ => none }
def ChunkCutsWrongFalsely : Prop := chunkCutsRow.holds Try.pinned (OpenSpec.ofChange chunkCutsWrong)

/-- 'coldframelaw43.ChunkMakes': WHATEVER THE INPUT: true; the input reads as it did. -/
def chunkMakesSpec : ChangeSpec := { name := "chunkMakes", fn := fun _ => fun
  | [d1, d2, d3, d4] => { results := [.lit (.bool true)], args := [d1, d2, d3, d4] }
  | _ => none }
def chunkMakesRow : OpenClaim := { program := "ytephnmmbmacbfaa", sum := "bfcee161804602f55842263dbf30daf6d958aafdf99b502cfbca359e012e0799", func := "coldframe/coldframelaw43.ChunkMakes", spec := "chunkMakes", unfollowed := true, recurses := true, apart := false }
def ChunkMakesSaid : Prop := chunkMakesRow.holds Try.pinned (OpenSpec.ofChange chunkMakesSpec)

/-- ITS FALSE NEIGHBOUR: 'it returns false'. Refute it at one input. -/
def chunkMakesWrong : ChangeSpec := { name := "chunkMakes", fn := fun _ => fun
  | [d1, d2, d3, d4] => { results := [.lit (.bool false)], args := [d1, d2, d3, d4] }
  | _ => none }
def ChunkMakesWrongFalsely : Prop := chunkMakesRow.holds Try.pinned (OpenSpec.ofChange chunkMakesWrong)

/-- 'coldframelaw43.ChunkShares': WHATEVER THE INPUT: true; the input reads as it did. -/
def chunkSharesSpec : ChangeSpec := { name := "chunkShares", fn := fun _ => fun
  | [d1, d2, d3, d4] => { results := [.lit (.bool true)], args := [d1, d2, d3, d4] }
  | _ => none }
def chunkSharesRow : OpenClaim := { program := "ytephnmmbmacbfaa", sum := "bfcee161804602f55842263dbf30daf6d958aafdf99b502cfbca359e012e0799", func := "coldframe/coldframelaw43.ChunkShares", spec := "chunkShares", unfollowed := true, recurses := true, apart := false }
def ChunkSharesSaid : Prop := chunkSharesRow.holds Try.pinned (OpenSpec.ofChange chunkSharesSpec)

/-- ITS FALSE NEIGHBOUR: 'it returns false'. Refute it at one input. -/
def chunkSharesWrong : ChangeSpec := { name := "chunkShares", fn := fun _ => fun
  | [d1, d2, d3, d4] => { results := [.lit (.bool false)], args := [d1, d2, d3, d4] }
  | _ => none }
def ChunkSharesWrongFalsely : Prop := chunkSharesRow.holds Try.pinned (OpenSpec.ofChange chunkSharesWrong)

/- THE SECOND FORM. 'bulk': how many values and letters a reading holds, each counted each time it is reached (what is shared counts as often as it is met; a slice's spare places count too). A statement '..UptoSaid' is the law's where the arguments, and the package variables that the reading takes, are together of bulk at most 1048576: NARROWER than '..Said'. Prove '..Said' where nothing that the law and all that it calls make is longer than what came in: it says more and counts as full. Else prove '..UptoSaid'. A law counts once. -/
mutual
def uptoBulk {H : Type} : DataW H → Nat
  | .lit (.string bytes) => bytes.length + 1
  | .lit _ => 1
  | .nil => 1
  | .ptr d => uptoBulk d + 1
  | .slice elems spare => uptoBulkAll elems + uptoBulkAll spare + 1
  | .agg parts => uptoBulkAll parts + 1
  | .iface _ d => uptoBulk d + 1
  | .map entries => uptoBulkEntries entries + 1
  | .held _ => 1
def uptoBulkAll {H : Type} : List (DataW H) → Nat
  | [] => 0
  | d :: r => uptoBulk d + uptoBulkAll r
def uptoBulkEntries {H : Type} : List (Lit × DataW H) → Nat
  | [] => 0
  | x :: r => uptoBulkEntry x + uptoBulkEntries r
def uptoBulkEntry {H : Type} : Lit × DataW H → Nat
  | (.string bytes, d) => bytes.length + uptoBulk d + 1
  | (_, d) => uptoBulk d + 1
 end
def uptoSmall : (H : Type) → List (DataW H) → Bool := fun _ ds => decide (uptoBulkAll ds ≤ 1048576)
def OpenSpec.upto (s : _root_.Go.ChangeSpec) : _root_.Go.OpenSpec := { _root_.Go.OpenSpec.ofChange s with cond := some uptoSmall }

/-- 'coldframelaw43.ChunkCuts', WHERE WHAT IT READS IS OF BULK AT MOST 1048576: true; the input reads as it did. -/
def chunkCutsUptoRow : OpenClaim := { program := "ytephnmmbmacbfaa", sum := "bfcee161804602f55842263dbf30daf6d958aafdf99b502cfbca359e012e0799", func := "coldframe/coldframelaw43.ChunkCuts", spec := "chunkCuts", unfollowed := true, recurses := true, apart := false, narrowed := true }
def ChunkCutsUptoSaid : Prop := chunkCutsUptoRow.holds Try.pinned (OpenSpec.upto chunkCutsSpec)

/-- 'coldframelaw43.ChunkMakes', WHERE WHAT IT READS IS OF BULK AT MOST 1048576: true; the input reads as it did. -/
def chunkMakesUptoRow : OpenClaim := { program := "ytephnmmbmacbfaa", sum := "bfcee161804602f55842263dbf30daf6d958aafdf99b502cfbca359e012e0799", func := "coldframe/coldframelaw43.ChunkMakes", spec := "chunkMakes", unfollowed := true, recurses := true, apart := false, narrowed := true }
def ChunkMakesUptoSaid : Prop := chunkMakesUptoRow.holds Try.pinned (OpenSpec.upto chunkMakesSpec)

/-- 'coldframelaw43.ChunkShares', WHERE WHAT IT READS IS OF BULK AT MOST 1048576: true; the input reads as it did. -/
def chunkSharesUptoRow : OpenClaim := { program := "ytephnmmbmacbfaa", sum := "bfcee161804602f55842263dbf30daf6d958aafdf99b502cfbca359e012e0799", func := "coldframe/coldframelaw43.ChunkShares", spec := "chunkShares", unfollowed := true, recurses := true, apart := false, narrowed := true }
def ChunkSharesUptoSaid : Prop := chunkSharesUptoRow.holds Try.pinned (OpenSpec.upto chunkSharesSpec)

end Rows
end Go.Proofs.Ytephnmmbmacbfaa
