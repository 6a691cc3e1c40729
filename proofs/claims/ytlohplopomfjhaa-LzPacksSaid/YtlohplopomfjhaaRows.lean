/-
  No cell of these rows narrows 'for every input' (looked for: loops, veiled, ifaces, maps, wideKeys, modest, calm, conditions, laid).
  DERIVED. THE GIVEN ROWS OF THIS SEAT. 7 by the template 'for every input the law returns true; each argument reads behind the call as it read before'; 0 by the template 'total and deterministic' (their statements: YtlohplopomfjhaaTotals.lean).
  GIVEN WITH THE SEED: the statements are not yours to turn. If you find one false, say at which input.
  Laid BY PROGRAM, IN A SANDBOX (cutbox-rows.mjs): the forced cells as the released guide's own fill.sh prints them over the translation 1e94f1b8f1c34617… (all of the seat's roots in one cut). By AI agents, Wed Nov 11 2026. No macro, syntax, notation, axiom, sorry.
-/
import Derived.Test.YtlohplopomfjhaaChecked
import GoSem.Claim
import GoSem.ClaimJoined
import GoSem.ClaimMapViews
import Derived.JoinedTies
import Derived.KernelRfl
namespace Go.Proofs.Ytlohplopomfjhaa
/- THE CELL 'sum', in the pinned program and in every row, IS THE sha256 OF THE DUMP (.gsa) THAT YtlohplopomfjhaaProg.lean LOADS. Nothing in Lean hashes anything: it is a label: what it is worth is what the hold of that sum in a sandbox is worth. -/
noncomputable def Try.pinned : Pinned := { name := "ytlohplopomfjhaa", sum := "1e94f1b8f1c3461710d1ad01284e2fa733b5c533dbe5d4cc29e66b25edd0e090", checked := Try.checked }
namespace Rows
def none {H : Type} : Left H := { results := [], args := [] }

/-- 'coldframelaw33.BitioPuts': WHATEVER THE INPUT: true; the input reads as it did. -/
def bitioPutsSpec : ChangeSpec := { name := "bitioPuts", fn := fun _ => fun
  | [d] => { results := [.lit (.bool true)], args := [d] }
  | _ => none }
def bitioPutsRow : OpenClaim := { program := "ytlohplopomfjhaa", sum := "1e94f1b8f1c3461710d1ad01284e2fa733b5c533dbe5d4cc29e66b25edd0e090", func := "coldframe/coldframelaw33.BitioPuts", spec := "bitioPuts", plainKeys := false, apart := false }
def BitioPutsSaid : Prop := bitioPutsRow.holds Try.pinned (OpenSpec.ofChange bitioPutsSpec)

/-- ITS FALSE NEIGHBOUR: 'it returns false'. Refute it at one input. -/
def bitioPutsWrong : ChangeSpec := { name := "bitioPuts", fn := fun _ => fun
  | [d] => { results := [.lit (.bool false)], args := [d] }
  | _ => none }
def BitioPutsWrongFalsely : Prop := bitioPutsRow.holds Try.pinned (OpenSpec.ofChange bitioPutsWrong)

/-- 'coldframelaw33.BitioTakes': WHATEVER THE INPUT: true; the input reads as it did. -/
def bitioTakesSpec : ChangeSpec := { name := "bitioTakes", fn := fun _ => fun
  | [d1, d2] => { results := [.lit (.bool true)], args := [d1, d2] }
  | _ => none }
def bitioTakesRow : OpenClaim := { program := "ytlohplopomfjhaa", sum := "1e94f1b8f1c3461710d1ad01284e2fa733b5c533dbe5d4cc29e66b25edd0e090", func := "coldframe/coldframelaw33.BitioTakes", spec := "bitioTakes", plainKeys := false, apart := false }
def BitioTakesSaid : Prop := bitioTakesRow.holds Try.pinned (OpenSpec.ofChange bitioTakesSpec)

/-- ITS FALSE NEIGHBOUR: 'it returns false'. Refute it at one input. -/
def bitioTakesWrong : ChangeSpec := { name := "bitioTakes", fn := fun _ => fun
  | [d1, d2] => { results := [.lit (.bool false)], args := [d1, d2] }
  | _ => none }
def BitioTakesWrongFalsely : Prop := bitioTakesRow.holds Try.pinned (OpenSpec.ofChange bitioTakesWrong)

/-- 'coldframelaw33.BitioBack': WHATEVER THE INPUT: true; the input reads as it did. -/
def bitioBackSpec : ChangeSpec := { name := "bitioBack", fn := fun _ => fun
  | [d] => { results := [.lit (.bool true)], args := [d] }
  | _ => none }
def bitioBackRow : OpenClaim := { program := "ytlohplopomfjhaa", sum := "1e94f1b8f1c3461710d1ad01284e2fa733b5c533dbe5d4cc29e66b25edd0e090", func := "coldframe/coldframelaw33.BitioBack", spec := "bitioBack", plainKeys := false, apart := false }
def BitioBackSaid : Prop := bitioBackRow.holds Try.pinned (OpenSpec.ofChange bitioBackSpec)

/-- ITS FALSE NEIGHBOUR: 'it returns false'. Refute it at one input. -/
def bitioBackWrong : ChangeSpec := { name := "bitioBack", fn := fun _ => fun
  | [d] => { results := [.lit (.bool false)], args := [d] }
  | _ => none }
def BitioBackWrongFalsely : Prop := bitioBackRow.holds Try.pinned (OpenSpec.ofChange bitioBackWrong)

/-- 'coldframelaw35.LzTokens': WHATEVER THE INPUT: true; the input reads as it did. -/
def lzTokensSpec : ChangeSpec := { name := "lzTokens", fn := fun _ => fun
  | [d] => { results := [.lit (.bool true)], args := [d] }
  | _ => none }
def lzTokensRow : OpenClaim := { program := "ytlohplopomfjhaa", sum := "1e94f1b8f1c3461710d1ad01284e2fa733b5c533dbe5d4cc29e66b25edd0e090", func := "coldframe/coldframelaw35.LzTokens", spec := "lzTokens", plainKeys := false, apart := false }
def LzTokensSaid : Prop := lzTokensRow.holds Try.pinned (OpenSpec.ofChange lzTokensSpec)

/-- ITS FALSE NEIGHBOUR: 'it returns false'. Refute it at one input. -/
def lzTokensWrong : ChangeSpec := { name := "lzTokens", fn := fun _ => fun
  | [d] => { results := [.lit (.bool false)], args := [d] }
  | _ => none }
def LzTokensWrongFalsely : Prop := lzTokensRow.holds Try.pinned (OpenSpec.ofChange lzTokensWrong)

/-- 'coldframelaw35.LzBytes': WHATEVER THE INPUT: true; the input reads as it did. -/
def lzBytesSpec : ChangeSpec := { name := "lzBytes", fn := fun _ => fun
  | [d1, d2] => { results := [.lit (.bool true)], args := [d1, d2] }
  | _ => none }
def lzBytesRow : OpenClaim := { program := "ytlohplopomfjhaa", sum := "1e94f1b8f1c3461710d1ad01284e2fa733b5c533dbe5d4cc29e66b25edd0e090", func := "coldframe/coldframelaw35.LzBytes", spec := "lzBytes", plainKeys := false, apart := false }
def LzBytesSaid : Prop := lzBytesRow.holds Try.pinned (OpenSpec.ofChange lzBytesSpec)

/-- ITS FALSE NEIGHBOUR: 'it returns false'. Refute it at one input. -/
def lzBytesWrong : ChangeSpec := { name := "lzBytes", fn := fun _ => fun
  | [d1, d2] => { results := [.lit (.bool false)], args := [d1, d2] }
  | _ => none }
def LzBytesWrongFalsely : Prop := lzBytesRow.holds Try.pinned (OpenSpec.ofChange lzBytesWrong)

/-- 'coldframelaw35.LzUnpacks': WHATEVER THE INPUT: true; the input reads as it did. -/
def lzUnpacksSpec : ChangeSpec := { name := "lzUnpacks", fn := fun _ => fun
  | [d1, d2] => { results := [.lit (.bool true)], args := [d1, d2] }
  | _ => none }
def lzUnpacksRow : OpenClaim := { program := "ytlohplopomfjhaa", sum := "1e94f1b8f1c3461710d1ad01284e2fa733b5c533dbe5d4cc29e66b25edd0e090", func := "coldframe/coldframelaw35.LzUnpacks", spec := "lzUnpacks", plainKeys := false, apart := false }
def LzUnpacksSaid : Prop := lzUnpacksRow.holds Try.pinned (OpenSpec.ofChange lzUnpacksSpec)

/-- ITS FALSE NEIGHBOUR: 'it returns false'. Refute it at one input. -/
def lzUnpacksWrong : ChangeSpec := { name := "lzUnpacks", fn := fun _ => fun
  | [d1, d2] => { results := [.lit (.bool false)], args := [d1, d2] }
  | _ => none }
def LzUnpacksWrongFalsely : Prop := lzUnpacksRow.holds Try.pinned (OpenSpec.ofChange lzUnpacksWrong)

/-- 'coldframelaw35.LzPacks': WHATEVER THE INPUT: true; the input reads as it did. -/
def lzPacksSpec : ChangeSpec := { name := "lzPacks", fn := fun _ => fun
  | [d] => { results := [.lit (.bool true)], args := [d] }
  | _ => none }
def lzPacksRow : OpenClaim := { program := "ytlohplopomfjhaa", sum := "1e94f1b8f1c3461710d1ad01284e2fa733b5c533dbe5d4cc29e66b25edd0e090", func := "coldframe/coldframelaw35.LzPacks", spec := "lzPacks", plainKeys := false, apart := false }
def LzPacksSaid : Prop := lzPacksRow.holds Try.pinned (OpenSpec.ofChange lzPacksSpec)

/-- ITS FALSE NEIGHBOUR: 'it returns false'. Refute it at one input. -/
def lzPacksWrong : ChangeSpec := { name := "lzPacks", fn := fun _ => fun
  | [d] => { results := [.lit (.bool false)], args := [d] }
  | _ => none }
def LzPacksWrongFalsely : Prop := lzPacksRow.holds Try.pinned (OpenSpec.ofChange lzPacksWrong)

/- THE SECOND FORM. 'bulk': how many values and letters a reading holds, each counted each time it is reached (what is shared counts as often as it is met; a slice's spare places count too). A statement '..UptoSaid' is the law's where the arguments, and the package variables that the reading takes, are together of bulk at most 1048576: NARROWER than '..Said'. Prove '..Said' where nothing that the law and all that it calls make is longer than what came in: it says more and counts as full. Else prove '..UptoSaid'. A law counts once. -/
mutual
def uptoBulk {H : Type} : DataW H → Nat
  | .lit (.string bytes) => bytes.length + 1
  | .lit _ => 1
  | .nil => 1
  | .ptr d => uptoBulk d + 1
  | .slice elems spare => uptoBulkAll elems + uptoBulkAll spare + 1
  | .agg parts => uptoBulkAll parts + 1
  | .iface _ d => uptoBulk d + 1
  | .map entries => uptoBulkEntries entries + 1
  | .held _ => 1
def uptoBulkAll {H : Type} : List (DataW H) → Nat
  | [] => 0
  | d :: r => uptoBulk d + uptoBulkAll r
def uptoBulkEntries {H : Type} : List (Lit × DataW H) → Nat
  | [] => 0
  | x :: r => uptoBulkEntry x + uptoBulkEntries r
def uptoBulkEntry {H : Type} : Lit × DataW H → Nat
  | (.string bytes, d) => bytes.length + uptoBulk d + 1
  | (_, d) => uptoBulk d + 1
 end
def uptoSmall : (H : Type) → List (DataW H) → Bool := fun _ ds => decide (uptoBulkAll ds ≤ 1048576)
def OpenSpec.upto (s : _root_.Go.ChangeSpec) : _root_.Go.OpenSpec := { _root_.Go.OpenSpec.ofChange s with cond := some uptoSmall }

/-- 'coldframelaw33.BitioPuts', WHERE WHAT IT READS IS OF BULK AT MOST 1048576: true; the input reads as it did. -/
def bitioPutsUptoRow : OpenClaim := { program := "ytlohplopomfjhaa", sum := "1e94f1b8f1c3461710d1ad01284e2fa733b5c533dbe5d4cc29e66b25edd0e090", func := "coldframe/coldframelaw33.BitioPuts", spec := "bitioPuts", plainKeys := false, apart := false, narrowed := true }
def BitioPutsUptoSaid : Prop := bitioPutsUptoRow.holds Try.pinned (OpenSpec.upto bitioPutsSpec)

/-- 'coldframelaw33.BitioTakes', WHERE WHAT IT READS IS OF BULK AT MOST 1048576: true; the input reads as it did. -/
def bitioTakesUptoRow : OpenClaim := { program := "ytlohplopomfjhaa", sum := "1e94f1b8f1c3461710d1ad01284e2fa733b5c533dbe5d4cc29e66b25edd0e090", func := "coldframe/coldframelaw33.BitioTakes", spec := "bitioTakes", plainKeys := false, apart := false, narrowed := true }
def BitioTakesUptoSaid : Prop := bitioTakesUptoRow.holds Try.pinned (OpenSpec.upto bitioTakesSpec)

/-- 'coldframelaw33.BitioBack', WHERE WHAT IT READS IS OF BULK AT MOST 1048576: true; the input reads as it did. -/
def bitioBackUptoRow : OpenClaim := { program := "ytlohplopomfjhaa", sum := "1e94f1b8f1c3461710d1ad01284e2fa733b5c533dbe5d4cc29e66b25edd0e090", func := "coldframe/coldframelaw33.BitioBack", spec := "bitioBack", plainKeys := false, apart := false, narrowed := true }
def BitioBackUptoSaid : Prop := bitioBackUptoRow.holds Try.pinned (OpenSpec.upto bitioBackSpec)

/-- 'coldframelaw35.LzTokens', WHERE WHAT IT READS IS OF BULK AT MOST 1048576: true; the input reads as it did. -/
def lzTokensUptoRow : OpenClaim := { program := "ytlohplopomfjhaa", sum := "1e94f1b8f1c3461710d1ad01284e2fa733b5c533dbe5d4cc29e66b25edd0e090", func := "coldframe/coldframelaw35.LzTokens", spec := "lzTokens", plainKeys := false, apart := false, narrowed := true }
def LzTokensUptoSaid : Prop := lzTokensUptoRow.holds Try.pinned (OpenSpec.upto lzTokensSpec)

/-- 'coldframelaw35.LzBytes', WHERE WHAT IT READS IS OF BULK AT MOST 1048576: true; the input reads as it did. -/
def lzBytesUptoRow : OpenClaim := { program := "ytlohplopomfjhaa", sum := "1e94f1b8f1c3461710d1ad01284e2fa733b5c533dbe5d4cc29e66b25edd0e090", func := "coldframe/coldframelaw35.LzBytes", spec := "lzBytes", plainKeys := false, apart := false, narrowed := true }
def LzBytesUptoSaid : Prop := lzBytesUptoRow.holds Try.pinned (OpenSpec.upto lzBytesSpec)

/-- 'coldframelaw35.LzUnpacks', WHERE WHAT IT READS IS OF BULK AT MOST 1048576: true; the input reads as it did. -/
def lzUnpacksUptoRow : OpenClaim := { program := "ytlohplopomfjhaa", sum := "1e94f1b8f1c3461710d1ad01284e2fa733b5c533dbe5d4cc29e66b25edd0e090", func := "coldframe/coldframelaw35.LzUnpacks", spec := "lzUnpacks", plainKeys := false, apart := false, narrowed := true }
def LzUnpacksUptoSaid : Prop := lzUnpacksUptoRow.holds Try.pinned (OpenSpec.upto lzUnpacksSpec)

/-- 'coldframelaw35.LzPacks', WHERE WHAT IT READS IS OF BULK AT MOST 1048576: true; the input reads as it did. -/
def lzPacksUptoRow : OpenClaim := { program := "ytlohplopomfjhaa", sum := "1e94f1b8f1c3461710d1ad01284e2fa733b5c533dbe5d4cc29e66b25edd0e090", func := "coldframe/coldframelaw35.LzPacks", spec := "lzPacks", plainKeys := false, apart := false, narrowed := true }
def LzPacksUptoSaid : Prop := lzPacksUptoRow.holds Try.pinned (OpenSpec.upto lzPacksSpec)

end Rows
end Go.Proofs.Ytlohplopomfjhaa
