/- The walk of the document's set: both ways. -/
import Derived.Test.YtbnkdopigjdogaaGE1
import Derived.Test.YtbnkdopigjdogaaGE2
namespace Go.Proofs.Ytbnkdopigjdogaa
set_option linter.unusedVariables false
set_option linter.unusedSimpArgs false
open Go.RowKit Go.Own Go.Glob
theorem set14_any (s : List Nat) (w : World) (hs : ∀ v ∈ s, v < 256) (hl : s.length ≤ 100000) :
    Calls Try.prog 14 #[.string (strB s)] w (RSetGives w (setS s)) := by
  cases h : isNot s with
  | true => exact set14_1 s w hs hl h
  | false => exact set14_2 s w hs hl h
end Go.Proofs.Ytbnkdopigjdogaa
