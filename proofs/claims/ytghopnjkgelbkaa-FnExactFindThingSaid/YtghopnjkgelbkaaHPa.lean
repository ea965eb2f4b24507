/- Contracts of small functions: the marks in a table of nodes, found again. -/
import Derived.Test.YtghopnjkgelbkaaHP
namespace Go.Proofs.Ytghopnjkgelbkaa
open Go Go.Proofs.Ytghopnjkgelbkaa.DL
set_option maxRecDepth 100000

theorem markNs_get : ∀ (l : List Node) (b : Int) (k : Nat) (h : k < l.length), (markNs b l)[k]'(by rw [markNs_length]; exact h) = l[k].markS (endNs b (l.take k))
  | [], b, k, h => by simp at h
  | n :: l, b, 0, h => rfl
  | n :: l, b, k + 1, h => by
    simp only [markNs, List.getElem_cons_succ, List.take_succ_cons, endNs]
    exact markNs_get l _ k (by simpa using h)
end Go.Proofs.Ytghopnjkgelbkaa
