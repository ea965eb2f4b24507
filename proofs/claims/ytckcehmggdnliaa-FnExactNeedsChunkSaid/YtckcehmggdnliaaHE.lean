/- Contracts of small functions: lists of bytes, copied, compared, marked. -/
import Derived.Test.YtckcehmggdnliaaHD
namespace Go.Proofs.Ytckcehmggdnliaa
open Go Go.Proofs.Ytckcehmggdnliaa.DL

/-- The marks that the laws write into bytes. -/
def marksB (b : Int) (k : Nat) : List Int := (List.range k).map fun i : Nat => (b + (i : Int)) % 256
theorem marksB_length (b : Int) (k : Nat) : (marksB b k).length = k := by simp [marksB]
theorem marksB_step {b : Int} {l : List Int} {k : Nat} (h : k < l.length) : (marksB b k ++ l.drop k).set k ((b + k) % 256) = marksB b (k + 1) ++ l.drop (k + 1) := by
  have e : l.drop k = l[k] :: l.drop (k + 1) := List.drop_eq_getElem_cons h
  rw [List.set_append_right _ _ (by rw [marksB_length]; omega), marksB_length, Nat.sub_self, e, List.set_cons_zero]
  simp [marksB, List.range_succ]
end Go.Proofs.Ytckcehmggdnliaa
