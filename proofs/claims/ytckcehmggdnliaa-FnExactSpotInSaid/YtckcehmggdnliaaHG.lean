/- Contracts of small functions: bytes replaced in a memory, and in a thing. -/
import Derived.Test.YtckcehmggdnliaaHF
namespace Go.Proofs.Ytckcehmggdnliaa
open Go Go.Proofs.Ytckcehmggdnliaa.DL

theorem setRange_app {α : Type} : ∀ (new a b : List α), new.length ≤ b.length → setRange (a ++ b) a.length new = a ++ (new ++ b.drop new.length)
  | [], a, b, _ => by simp [setRange]
  | x :: xs, a, [], h => by simp at h
  | x :: xs, a, y :: b, h => by
    have e : (a ++ y :: b).set a.length x = (a ++ [x]) ++ b := by rw [List.set_append_right _ _ (Nat.le_refl _)]; simp
    have := setRange_app xs (a ++ [x]) b (by simpa using h)
    simp only [List.length_append, List.length_singleton] at this
    unfold setRange
    rw [e, this]
    simp
theorem setRange_eq {α : Type} (new es : List α) (j : Nat) (h : j + new.length ≤ es.length) : setRange es j new = es.take j ++ (new ++ es.drop (j + new.length)) := by
  have := setRange_app new (es.take j) (es.drop j) (by simp; omega)
  rw [List.take_append_drop, List.length_take, Nat.min_eq_left (by omega), List.drop_drop] at this
  exact this
def putAt (l : List Int) (j : Nat) (s : List Int) : List Int := l.take j ++ (s ++ l.drop (j + s.length))
theorem putAt_length {l s : List Int} {j : Nat} (h : j + s.length ≤ l.length) : (putAt l j s).length = l.length := by
  simp [putAt]; omega
theorem putAt_step {l s : List Int} {j k : Nat} (hk : k < s.length) (h : j + s.length ≤ l.length) : (putAt l j (s.take k)).set (j + k) s[k] = putAt l j (s.take (k + 1)) := by
  unfold putAt
  have hl : (l.take j).length = j := by simp; omega
  have hk' : (s.take k).length = k := by simp; omega
  rw [List.set_append_right _ _ (by omega), hl, List.set_append_right _ _ (by omega), hk', Nat.add_sub_cancel_left, Nat.sub_self]
  have e : l.drop (j + k) = l[j + k] :: l.drop (j + k + 1) := List.drop_eq_getElem_cons (by omega)
  have e3 : (s.take (k + 1)).length = k + 1 := by simp; omega
  rw [e, List.set_cons_zero, List.take_succ_eq_append_getElem hk]
  simp only [List.append_assoc, List.singleton_append, List.length_append, hk', List.length_singleton, Nat.add_assoc]
def putR (l : List Int) (i : Int) (s : List Int) : List Int := if there l.length i s.length then putAt l i.toNat s else l

def writeR (l : List Int) (t : Thing) (off : Int) (s : List Int) : List Int := if inThing l.length t off s.length then putR l (IntKind.i64.wrap (t.pos + off)) s else l
end Go.Proofs.Ytckcehmggdnliaa
