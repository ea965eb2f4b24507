/- Contracts of small functions: the marks in a table of nodes, found again. -/
import Derived.Test.YtckcehmggdnliaaHP
namespace Go.Proofs.Ytckcehmggdnliaa
open Go Go.Proofs.Ytckcehmggdnliaa.DL
set_option maxRecDepth 100000

theorem markNs_get : ∀ (l : List Node) (b : Int) (k : Nat) (h : k < l.length), (markNs b l)[k]'(by rw [markNs_length]; exact h) = l[k].markS (endNs b (l.take k))
  | [], b, k, h => by simp at h
  | n :: l, b, 0, h => rfl
  | n :: l, b, k + 1, h => by
    simp only [markNs, List.getElem_cons_succ, List.take_succ_cons, endNs]
    exact markNs_get l _ k (by simpa using h)
theorem c_heldNodeS {l : List Node} (h : totN l ≤ 1048576) {b : Int} (h0 : 0 ≤ b) (hb : b ≤ 1073741824) : CallD Try.prog F_laws_heldNodeS [rNs (markNs b l), iS b] fun r _ => r = iS (endNs b l) := by
  have hz := szs_nonneg l
  unfold totN at h
  refine k_laws_heldNodeS ?_
  unfold vc_laws_heldNodeS
  simp only [nI, n_nodes, markNs_length]
  refine ⟨fun n n1 m => ∃ k : Nat, n1 = k ∧ k ≤ l.length ∧ m = l.length - k ∧ n = endNs b (l.take k), ⟨_, 0, rfl, Nat.zero_le _, rfl, rfl⟩, ?_⟩
  rintro n n1 m ⟨k, rfl, hk, rfl, rfl⟩
  simp only [Int.toNat_natCast, decide_eq_true_eq (p := (k : Int) < l.length), decide_eq_false_iff_not (p := (k : Int) < l.length)]
  refine ⟨fun g => ?_, fun g => iS_eq ?_⟩
  · have ha : k < l.length := by omega
    have ha' : k < (markNs b l).length := by rw [markNs_length]; exact ha
    have htk : l.take (k + 1) = l.take k ++ [l[k]] := List.take_succ_eq_append_getElem ha
    have hle := endNs_le (l.take k) b
    have hz2 := szs_take l k
    have hs := szs_at ha
    rw [List.length_take] at hle
    have hle2 : b ≤ endNs b (l.take k) ∧ endNs b (l.take k) ≤ 1100000000 := by
      have : min k l.length = k := by omega
      rw [this] at hle
      omega
    have hend : endNs b (l.take (k + 1)) = l[k].mend (endNs b (l.take k)) := by rw [htk, endNs_app]; rfl
    have hg := markNs_get l b k ha
    simp only [drop_nodes ha', List.drop_zero, List.drop_succ_cons, hdD_cons, isI_iV, asI_iV, isL_sl, es_sl, hg]
    clear hg htk hz2 hle
    generalize endNs b (l.take k) = n at *
    unfold Node.sz at hs
    simp only [Node.markS]
    simp (disch := omega) only [wrap_id]
    have hlt : l.length - (k + 1) < l.length - k := by omega
    have hk1 : ((k : Int) + 1) = ((k + 1 : Nat) : Int) := by omega
    have m1 := c_heldI (n := l[k].chunks.length) (b := n + 1 + 1 + 1 + 1 + 1 + 1 + 1 + 1) (by omega) (by omega) (by unfold M40; omega)
    have m2 := c_heldTh (n := l[k].things.length) (b := n + 1 + 1 + 1 + 1 + 1 + 1 + 1 + 1 + l[k].chunks.length + 1 + 1) (by omega) (by omega) (by unfold M40; omega)
    have m3 := c_heldI (n := l[k].tags.length) (b := n + 1 + 1 + 1 + 1 + 1 + 1 + 1 + 1 + l[k].chunks.length + 1 + 1 + 3 * l[k].things.length) (by omega) (by omega) (by unfold M40; omega)
    repeat' (first
      | with_reducible apply And.intro
      | with_reducible apply Exists.intro
      | (intro g; exfalso; revert g; simp; done)
      | (intro g; exfalso; simp only [decide_eq_true_eq] at g; omega)
      | (intro g; exfalso; simp (disch := omega) only [wrap_id] at g; revert g; simp; done)
      | intro _
      | with_reducible exact m1
      | with_reducible exact m2
      | with_reducible exact m3
      | with_reducible exact hlt
      | with_reducible exact hk1
      | omega
      | trivial
      | rfl
      | (simp only [List.length_cons]; omega)
      | exact hend.symm
      | (simp (disch := omega) only [wrap_id]; first | exact m2 | exact m3 | exact hend.symm))
  · have : k = l.length := by omega
    subst this
    rw [List.take_of_length_le (Nat.le_refl _)]
end Go.Proofs.Ytckcehmggdnliaa
