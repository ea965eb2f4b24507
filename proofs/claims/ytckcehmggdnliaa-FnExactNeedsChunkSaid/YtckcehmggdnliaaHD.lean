/- Contracts of small functions: nodes and references copied, compared, measured. -/
import Derived.Test.YtckcehmggdnliaaHC
namespace Go.Proofs.Ytckcehmggdnliaa
open Go Go.Proofs.Ytckcehmggdnliaa.DL

def Node.sz (n : Node) : Int := n.chunks.length + n.things.length + n.tags.length
theorem c_toNode {n : Node} (h : n.sz ≤ 1048576) : CallD Try.prog F_laws_toNode [rNode n] fun r _ => r = oNode n := by
  unfold Node.sz at h
  refine k_laws_toNode ?_
  unfold vc_laws_toNode
  exact ⟨_, c_toIntS (by omega), _, c_toThingS (by omega), _, c_toIntS (by omega), rfl⟩
theorem c_eqNode_self {n : Node} (h : n.sz ≤ 1048576) : CallD Try.prog F_laws_eqNode [rNode n, rNode n] fun r _ => r = bS true := by
  unfold Node.sz at h
  have h1 : n.chunks.length ≤ M63 := by unfold M63; omega
  have h2 : n.things.length ≤ M63 := by unfold M63; omega
  have h3 : n.tags.length ≤ M63 := by unfold M63; omega
  refine k_laws_eqNode ?_
  unfold vc_laws_eqNode
  refine ⟨fun h => absurd h (by simp), fun _ => ⟨fun h => absurd h (by simp), fun _ => ⟨fun h => absurd h (by simp), fun _ => ⟨fun h => absurd h (by simp), fun _ => ⟨fun h => absurd h (by simp), fun _ => ⟨fun h => absurd h (by simp), fun _ =>
    ⟨fun h => absurd h (by simp), fun _ => ⟨fun h => absurd h (by simp), fun _ => ⟨_, c_eqIntS h1, fun _ => ⟨fun h => absurd h (by simp), fun _ => ⟨fun h => absurd h (by simp), fun _ => ⟨_, c_eqThingS h2, fun _ =>
    ⟨_, c_eqIntS h3, fun _ => rfl, fun h => absurd h (by simp)⟩, fun h => absurd h (by simp)⟩⟩⟩, fun h => absurd h (by simp)⟩⟩⟩⟩⟩⟩⟩⟩⟩
def left1 (k : Nat) (n : Int) : Int := if (k : Int) ≤ n then n - k else -1
def Node.left (n : Node) : Int := if left1 n.chunks.length 1048576 < 0 then -1 else if left1 n.things.length (left1 n.chunks.length 1048576) < 0 then -1 else left1 n.tags.length (left1 n.things.length (left1 n.chunks.length 1048576))
theorem Node.left_sz {n : Node} (h : ¬ n.left < 0) : n.sz ≤ 1048576 := by
  unfold Node.left left1 at h
  unfold Node.sz
  repeat' split at h
  all_goals omega
theorem c_szNode {n : Node} (hn : n.ok) : CallD Try.prog F_laws_szNode [rNode n, iS 1048576] fun r _ => r = iS n.left := by
  obtain ⟨-, -, -, -, -, -, -, -, ⟨h1, -⟩, -, -, ⟨h2, -⟩, ⟨h3, -⟩⟩ := hn
  refine k_laws_szNode ?_
  unfold vc_laws_szNode Node.left
  have b1 : ¬ left1 n.chunks.length 1048576 < 0 → 0 ≤ left1 n.chunks.length 1048576 ∧ left1 n.chunks.length 1048576 ≤ 1048576 := by unfold left1; split <;> omega
  have b2 : ¬ left1 n.chunks.length 1048576 < 0 → ¬ left1 n.things.length (left1 n.chunks.length 1048576) < 0 → 0 ≤ left1 n.things.length (left1 n.chunks.length 1048576) ∧ left1 n.things.length (left1 n.chunks.length 1048576) ≤ 1048576 := by
    intro g
    have := b1 g
    generalize left1 n.chunks.length 1048576 = q at *
    unfold left1; split <;> omega
  refine ⟨left1 n.chunks.length 1048576, c_szIntS h1 (by omega) (by omega), fun g1 => iS_eq ?_, fun g1 => ?_⟩
  · rw [if_pos (by simpa using g1)]
  · have g1 : ¬ left1 n.chunks.length 1048576 < 0 := by simpa using g1
    obtain ⟨k1, k2⟩ := b1 g1
    rw [if_neg g1]
    refine ⟨left1 n.things.length (left1 n.chunks.length 1048576), c_szThingS h2 k1 k2, fun g2 => iS_eq ?_, fun g2 => ?_⟩
    · rw [if_pos (by simpa using g2)]
    · have g2 : ¬ left1 n.things.length (left1 n.chunks.length 1048576) < 0 := by simpa using g2
      obtain ⟨k3, k4⟩ := b2 g1 g2
      rw [if_neg g2]
      refine ⟨left1 n.tags.length (left1 n.things.length (left1 n.chunks.length 1048576)), c_szIntS h3 k3 k4, fun g3 => iS_eq ?_, fun g3 => rfl⟩
      have g3 : left1 n.tags.length (left1 n.things.length (left1 n.chunks.length 1048576)) < 0 := by simpa using g3
      generalize left1 n.things.length (left1 n.chunks.length 1048576) = q at *
      unfold left1 at g3 ⊢
      split at g3
      · omega
      · rename_i h; rw [if_neg h]
end Go.Proofs.Ytckcehmggdnliaa
