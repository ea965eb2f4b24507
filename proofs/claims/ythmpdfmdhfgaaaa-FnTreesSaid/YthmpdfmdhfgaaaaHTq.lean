/- Contracts of small functions: tables compared. -/
import Derived.Test.YthmpdfmdhfgaaaaHSa
import Derived.Test.YthmpdfmdhfgaaaaHNO
import Derived.Test.YthmpdfmdhfgaaaaVHTq
namespace Go.Proofs.Ythmpdfmdhfgaaaa
open Go Go.Proofs.Ythmpdfmdhfgaaaa.DL
set_option maxRecDepth 100000

/-- A table is the same as itself. -/
theorem c_sameTable {l : List Node} (hl : l.length ≤ 1048576) (hs : ∀ n ∈ l, n.sz ≤ 1048576) : CallD Try.prog F_laws_sameTable [rNs l, rNs l] fun r _ => r = bS true := by
  refine k_laws_sameTable ?_
  unfold vc_laws_sameTable
  refine ⟨fun h => absurd h (by simp), fun _ => ?_⟩
  simp only [nI, n_nodes]
  refine ⟨fun i m => ∃ k : Nat, i = k ∧ k ≤ l.length ∧ m = l.length - k, ⟨l.length, 0, rfl, Nat.zero_le _, rfl⟩, ?_⟩
  rintro i m ⟨k, rfl, hk, rfl⟩
  simp only [Int.toNat_natCast, decide_eq_true_eq, decide_eq_false_iff_not]
  refine ⟨fun h1 => ?_, fun h1 => trivial⟩
  have ha : k < l.length := by omega
  simp only [drop_nodes ha, hdD_cons, List.tail_cons, isI_iV, asI_iV, isL_sl, es_sl, wrap_id (n := (k : Int) + 1) (by omega) (by omega)]
  exact ⟨by omega, by omega, by simp, trivial, trivial, trivial, trivial, trivial, trivial, trivial, trivial, trivial, trivial, trivial, trivial, trivial, by omega, by omega, by simp, trivial, trivial, trivial, trivial, trivial, trivial, trivial, trivial, trivial, trivial, trivial, trivial, trivial,
    _, c_sameNode (hs _ (List.getElem_mem ha)), fun _ => ⟨⟨trivial, trivial⟩, l.length - (k + 1), by omega, k + 1, by omega, by omega, rfl⟩, fun h => absurd h (by simp)⟩
end Go.Proofs.Ythmpdfmdhfgaaaa
