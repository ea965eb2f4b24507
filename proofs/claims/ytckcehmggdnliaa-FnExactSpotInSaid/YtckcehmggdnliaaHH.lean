/- Contracts of small functions: the marks that the laws write into memory, and find again. -/
import Derived.Test.YtckcehmggdnliaaHG
namespace Go.Proofs.Ytckcehmggdnliaa
open Go Go.Proofs.Ytckcehmggdnliaa.DL

/-- A mark is no more than this. -/
abbrev M40 : Int := 1099511627776
def marks (b : Int) (k : Nat) : List Int := (List.range k).map fun i : Nat => b + (i : Int)
theorem marks_length (b : Int) (k : Nat) : (marks b k).length = k := by simp [marks]
theorem marks_step {b : Int} {l : List Int} {k : Nat} (h : k < l.length) : (marks b k ++ l.drop k).set k (b + k) = marks b (k + 1) ++ l.drop (k + 1) := by
  have e : l.drop k = l[k] :: l.drop (k + 1) := List.drop_eq_getElem_cons h
  rw [List.set_append_right _ _ (by rw [marks_length]; omega), marks_length, Nat.sub_self, e, List.set_cons_zero]
  simp [marks, List.range_succ]
theorem c_markI {l : List Int} {b : Int} (hl : l.length ≤ 1048576) (h0 : 0 ≤ b) (hb : b ≤ M40) : CallD Try.prog F_laws_markIntS [oI l, iS b] fun r bs => r = iS (b + l.length) ∧ bs.getD 0 .dead = oI (marks b l.length) := by
  unfold M40 at hb
  refine k_laws_markIntS ?_
  unfold vc_laws_markIntS
  simp only [nI, es_sl]
  refine ⟨fun es n n1 m => ∃ k : Nat, n1 = k ∧ k ≤ l.length ∧ m = l.length - k ∧ n = b + (k : Int) ∧ es = ints (marks b k ++ l.drop k), ⟨_, 0, rfl, Nat.zero_le _, rfl, by simp, by simp [marks]⟩, ?_⟩
  rintro es n n1 m ⟨k, rfl, hk, rfl, rfl, rfl⟩
  have e0 : (marks b k ++ l.drop k).length = l.length := by simp [marks_length]; omega
  simp only [n_ints, ints_length, e0, Int.toNat_natCast, Nat.mul_one, decide_eq_true_eq, decide_eq_false_iff_not]
  refine ⟨fun h1 => ?_, fun h1 => ?_⟩
  · have ha : k < l.length := by omega
    refine ⟨by omega, by omega, trivial, by omega, trivial, l.length - (k + 1), by omega, k + 1, by rw [wrap_id] <;> omega, by omega, rfl, by rw [wrap_id] <;> omega, ?_⟩
    rw [set_ints, marks_step ha]
  · have : k = l.length := by omega
    subst this
    simp
theorem c_heldI {n : Nat} {b : Int} (hn : n ≤ 1048576) (h0 : 0 ≤ b) (hb : b ≤ M40) : CallD Try.prog F_laws_heldIntS [rI (marks b n), iS b] fun r _ => r = iS (b + n) := by
  unfold M40 at hb
  refine k_laws_heldIntS ?_
  unfold vc_laws_heldIntS
  simp only [nI, n_ints, marks_length]
  refine ⟨fun x n1 m => ∃ k : Nat, n1 = k ∧ k ≤ n ∧ m = n - k ∧ x = b + (k : Int), ⟨_, 0, rfl, Nat.zero_le _, rfl, by simp⟩, ?_⟩
  rintro x n1 m ⟨k, rfl, hk, rfl, rfl⟩
  simp only [Int.toNat_natCast, Nat.mul_one, decide_eq_true_eq (p := (k : Int) < n), decide_eq_false_iff_not (p := (k : Int) < n)]
  refine ⟨fun h1 => ?_, fun h1 => iS_eq ?_⟩
  · have ha : k < (marks b n).length := by rw [marks_length]; omega
    have e : (marks b n)[k] = b + (k : Int) := by simp [marks]
    simp only [hd_ints ha, getD_eq ha, isI_iV, asI_iV, e]
    refine ⟨by omega, by omega, by simp [ints, marks]; omega, trivial, fun g => absurd g (by simp), fun _ => ⟨trivial, n - (k + 1), by omega, k + 1, by rw [wrap_id] <;> omega, by omega, rfl, by rw [wrap_id] <;> omega⟩⟩
  · omega

def marksT (b : Int) (k : Nat) : List Thing := (List.range k).map fun i : Nat => ⟨b + 3 * (i : Int), b + 3 * (i : Int) + 1, b + 3 * (i : Int) + 2⟩
theorem marksT_length (b : Int) (k : Nat) : (marksT b k).length = k := by simp [marksT]
theorem marksT_step {b : Int} {l : List Thing} {k : Nat} (h : k < l.length) : (marksT b k ++ l.drop k).set k ⟨b + 3 * k, b + 3 * k + 1, b + 3 * k + 2⟩ = marksT b (k + 1) ++ l.drop (k + 1) := by
  have e : l.drop k = l[k] :: l.drop (k + 1) := List.drop_eq_getElem_cons h
  rw [List.set_append_right _ _ (by rw [marksT_length]; omega), marksT_length, Nat.sub_self, e, List.set_cons_zero]
  simp [marksT, List.range_succ]
theorem c_markTh {l : List Thing} {b : Int} (hl : l.length ≤ 1048576) (h0 : 0 ≤ b) (hb : b ≤ M40) : CallD Try.prog F_laws_markThingS [oTh l, iS b] fun r bs => r = iS (b + 3 * l.length) ∧ bs.getD 0 .dead = oTh (marksT b l.length) := by
  unfold M40 at hb
  refine k_laws_markThingS ?_
  unfold vc_laws_markThingS
  simp only [nI, es_sl]
  refine ⟨fun es n n1 m => ∃ k : Nat, n1 = k ∧ k ≤ l.length ∧ m = l.length - k ∧ n = b + 3 * (k : Int) ∧ es = thgs (marksT b k ++ l.drop k), ⟨_, 0, rfl, Nat.zero_le _, rfl, by simp, by simp [marksT]⟩, ?_⟩
  rintro es n n1 m ⟨k, rfl, hk, rfl, rfl, rfl⟩
  have e0 : (marksT b k ++ l.drop k).length = l.length := by simp [marksT_length]; omega
  have en : ∀ (es : List DV) (i : Nat) (x : DV), (DV.sl 3 (es.set i x)).n = (DV.sl 3 es).n := fun es i x => by rw [DV.n_eq, DV.n_eq, List.length_set]
  simp only [en, n_things, things_length, List.length_set, e0, Int.toNat_natCast, decide_eq_true_eq, decide_eq_false_iff_not]
  refine ⟨fun h1 => ?_, fun h1 => ?_⟩
  · have ha : k < l.length := by omega
    have w1 : IntKind.i64.wrap (b + 3 * (k : Int) + 1) = b + 3 * k + 1 := wrap_id (by omega) (by omega)
    have w2 : IntKind.i64.wrap (b + 3 * (k : Int) + 1 + 1) = b + 3 * k + 2 := by rw [wrap_id (by omega) (by omega)]; omega
    have w3 : IntKind.i64.wrap (b + 3 * (k : Int) + 2 + 1) = b + 3 * ((k + 1 : Nat) : Int) := by rw [wrap_id (by omega) (by omega)]; omega
    rw [w1, w2, w3]
    refine ⟨by omega, by omega, trivial, by omega, by omega, by omega, trivial, by omega, by omega, by omega, trivial, by omega, trivial, l.length - (k + 1), by omega, k + 1, by rw [wrap_id] <;> omega, by omega, rfl, rfl, ?_⟩
    have := set_things (l := marksT b k ++ l.drop k) (k := k) (by omega) ⟨b + 3 * k, b + 3 * k + 1, b + 3 * k + 2⟩
    rw [marksT_step ha] at this
    exact this
  · have : k = l.length := by omega
    subst this
    simp
/-- A node with marks. -/
def Node.marked (n : Node) (b : Int) : Node := { n with chunks := marks b n.chunks.length, things := marksT (b + n.chunks.length) n.things.length, tags := marks (b + n.chunks.length + 3 * n.things.length) n.tags.length }
def Node.cells (n : Node) : Int := n.chunks.length + 3 * n.things.length + n.tags.length
def Waste.marked (x : Waste) (b : Int) : Waste := { x with tags := marks b x.tags.length, chunks := marks (b + x.tags.length) x.chunks.length }
end Go.Proofs.Ytckcehmggdnliaa
