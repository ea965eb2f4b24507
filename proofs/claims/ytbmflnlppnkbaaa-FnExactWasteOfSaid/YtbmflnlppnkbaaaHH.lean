/- Contracts of small functions: the marks that the laws write into memory, and find again. -/
import Derived.Test.YtbmflnlppnkbaaaVD
import Derived.Test.YtbmflnlppnkbaaaHD
namespace Go.Proofs.Ytbmflnlppnkbaaa
open Go Go.Proofs.Ytbmflnlppnkbaaa.DL

theorem c_cloneI {l : List Int} (hl : l.length ≤ 1048576) : CallD Try.prog F_slices_Clone_int [rI l] fun r _ => r = oI l := by
  refine k_slices_Clone_int ?_
  unfold vc_slices_Clone_int
  simp only [n_one, List.length_nil, List.nil_append, ints_length]
  refine ⟨fun h => ?_, AllVal_ints l, by omega, by omega, trivial⟩
  show oneC (.own (.sl 1 [])) = oneC (.own (.sl 1 (ints l)))
  rw [h]
/-- A mark is no more than this. -/
abbrev M40 : Int := 1099511627776
def marks (b : Int) (k : Nat) : List Int := (List.range k).map fun i : Nat => b + (i : Int)
theorem marks_length (b : Int) (k : Nat) : (marks b k).length = k := by simp [marks]
theorem marks_step {b : Int} {l : List Int} {k : Nat} (h : k < l.length) : (marks b k ++ l.drop k).set k (b + k) = marks b (k + 1) ++ l.drop (k + 1) := by
  have e : l.drop k = l[k] :: l.drop (k + 1) := List.drop_eq_getElem_cons h
  rw [List.set_append_right _ _ (by rw [marks_length]; omega), marks_length, Nat.sub_self, e, List.set_cons_zero]
  simp [marks, List.range_succ]
theorem c_markI {l : List Int} {b : Int} (hl : l.length ≤ 1048576) (h0 : 0 ≤ b) (hb : b ≤ M40) : CallD Try.prog F_laws_markIntS [oI l, iS b] fun r bs => r = iS (b + l.length) ∧ bs.getD 0 .dead = oI (marks b l.length) := by
  unfold M40 at hb
  refine k_laws_markIntS ?_
  unfold vc_laws_markIntS
  simp only [nI, es_sl]
  refine ⟨fun es n n1 m => ∃ k : Nat, n1 = k ∧ k ≤ l.length ∧ m = l.length - k ∧ n = b + (k : Int) ∧ es = ints (marks b k ++ l.drop k), ⟨_, 0, rfl, Nat.zero_le _, rfl, by simp, by simp [marks]⟩, ?_⟩
  rintro es n n1 m ⟨k, rfl, hk, rfl, rfl, rfl⟩
  have e0 : (marks b k ++ l.drop k).length = l.length := by simp [marks_length]; omega
  simp only [n_ints, ints_length, e0, Int.toNat_natCast, Nat.mul_one, decide_eq_true_eq, decide_eq_false_iff_not]
  refine ⟨fun h1 => ?_, fun h1 => ?_⟩
  · have ha : k < l.length := by omega
    refine ⟨by omega, by omega, trivial, by omega, trivial, l.length - (k + 1), by omega, k + 1, by rw [wrap_id] <;> omega, by omega, rfl, by rw [wrap_id] <;> omega, ?_⟩
    rw [set_ints, marks_step ha]
  · have : k = l.length := by omega
    subst this
    simp
theorem c_heldI {n : Nat} {b : Int} (hn : n ≤ 1048576) (h0 : 0 ≤ b) (hb : b ≤ M40) : CallD Try.prog F_laws_heldIntS [rI (marks b n), iS b] fun r _ => r = iS (b + n) := by
  unfold M40 at hb
  refine k_laws_heldIntS ?_
  unfold vc_laws_heldIntS
  simp only [nI, n_ints, marks_length]
  refine ⟨fun x n1 m => ∃ k : Nat, n1 = k ∧ k ≤ n ∧ m = n - k ∧ x = b + (k : Int), ⟨_, 0, rfl, Nat.zero_le _, rfl, by simp⟩, ?_⟩
  rintro x n1 m ⟨k, rfl, hk, rfl, rfl⟩
  simp only [Int.toNat_natCast, Nat.mul_one, decide_eq_true_eq (p := (k : Int) < n), decide_eq_false_iff_not (p := (k : Int) < n)]
  refine ⟨fun h1 => ?_, fun h1 => iS_eq ?_⟩
  · have ha : k < (marks b n).length := by rw [marks_length]; omega
    have e : (marks b n)[k] = b + (k : Int) := by simp [marks]
    simp only [hd_ints ha, getD_eq ha, isI_iV, asI_iV, e]
    refine ⟨by omega, by omega, by simp [ints, marks]; omega, trivial, fun g => absurd g (by simp), fun _ => ⟨trivial, n - (k + 1), by omega, k + 1, by rw [wrap_id] <;> omega, by omega, rfl, by rw [wrap_id] <;> omega⟩⟩
  · omega

def marksT (b : Int) (k : Nat) : List Thing := (List.range k).map fun i : Nat => ⟨b + 3 * (i : Int), b + 3 * (i : Int) + 1, b + 3 * (i : Int) + 2⟩
theorem marksT_length (b : Int) (k : Nat) : (marksT b k).length = k := by simp [marksT]
theorem marksT_step {b : Int} {l : List Thing} {k : Nat} (h : k < l.length) : (marksT b k ++ l.drop k).set k ⟨b + 3 * k, b + 3 * k + 1, b + 3 * k + 2⟩ = marksT b (k + 1) ++ l.drop (k + 1) := by
  have e : l.drop k = l[k] :: l.drop (k + 1) := List.drop_eq_getElem_cons h
  rw [List.set_append_right _ _ (by rw [marksT_length]; omega), marksT_length, Nat.sub_self, e, List.set_cons_zero]
  simp [marksT, List.range_succ]
theorem c_markTh {l : List Thing} {b : Int} (hl : l.length ≤ 1048576) (h0 : 0 ≤ b) (hb : b ≤ M40) : CallD Try.prog F_laws_markThingS [oTh l, iS b] fun r bs => r = iS (b + 3 * l.length) ∧ bs.getD 0 .dead = oTh (marksT b l.length) := by
  unfold M40 at hb
  refine k_laws_markThingS ?_
  unfold vc_laws_markThingS
  simp only [nI, es_sl]
  refine ⟨fun es n n1 m => ∃ k : Nat, n1 = k ∧ k ≤ l.length ∧ m = l.length - k ∧ n = b + 3 * (k : Int) ∧ es = thgs (marksT b k ++ l.drop k), ⟨_, 0, rfl, Nat.zero_le _, rfl, by simp, by simp [marksT]⟩, ?_⟩
  rintro es n n1 m ⟨k, rfl, hk, rfl, rfl, rfl⟩
  have e0 : (marksT b k ++ l.drop k).length = l.length := by simp [marksT_length]; omega
  have en : ∀ (es : List DV) (i : Nat) (x : DV), (DV.sl 3 (es.set i x)).n = (DV.sl 3 es).n := fun es i x => by rw [DV.n_eq, DV.n_eq, List.length_set]
  simp only [en, n_things, things_length, List.length_set, e0, Int.toNat_natCast, decide_eq_true_eq, decide_eq_false_iff_not]
  refine ⟨fun h1 => ?_, fun h1 => ?_⟩
  · have ha : k < l.length := by omega
    have w1 : IntKind.i64.wrap (b + 3 * (k : Int) + 1) = b + 3 * k + 1 := wrap_id (by omega) (by omega)
    have w2 : IntKind.i64.wrap (b + 3 * (k : Int) + 1 + 1) = b + 3 * k + 2 := by rw [wrap_id (by omega) (by omega)]; omega
    have w3 : IntKind.i64.wrap (b + 3 * (k : Int) + 2 + 1) = b + 3 * ((k + 1 : Nat) : Int) := by rw [wrap_id (by omega) (by omega)]; omega
    rw [w1, w2, w3]
    refine ⟨by omega, by omega, trivial, by omega, by omega, by omega, trivial, by omega, by omega, by omega, trivial, by omega, trivial, l.length - (k + 1), by omega, k + 1, by rw [wrap_id] <;> omega, by omega, rfl, rfl, ?_⟩
    have := set_things (l := marksT b k ++ l.drop k) (k := k) (by omega) ⟨b + 3 * k, b + 3 * k + 1, b + 3 * k + 2⟩
    rw [marksT_step ha] at this
    exact this
  · have : k = l.length := by omega
    subst this
    simp
theorem c_heldTh {n : Nat} {b : Int} (hn : n ≤ 1048576) (h0 : 0 ≤ b) (hb : b ≤ M40) : CallD Try.prog F_laws_heldThingS [rTh (marksT b n), iS b] fun r _ => r = iS (b + 3 * n) := by
  unfold M40 at hb
  refine k_laws_heldThingS ?_
  unfold vc_laws_heldThingS
  simp only [nI, n_things, marksT_length]
  refine ⟨fun x n1 m => ∃ k : Nat, n1 = k ∧ k ≤ n ∧ m = n - k ∧ x = b + 3 * (k : Int), ⟨_, 0, rfl, Nat.zero_le _, rfl, by simp⟩, ?_⟩
  rintro x n1 m ⟨k, rfl, hk, rfl, rfl⟩
  simp only [Int.toNat_natCast, decide_eq_true_eq (p := (k : Int) < n), decide_eq_false_iff_not (p := (k : Int) < n)]
  refine ⟨fun h1 => ?_, fun h1 => iS_eq ?_⟩
  · have ha : k < (marksT b n).length := by rw [marksT_length]; omega
    have e : (marksT b n)[k] = ⟨b + 3 * (k : Int), b + 3 * k + 1, b + 3 * k + 2⟩ := by simp [marksT]
    have w1 : IntKind.i64.wrap (b + 3 * (k : Int) + 1) = b + 3 * k + 1 := wrap_id (by omega) (by omega)
    have w2 : IntKind.i64.wrap (b + 3 * (k : Int) + 1 + 1) = b + 3 * k + 2 := by rw [wrap_id (by omega) (by omega)]; omega
    have w3 : IntKind.i64.wrap (b + 3 * (k : Int) + 2 + 1) = b + 3 * ((k + 1 : Nat) : Int) := by rw [wrap_id (by omega) (by omega)]; omega
    simp only [drop_things ha, List.drop_zero, List.drop_succ_cons, hdD_cons, isI_iV, asI_iV, e, w1, w2, w3]
    refine ⟨by omega, by omega, by simp, trivial, fun g => absurd g (by simp), fun _ => ⟨by omega, by omega, by simp, trivial, fun g => absurd g (by simp), fun _ => ⟨by omega, by omega, by simp, trivial, fun g => absurd g (by simp),
      fun _ => ⟨trivial, n - (k + 1), by omega, k + 1, by rw [wrap_id] <;> omega, by omega, rfl, rfl⟩⟩⟩⟩
  · omega

/-- A node with marks. -/
def Node.marked (n : Node) (b : Int) : Node := { n with chunks := marks b n.chunks.length, things := marksT (b + n.chunks.length) n.things.length, tags := marks (b + n.chunks.length + 3 * n.things.length) n.tags.length }
def Node.cells (n : Node) : Int := n.chunks.length + 3 * n.things.length + n.tags.length
theorem c_markNode {n : Node} {b : Int} (hs : n.sz ≤ 1048576) (h0 : 0 ≤ b) (hb : b ≤ 1073741824) : CallD Try.prog F_laws_markNode [oNode n, iS b] fun r bs => r = iS (b + n.cells) ∧ bs.getD 0 .dead = oNode (n.marked b) := by
  unfold Node.sz at hs
  refine k_laws_markNode ?_
  unfold vc_laws_markNode
  refine ⟨trivial, rfl, _, _, rfl, c_markI (by omega) h0 (by unfold M40; omega), trivial, rfl, _, _, rfl, c_markTh (by omega) (by omega) (by unfold M40; omega), trivial, rfl, _, _, rfl, c_markI (by omega) (by omega) (by unfold M40; omega), ?_, rfl⟩
  refine iS_eq ?_
  unfold Node.cells; omega
theorem c_heldNode {n : Node} {b : Int} (hs : n.sz ≤ 1048576) (h0 : 0 ≤ b) (hb : b ≤ 1073741824) : CallD Try.prog F_laws_heldNode [rNode (n.marked b), iS b] fun r _ => r = iS (b + n.cells) := by
  unfold Node.sz at hs
  refine k_laws_heldNode ?_
  unfold vc_laws_heldNode
  refine ⟨_, c_heldI (by omega) h0 (by unfold M40; omega), fun g => ?_, fun _ => ⟨_, c_heldTh (by omega) (by omega) (by unfold M40; omega), fun g => ?_, fun _ => ⟨_, c_heldI (by omega) (by omega) (by unfold M40; omega), fun g => ?_, fun _ => iS_eq ?_⟩⟩⟩
  · simp only [decide_eq_true_eq] at g; omega
  · simp only [decide_eq_true_eq] at g; omega
  · simp only [decide_eq_true_eq] at g; omega
  · unfold Node.cells; omega
def Waste.marked (x : Waste) (b : Int) : Waste := { x with tags := marks b x.tags.length, chunks := marks (b + x.tags.length) x.chunks.length }
theorem c_markWaste {x : Waste} {b : Int} (hs : x.sz ≤ 1048576) (h0 : 0 ≤ b) (hb : b ≤ 1073741824) : CallD Try.prog F_laws_markWaste [oWaste x, iS b] fun r bs => r = iS (b + x.sz) ∧ bs.getD 0 .dead = oWaste (x.marked b) := by
  unfold Waste.sz at hs
  refine k_laws_markWaste ?_
  unfold vc_laws_markWaste
  refine ⟨trivial, rfl, _, _, rfl, c_markI (by omega) h0 (by unfold M40; omega), trivial, rfl, _, _, rfl, c_markI (by omega) (by omega) (by unfold M40; omega), ?_, rfl⟩
  refine iS_eq ?_
  unfold Waste.sz; omega
theorem c_heldWaste {x : Waste} {b : Int} (hs : x.sz ≤ 1048576) (h0 : 0 ≤ b) (hb : b ≤ 1073741824) : CallD Try.prog F_laws_heldWaste [rWaste (x.marked b), iS b] fun r _ => r = iS (b + x.sz) := by
  unfold Waste.sz at hs
  refine k_laws_heldWaste ?_
  unfold vc_laws_heldWaste
  refine ⟨_, c_heldI (by omega) h0 (by unfold M40; omega), fun g => ?_, fun _ => ⟨_, c_heldI (by omega) (by omega) (by unfold M40; omega), fun g => ?_, fun _ => iS_eq ?_⟩⟩
  · simp only [decide_eq_true_eq] at g; omega
  · simp only [decide_eq_true_eq] at g; omega
  · unfold Waste.sz; omega
end Go.Proofs.Ytbmflnlppnkbaaa
