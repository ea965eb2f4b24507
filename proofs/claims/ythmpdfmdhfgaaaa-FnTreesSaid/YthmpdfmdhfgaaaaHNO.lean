/- Contracts of small functions: tables of nodes, measured, copied, compared. -/
import Derived.Test.YthmpdfmdhfgaaaaHIK
import Derived.Test.YthmpdfmdhfgaaaaVHNO
namespace Go.Proofs.Ythmpdfmdhfgaaaa
open Go Go.Proofs.Ythmpdfmdhfgaaaa.DL
set_option maxRecDepth 100000

/-- Writes and reads behind a part of known length. -/
theorem set_at {α : Type} {p q : List α} {m : Nat} (h : p.length = m) (j : Nat) (v : α) : (p ++ q).set (m + j) v = p ++ q.set j v := by
  rw [List.set_append_right _ _ (by omega), h, Nat.add_sub_cancel_left]
theorem set_at0 {α : Type} {p q : List α} {m : Nat} (h : p.length = m) (v : α) : (p ++ q).set m v = p ++ q.set 0 v := set_at h 0 v
theorem getD_at {α : Type} {p q : List α} {m : Nat} (h : p.length = m) (j : Nat) (d : α) : (p ++ q).getD (m + j) d = q.getD j d := by
  rw [List.getD_eq_getElem?_getD, List.getD_eq_getElem?_getD, List.getElem?_append_right (by omega), h, Nat.add_sub_cancel_left]
theorem nodes_split {l : List Node} {k : Nat} (h : k < l.length) : nods l = nods (l.take k) ++ (l[k].enc ++ nods (l.drop (k + 1))) := by
  have e : l = l.take k ++ l[k] :: l.drop (k + 1) := by rw [List.getElem_cons_drop, List.take_append_drop]
  have e2 : nods l = nods (l.take k ++ l[k] :: l.drop (k + 1)) := by rw [← e]
  rw [e2]
  unfold nods flat
  rw [List.flatMap_append, List.flatMap_cons]
theorem nodes_set {l : List Node} {k : Nat} (h : k < l.length) (n : Node) : nods (l.set k n) = nods (l.take k) ++ (n.enc ++ nods (l.drop (k + 1))) := by
  rw [List.set_eq_take_append_cons_drop, if_pos h]
  unfold nods flat
  rw [List.flatMap_append, List.flatMap_cons]
theorem nodes_pre {l : List Node} {k : Nat} (h : k < l.length) : (nods (l.take k)).length = k * 13 := by rw [nodes_length, List.length_take]; congr 1; omega
def zeroN : Node := ⟨0, 0, 0, 0, 0, 0, 0, 0, [], 0, 0, [], []⟩
theorem zero_nodes (n : Nat) : (List.replicate n [iV 0, iV 0, iV 0, iV 0, iV 0, iV 0, iV 0, iV 0, DV.sl 1 [], iV 0, iV 0, DV.sl 3 [], DV.sl 1 []]).flatten = nods (List.replicate n zeroN) := by
  simp only [nods, flat, List.flatMap, List.map_replicate]
  rfl
theorem take_rep_n {l : List Node} {k : Nat} (h : k < l.length) : (l.take k ++ List.replicate (l.length - k) zeroN).set k l[k] = l.take (k + 1) ++ List.replicate (l.length - (k + 1)) zeroN := take_rep_step h

def Node.leftG (n : Node) (b : Int) : Int := if left1 n.chunks.length b < 0 then -1 else if left1 n.things.length (left1 n.chunks.length b) < 0 then -1 else left1 n.tags.length (left1 n.things.length (left1 n.chunks.length b))
theorem Node.leftG_eq {n : Node} {b : Int} (_ : 0 ≤ b) : n.leftG b = if n.sz ≤ b then b - n.sz else -1 := by
  unfold Node.leftG left1 Node.sz
  repeat' split
  all_goals omega
def szs : List Node → Int
  | [] => 0
  | n :: l => n.sz + szs l
theorem sz_nonneg (n : Node) : 0 ≤ n.sz := by unfold Node.sz; omega
theorem szs_nonneg : ∀ l : List Node, 0 ≤ szs l
  | [] => Int.le_refl _
  | n :: l => by have := szs_nonneg l; have := sz_nonneg n; simp only [szs]; omega
theorem szs_app : ∀ a b : List Node, szs (a ++ b) = szs a + szs b
  | [], b => by simp [szs]
  | n :: a, b => by simp only [List.cons_append, szs, szs_app a b]; omega
theorem szs_succ {l : List Node} {k : Nat} (h : k < l.length) : szs (l.take (k + 1)) = szs (l.take k) + l[k].sz := by
  rw [List.take_succ_eq_append_getElem h, szs_app]; simp [szs]
theorem szs_take (l : List Node) (k : Nat) : szs (l.take k) ≤ szs l := by
  have := szs_app (l.take k) (l.drop k)
  rw [List.take_append_drop] at this
  have := szs_nonneg (l.drop k)
  omega
theorem szs_at {l : List Node} {k : Nat} (h : k < l.length) : l[k].sz ≤ szs l := by
  have := szs_succ h; have := szs_take l (k + 1); have := szs_nonneg (l.take k); omega
theorem sz_mem {l : List Node} {n : Node} (h : n ∈ l) : n.sz ≤ szs l := by
  obtain ⟨i, hi, rfl⟩ := List.mem_iff_getElem.1 h
  exact szs_at hi
/-- What a table measures. -/
def totN (l : List Node) : Int := l.length + szs l
def Nodes (l : List Node) : Prop := l.length ≤ M63 ∧ ∀ n ∈ l, n.ok
theorem getP_one (sz : Nat) (es : List DV) (j : Nat) : (DV.sl sz es).getP [j] = es.getD j dfl := rfl
theorem InP_one (sz : Nat) (es : List DV) (j : Nat) : (DV.sl sz es).InP [j] = (j < es.length ∧ True) := rfl
theorem placeOk_one (sz : Nat) (es : List DV) (j : Nat) : placeOk (oneC (CV.own (DV.sl sz es))) [j] = (j < es.length ∧ True) := rfl
theorem setP_nil (d x : DV) : d.setP x [] = x := by cases d <;> rfl
theorem toDV_own (d : DV) : (CV.own d).toDV = d := rfl
/-- A node with marks, from b on; the mark behind it. -/
def Node.markS (n : Node) (b : Int) : Node := ⟨b, b + 1, b + 1 + 1, b + 1 + 1 + 1, b + 1 + 1 + 1 + 1, b + 1 + 1 + 1 + 1 + 1, b + 1 + 1 + 1 + 1 + 1 + 1, b + 1 + 1 + 1 + 1 + 1 + 1 + 1, marks (b + 1 + 1 + 1 + 1 + 1 + 1 + 1 + 1) n.chunks.length,
  b + 1 + 1 + 1 + 1 + 1 + 1 + 1 + 1 + n.chunks.length, b + 1 + 1 + 1 + 1 + 1 + 1 + 1 + 1 + n.chunks.length + 1, marksT (b + 1 + 1 + 1 + 1 + 1 + 1 + 1 + 1 + n.chunks.length + 1 + 1) n.things.length,
  marks (b + 1 + 1 + 1 + 1 + 1 + 1 + 1 + 1 + n.chunks.length + 1 + 1 + 3 * n.things.length) n.tags.length⟩
def Node.mend (n : Node) (b : Int) : Int := b + 1 + 1 + 1 + 1 + 1 + 1 + 1 + 1 + n.chunks.length + 1 + 1 + 3 * n.things.length + n.tags.length
def markNs : Int → List Node → List Node
  | _, [] => []
  | b, n :: l => n.markS b :: markNs (n.mend b) l
def endNs : Int → List Node → Int
  | b, [] => b
  | b, n :: l => endNs (n.mend b) l
theorem markNs_app : ∀ (l r : List Node) (b : Int), markNs b (l ++ r) = markNs b l ++ markNs (endNs b l) r
  | [], r, b => rfl
  | n :: l, r, b => by simp only [List.cons_append, markNs, endNs, markNs_app l r]
theorem endNs_app : ∀ (l r : List Node) (b : Int), endNs b (l ++ r) = endNs (endNs b l) r
  | [], r, b => rfl
  | n :: l, r, b => by simp only [List.cons_append, endNs, endNs_app l r]
theorem markNs_length : ∀ (l : List Node) (b : Int), (markNs b l).length = l.length
  | [], b => rfl
  | n :: l, b => by simp only [markNs, List.length_cons, markNs_length l]
theorem endNs_le : ∀ (l : List Node) (b : Int), b ≤ endNs b l ∧ endNs b l ≤ b + 10 * l.length + 3 * szs l
  | [], b => by simp [endNs, szs]
  | n :: l, b => by
    obtain ⟨h1, h2⟩ := endNs_le l (n.mend b)
    have e : n.mend b = b + 10 + n.chunks.length + 3 * n.things.length + n.tags.length := by unfold Node.mend; omega
    simp only [endNs, szs, Node.sz, List.length_cons]
    omega
def slotB (l : List Node) (k : Int) : Bool := decide (0 ≤ k) && decide (k < l.length)
theorem slotB_iff {l : List Node} {k : Int} : slotB l k = true ↔ 0 ≤ k ∧ k < l.length := by simp [slotB]
theorem c_isSlot {l : List Node} (hl : l.length ≤ M63) (k : Int) : CallD Try.prog F_impl_isSlot [rNs l, iS k] fun r _ => r = bS (slotB l k) := by
  unfold M63 at hl
  refine k_impl_isSlot ?_
  unfold vc_impl_isSlot
  simp only [nI, n_nodes]
  rw [wrap_id (n := (l.length : Int) - 1) (by omega) (by omega)]
  have e : within k 0 ((l.length : Int) - 1) = slotB l k := by
    rw [Bool.eq_iff_iff, within_iff, slotB_iff]; omega
  refine ⟨_, c_within _ _ _, fun h => bS_eq ?_, fun h => bS_eq ?_⟩ <;> rw [← e, h]
theorem c_l9Place {l : List Node} (k : Int) : CallD Try.prog F_spec_l9Place [rNs l, iS k] fun r _ => r = bS (slotB l (k - 1)) := by
  refine k_spec_l9Place ?_
  unfold vc_spec_l9Place
  simp only [nI, n_nodes]
  have e : slotB l (k - 1) = (decide (1 ≤ k) && decide (k ≤ l.length)) := by
    rw [Bool.eq_iff_iff, slotB_iff]; simp only [Bool.and_eq_true, decide_eq_true_eq]; omega
  refine ⟨fun h1 => ⟨fun h2 => bS_eq ?_, fun h2 => bS_eq ?_⟩, fun h1 => bS_eq ?_⟩ <;> rw [e] <;> simp [*]
theorem slot_wrap {l : List Node} (hl : l.length ≤ M63) {k : Int} (hk : I64 k) : slotB l (IntKind.i64.wrap (k + 1) - 1) = slotB l k := by
  unfold M63 at hl
  unfold I64 at hk
  rw [Bool.eq_iff_iff, slotB_iff, slotB_iff, wrapI]
  split <;> omega
theorem getD_node {l : List Node} {k : Nat} (h : k < l.length) : l.getD k zeroN = l[k] := by simp [List.getD_eq_getElem?_getD, h]
/-- The way up from a slot, no longer than so. -/
def rise (l : List Node) : Nat → Int → List Int
  | 0, _ => []
  | f + 1, k => if slotB l k then k :: rise l f (IntKind.i64.wrap ((l.getD k.toNat zeroN).up - 1)) else []
theorem rise_len (l : List Node) : ∀ (f : Nat) (k : Int), (rise l f k).length ≤ f
  | 0, _ => Nat.le_refl _
  | f + 1, k => by
    unfold rise
    split
    · have := rise_len l f (IntKind.i64.wrap ((l.getD k.toNat zeroN).up - 1)); simp only [List.length_cons]; omega
    · simp
theorem rise_out {l : List Node} {f : Nat} {k : Int} (h : slotB l k = false) : rise l f k = [] := by
  cases f with
  | zero => rfl
  | succ f => unfold rise; rw [h]; rfl
theorem c_Rise {l : List Node} (hl : l.length ≤ 1048576) {k : Int} (hk : I64 k) : CallD Try.prog F_impl_Rise [rNs l, iS k] fun r _ => r = oI (rise l l.length k) := by
  have hM : l.length ≤ M63 := by unfold M63; omega
  refine k_impl_Rise ?_
  unfold vc_impl_Rise
  refine ⟨fun n es m => ∃ acc : List Int, es = ints acc ∧ acc.length ≤ l.length ∧ m = l.length - acc.length ∧ I64 n ∧ acc ++ rise l (l.length - acc.length) n = rise l l.length k, ⟨_, [], rfl, by simp, rfl, hk, by simp⟩, ?_⟩
  rintro n es m ⟨acc, rfl, ha, rfl, hn, hr⟩
  simp only [nI, n_nodes, n_one, List.length_singleton, ints_length, decide_eq_true_eq (p := (acc.length : Int) < l.length), decide_eq_false_iff_not (p := (acc.length : Int) < l.length)]
  refine ⟨_, c_isSlot hM n, fun g1 => ⟨fun g2 => ?_, fun g2 => ?_⟩, fun g1 => ?_⟩
  · obtain ⟨q1, q2⟩ := slotB_iff.1 g1
    have hi : n.toNat < l.length := by omega
    simp only [drop_nodes hi, List.drop_succ_cons, List.drop_zero, hdD_cons, isI_iV, asI_iV, ints_snoc]
    refine ⟨by omega, by omega, q1, q2, by simp, trivial, trivial, l.length - (acc.length + 1), by omega, acc ++ [n], rfl, by simp; omega, by simp, wrap_I64 _, ?_⟩
    rw [← hr]
    have e : l.length - acc.length = (l.length - (acc.length + 1)) + 1 := by omega
    rw [e]
    conv => rhs; unfold rise
    rw [if_pos g1, getD_node hi]
    simp
  · have e : l.length - acc.length = 0 := by omega
    rw [e] at hr
    rw [← hr]
    simp [rise]
  · rw [rise_out g1] at hr
    rw [← hr]; simp
theorem c_RiseS {l : List Node} (hl : l.length ≤ 1048576) {k : Int} (hk : I64 k) : CallD Try.prog F_spec_Rise [rNs l, iS k] fun r _ => r = oI (rise l l.length k) := by
  have hM : l.length ≤ M63 := by unfold M63; omega
  refine k_spec_Rise ?_
  unfold vc_spec_Rise
  refine ⟨fun n es m => ∃ acc : List Int, es = ints acc ∧ acc.length ≤ l.length ∧ m = l.length - acc.length ∧ I64 n ∧ acc ++ rise l (l.length - acc.length) n = rise l l.length k, ⟨_, [], rfl, by simp, rfl, hk, by simp⟩, ?_⟩
  rintro n es m ⟨acc, rfl, ha, rfl, hn, hr⟩
  have hP := c_l9Place (l := l) (IntKind.i64.wrap (n + 1))
  rw [slot_wrap hM hn] at hP
  simp only [nI, n_nodes, n_one, List.length_singleton, ints_length, decide_eq_true_eq (p := (acc.length : Int) < l.length), decide_eq_false_iff_not (p := (acc.length : Int) < l.length)]
  refine ⟨_, hP, fun g1 => ⟨fun g2 => ?_, fun g2 => ?_⟩, fun g1 => ?_⟩
  · obtain ⟨q1, q2⟩ := slotB_iff.1 g1
    have hi : n.toNat < l.length := by omega
    simp only [drop_nodes hi, List.drop_succ_cons, List.drop_zero, hdD_cons, isI_iV, asI_iV, ints_snoc]
    refine ⟨by omega, by omega, q1, q2, by simp, trivial, trivial, l.length - (acc.length + 1), by omega, acc ++ [n], rfl, by simp; omega, by simp, wrap_I64 _, ?_⟩
    rw [← hr]
    have e : l.length - acc.length = (l.length - (acc.length + 1)) + 1 := by omega
    rw [e]
    conv => rhs; unfold rise
    rw [if_pos g1, getD_node hi]
    simp
  · have e : l.length - acc.length = 0 := by omega
    rw [e] at hr
    rw [← hr]
    simp [rise]
  · rw [rise_out g1] at hr
    rw [← hr]; simp
end Go.Proofs.Ythmpdfmdhfgaaaa
