/- Contracts of small functions: tables of nodes, measured, copied, compared. -/
import Derived.Test.YtlffmhhdgedddaaHIK
import Derived.Test.YtlffmhhdgedddaaVHNO
namespace Go.Proofs.Ytlffmhhdgedddaa
open Go Go.Proofs.Ytlffmhhdgedddaa.DL
set_option maxRecDepth 100000

/-- Writes and reads behind a part of known length. -/
theorem set_at {α : Type} {p q : List α} {m : Nat} (h : p.length = m) (j : Nat) (v : α) : (p ++ q).set (m + j) v = p ++ q.set j v := by
  rw [List.set_append_right _ _ (by omega), h, Nat.add_sub_cancel_left]
theorem set_at0 {α : Type} {p q : List α} {m : Nat} (h : p.length = m) (v : α) : (p ++ q).set m v = p ++ q.set 0 v := set_at h 0 v
theorem getD_at {α : Type} {p q : List α} {m : Nat} (h : p.length = m) (j : Nat) (d : α) : (p ++ q).getD (m + j) d = q.getD j d := by
  rw [List.getD_eq_getElem?_getD, List.getD_eq_getElem?_getD, List.getElem?_append_right (by omega), h, Nat.add_sub_cancel_left]
theorem nodes_split {l : List Node} {k : Nat} (h : k < l.length) : nods l = nods (l.take k) ++ (l[k].enc ++ nods (l.drop (k + 1))) := by
  have e : l = l.take k ++ l[k] :: l.drop (k + 1) := by rw [List.getElem_cons_drop, List.take_append_drop]
  have e2 : nods l = nods (l.take k ++ l[k] :: l.drop (k + 1)) := by rw [← e]
  rw [e2]
  unfold nods flat
  rw [List.flatMap_append, List.flatMap_cons]
theorem nodes_set {l : List Node} {k : Nat} (h : k < l.length) (n : Node) : nods (l.set k n) = nods (l.take k) ++ (n.enc ++ nods (l.drop (k + 1))) := by
  rw [List.set_eq_take_append_cons_drop, if_pos h]
  unfold nods flat
  rw [List.flatMap_append, List.flatMap_cons]
theorem nodes_pre {l : List Node} {k : Nat} (h : k < l.length) : (nods (l.take k)).length = k * 13 := by rw [nodes_length, List.length_take]; congr 1; omega
def zeroN : Node := ⟨0, 0, 0, 0, 0, 0, 0, 0, [], 0, 0, [], []⟩
theorem zero_nodes (n : Nat) : (List.replicate n [iV 0, iV 0, iV 0, iV 0, iV 0, iV 0, iV 0, iV 0, DV.sl 1 [], iV 0, iV 0, DV.sl 3 [], DV.sl 1 []]).flatten = nods (List.replicate n zeroN) := by
  simp only [nods, flat, List.flatMap, List.map_replicate]
  rfl
theorem take_rep_n {l : List Node} {k : Nat} (h : k < l.length) : (l.take k ++ List.replicate (l.length - k) zeroN).set k l[k] = l.take (k + 1) ++ List.replicate (l.length - (k + 1)) zeroN := take_rep_step h

def Node.leftG (n : Node) (b : Int) : Int := if left1 n.chunks.length b < 0 then -1 else if left1 n.things.length (left1 n.chunks.length b) < 0 then -1 else left1 n.tags.length (left1 n.things.length (left1 n.chunks.length b))
theorem Node.leftG_eq {n : Node} {b : Int} (_ : 0 ≤ b) : n.leftG b = if n.sz ≤ b then b - n.sz else -1 := by
  unfold Node.leftG left1 Node.sz
  repeat' split
  all_goals omega
def szs : List Node → Int
  | [] => 0
  | n :: l => n.sz + szs l
theorem sz_nonneg (n : Node) : 0 ≤ n.sz := by unfold Node.sz; omega
theorem szs_nonneg : ∀ l : List Node, 0 ≤ szs l
  | [] => Int.le_refl _
  | n :: l => by have := szs_nonneg l; have := sz_nonneg n; simp only [szs]; omega
theorem szs_app : ∀ a b : List Node, szs (a ++ b) = szs a + szs b
  | [], b => by simp [szs]
  | n :: a, b => by simp only [List.cons_append, szs, szs_app a b]; omega
theorem szs_succ {l : List Node} {k : Nat} (h : k < l.length) : szs (l.take (k + 1)) = szs (l.take k) + l[k].sz := by
  rw [List.take_succ_eq_append_getElem h, szs_app]; simp [szs]
theorem szs_take (l : List Node) (k : Nat) : szs (l.take k) ≤ szs l := by
  have := szs_app (l.take k) (l.drop k)
  rw [List.take_append_drop] at this
  have := szs_nonneg (l.drop k)
  omega
theorem szs_at {l : List Node} {k : Nat} (h : k < l.length) : l[k].sz ≤ szs l := by
  have := szs_succ h; have := szs_take l (k + 1); have := szs_nonneg (l.take k); omega
theorem sz_mem {l : List Node} {n : Node} (h : n ∈ l) : n.sz ≤ szs l := by
  obtain ⟨i, hi, rfl⟩ := List.mem_iff_getElem.1 h
  exact szs_at hi
/-- What a table measures. -/
def totN (l : List Node) : Int := l.length + szs l
def Nodes (l : List Node) : Prop := l.length ≤ M63 ∧ ∀ n ∈ l, n.ok
theorem c_eqNodeS_self {l : List Node} (h : totN l ≤ 1048576) : CallD Try.prog F_laws_eqNodeS [rNs l, rNs l] fun r _ => r = bS true := by
  have h0 := szs_nonneg l
  unfold totN at h
  refine k_laws_eqNodeS ?_
  unfold vc_laws_eqNodeS
  simp only [nI, n_nodes]
  refine ⟨fun g => absurd g (by simp), fun _ => ⟨fun i m => ∃ k : Nat, i = k ∧ k ≤ l.length ∧ m = l.length - k, ⟨l.length, 0, rfl, Nat.zero_le _, rfl⟩, ?_⟩⟩
  rintro i m ⟨k, rfl, hk, rfl⟩
  simp only [Int.toNat_natCast, decide_eq_true_eq (p := (k : Int) < l.length), decide_eq_false_iff_not (p := (k : Int) < l.length)]
  refine ⟨fun h1 => ?_, fun _ => trivial⟩
  have ha : k < l.length := by omega
  simp only [drop_nodes ha, hdD_cons, List.tail_cons, isI_iV, asI_iV, isL_sl, es_sl, wrap_id (n := (k : Int) + 1) (by omega) (by omega)]
  exact ⟨by omega, by omega, by simp, trivial, trivial, trivial, trivial, trivial, trivial, trivial, trivial, trivial, trivial, trivial, trivial, trivial, by omega, by omega, by simp, trivial, trivial, trivial, trivial, trivial, trivial, trivial, trivial, trivial, trivial, trivial, trivial, trivial,
    _, c_eqNode_self (by have := szs_at ha; omega), fun _ => ⟨⟨trivial, trivial⟩, l.length - (k + 1), by omega, k + 1, by omega, by omega, rfl⟩, fun g => absurd g (by simp)⟩

theorem getP_one (sz : Nat) (es : List DV) (j : Nat) : (DV.sl sz es).getP [j] = es.getD j dfl := rfl
theorem InP_one (sz : Nat) (es : List DV) (j : Nat) : (DV.sl sz es).InP [j] = (j < es.length ∧ True) := rfl
theorem placeOk_one (sz : Nat) (es : List DV) (j : Nat) : placeOk (oneC (CV.own (DV.sl sz es))) [j] = (j < es.length ∧ True) := rfl
theorem setP_nil (d x : DV) : d.setP x [] = x := by cases d <;> rfl
theorem toDV_own (d : DV) : (CV.own d).toDV = d := rfl
/-- A node with marks, from b on; the mark behind it. -/
def Node.markS (n : Node) (b : Int) : Node := ⟨b, b + 1, b + 1 + 1, b + 1 + 1 + 1, b + 1 + 1 + 1 + 1, b + 1 + 1 + 1 + 1 + 1, b + 1 + 1 + 1 + 1 + 1 + 1, b + 1 + 1 + 1 + 1 + 1 + 1 + 1, marks (b + 1 + 1 + 1 + 1 + 1 + 1 + 1 + 1) n.chunks.length,
  b + 1 + 1 + 1 + 1 + 1 + 1 + 1 + 1 + n.chunks.length, b + 1 + 1 + 1 + 1 + 1 + 1 + 1 + 1 + n.chunks.length + 1, marksT (b + 1 + 1 + 1 + 1 + 1 + 1 + 1 + 1 + n.chunks.length + 1 + 1) n.things.length,
  marks (b + 1 + 1 + 1 + 1 + 1 + 1 + 1 + 1 + n.chunks.length + 1 + 1 + 3 * n.things.length) n.tags.length⟩
def Node.mend (n : Node) (b : Int) : Int := b + 1 + 1 + 1 + 1 + 1 + 1 + 1 + 1 + n.chunks.length + 1 + 1 + 3 * n.things.length + n.tags.length
def markNs : Int → List Node → List Node
  | _, [] => []
  | b, n :: l => n.markS b :: markNs (n.mend b) l
def endNs : Int → List Node → Int
  | b, [] => b
  | b, n :: l => endNs (n.mend b) l
theorem markNs_app : ∀ (l r : List Node) (b : Int), markNs b (l ++ r) = markNs b l ++ markNs (endNs b l) r
  | [], r, b => rfl
  | n :: l, r, b => by simp only [List.cons_append, markNs, endNs, markNs_app l r]
theorem endNs_app : ∀ (l r : List Node) (b : Int), endNs b (l ++ r) = endNs (endNs b l) r
  | [], r, b => rfl
  | n :: l, r, b => by simp only [List.cons_append, endNs, endNs_app l r]
theorem markNs_length : ∀ (l : List Node) (b : Int), (markNs b l).length = l.length
  | [], b => rfl
  | n :: l, b => by simp only [markNs, List.length_cons, markNs_length l]
theorem endNs_le : ∀ (l : List Node) (b : Int), b ≤ endNs b l ∧ endNs b l ≤ b + 10 * l.length + 3 * szs l
  | [], b => by simp [endNs, szs]
  | n :: l, b => by
    obtain ⟨h1, h2⟩ := endNs_le l (n.mend b)
    have e : n.mend b = b + 10 + n.chunks.length + 3 * n.things.length + n.tags.length := by unfold Node.mend; omega
    simp only [endNs, szs, Node.sz, List.length_cons]
    omega
theorem c_markNodeS {l : List Node} (h : totN l ≤ 1048576) {b : Int} (h0 : 0 ≤ b) (hb : b ≤ 1073741824) : CallD Try.prog F_laws_markNodeS [oNs l, iS b] fun r bs => r = iS (endNs b l) ∧ bs.getD 0 .dead = oNs (markNs b l) := by
  have hz := szs_nonneg l
  unfold totN at h
  refine k_laws_markNodeS ?_
  unfold vc_laws_markNodeS
  refine ⟨fun es n n1 m => ∃ k : Nat, n1 = k ∧ k ≤ l.length ∧ m = l.length - k ∧ n = endNs b (l.take k) ∧ es = nods (markNs b (l.take k) ++ l.drop k), ⟨_, 0, rfl, Nat.zero_le _, rfl, rfl, rfl⟩, ?_⟩
  rintro es n n1 m ⟨k, rfl, hk, rfl, rfl, rfl⟩
  have e0 : (markNs b (l.take k) ++ l.drop k).length = l.length := by simp [markNs_length]; omega
  have hM := markNs_length (l.take k) b
  rw [List.length_take] at hM
  refine ⟨fun g => ?_, fun g => ?_⟩
  · have ha : k < l.length := by
      simp only [nI, n_nodes, e0, decide_eq_true_eq] at g; omega
    have htk : l.take (k + 1) = l.take k ++ [l[k]] := List.take_succ_eq_append_getElem ha
    have hle := endNs_le (l.take k) b
    have hz2 := szs_take l k
    have hs := szs_at ha
    rw [List.length_take] at hle
    have hle2 : b ≤ endNs b (l.take k) ∧ endNs b (l.take k) ≤ 1100000000 := by
      have : min k l.length = k := by omega
      rw [this] at hle
      omega
    have sp : nods (markNs b (l.take k) ++ l.drop k) = nods (markNs b (l.take k)) ++ (l[k].enc ++ nods (l.drop (k + 1))) := by
      rw [List.drop_eq_getElem_cons ha]
      unfold nods flat
      rw [List.flatMap_append, List.flatMap_cons]
    have hp : (nods (markNs b (l.take k))).length = k * 13 := by rw [nodes_length, hM]; congr 1; omega
    have hq : (nods (l.drop (k + 1))).length = (l.length - (k + 1)) * 13 := by rw [nodes_length, List.length_drop]
    have hend : endNs b (l.take (k + 1)) = l[k].mend (endNs b (l.take k)) := by rw [htk, endNs_app]; rfl
    have hes : nods (markNs b (l.take (k + 1)) ++ l.drop (k + 1)) = nods (markNs b (l.take k)) ++ ((l[k].markS (endNs b (l.take k))).enc ++ nods (l.drop (k + 1))) := by
      rw [htk, markNs_app, List.append_assoc]
      unfold nods flat
      rw [List.flatMap_append]
      rfl
    rw [sp]
    clear sp g e0 hM htk hz2 hle
    generalize nods (markNs b (l.take k)) = p at *
    generalize nods (l.drop (k + 1)) = q at *
    generalize endNs b (l.take k) = n at *
    unfold Node.sz at hs
    simp only [Int.toNat_natCast, Nat.add_zero, Node.enc, List.cons_append, List.nil_append, set_at hp, set_at0 hp, getD_at hp, List.set_cons_zero, List.set_cons_succ, List.getD_cons_zero, List.getD_cons_succ, getP_one, InP_one, placeOk_one, setP_nil, toDV_own, isL_sl, es_sl,
      nI, DV.n_eq, List.length_append, List.length_cons, hp, hq]
    simp (disch := omega) only [wrap_id]
    have hlt : l.length - (k + 1) < l.length - k := by omega
    have hk1 : ((k : Int) + 1) = ((k + 1 : Nat) : Int) := by omega
    have m1 := c_markI (l := l[k].chunks) (b := n + 1 + 1 + 1 + 1 + 1 + 1 + 1 + 1) (by omega) (by omega) (by unfold M40; omega)
    have m2 := c_markTh (l := l[k].things) (b := n + 1 + 1 + 1 + 1 + 1 + 1 + 1 + 1 + l[k].chunks.length + 1 + 1) (by omega) (by omega) (by unfold M40; omega)
    have m3 := c_markI (l := l[k].tags) (b := n + 1 + 1 + 1 + 1 + 1 + 1 + 1 + 1 + l[k].chunks.length + 1 + 1 + 3 * l[k].things.length) (by omega) (by omega) (by unfold M40; omega)
    repeat' (first
      | omega
      | trivial
      | (refine ⟨?_, trivial⟩; omega)
      | rfl
      | exact m1 | exact m2 | exact m3 | exact hlt | exact hk1 | exact hend.symm | exact hes.symm
      | (simp (disch := omega) only [wrap_id]; first | exact m2 | exact m3 | exact hend.symm | exact hes.symm)
      | apply And.intro
      | apply Exists.intro)
  · have : k = l.length := by
      simp only [nI, n_nodes, e0, decide_eq_false_iff_not] at g; omega
    subst this
    simp

def slotB (l : List Node) (k : Int) : Bool := decide (0 ≤ k) && decide (k < l.length)
theorem slotB_iff {l : List Node} {k : Int} : slotB l k = true ↔ 0 ≤ k ∧ k < l.length := by simp [slotB]
theorem slot_wrap {l : List Node} (hl : l.length ≤ M63) {k : Int} (hk : I64 k) : slotB l (IntKind.i64.wrap (k + 1) - 1) = slotB l k := by
  unfold M63 at hl
  unfold I64 at hk
  rw [Bool.eq_iff_iff, slotB_iff, slotB_iff, wrapI]
  split <;> omega
theorem getD_node {l : List Node} {k : Nat} (h : k < l.length) : l.getD k zeroN = l[k] := by simp [List.getD_eq_getElem?_getD, h]
/-- The way up from a slot, no longer than so. -/
def rise (l : List Node) : Nat → Int → List Int
  | 0, _ => []
  | f + 1, k => if slotB l k then k :: rise l f (IntKind.i64.wrap ((l.getD k.toNat zeroN).up - 1)) else []
theorem rise_len (l : List Node) : ∀ (f : Nat) (k : Int), (rise l f k).length ≤ f
  | 0, _ => Nat.le_refl _
  | f + 1, k => by
    unfold rise
    split
    · have := rise_len l f (IntKind.i64.wrap ((l.getD k.toNat zeroN).up - 1)); simp only [List.length_cons]; omega
    · simp
theorem rise_out {l : List Node} {f : Nat} {k : Int} (h : slotB l k = false) : rise l f k = [] := by
  cases f with
  | zero => rfl
  | succ f => unfold rise; rw [h]; rfl
end Go.Proofs.Ytlffmhhdgedddaa
