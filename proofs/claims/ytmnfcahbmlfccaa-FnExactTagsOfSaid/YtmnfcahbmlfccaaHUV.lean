/- Contracts of small functions: children; the steps that remains need. -/
import Derived.Test.YtmnfcahbmlfccaaHT
import Derived.Test.YtmnfcahbmlfccaaHP
import Derived.Test.YtmnfcahbmlfccaaVHUV
namespace Go.Proofs.Ytmnfcahbmlfccaa
open Go Go.Proofs.Ytmnfcahbmlfccaa.DL
set_option maxRecDepth 100000

def kids (l : List Node) : Nat → Int → List Int
  | 0, _ => []
  | f + 1, k => if slotB l k then k :: kids l f (IntKind.i64.wrap ((l.getD k.toNat zeroN).next - 1)) else []
theorem kids_len (l : List Node) : ∀ (f : Nat) (k : Int), (kids l f k).length ≤ f
  | 0, _ => Nat.le_refl _
  | f + 1, k => by
    unfold kids
    split
    · have := kids_len l f (IntKind.i64.wrap ((l.getD k.toNat zeroN).next - 1)); simp only [List.length_cons]; omega
    · simp
theorem kids_out {l : List Node} {f : Nat} {k : Int} (h : slotB l k = false) : kids l f k = [] := by
  cases f with
  | zero => rfl
  | succ f => unfold kids; rw [h]; rfl
theorem kids_slot {l : List Node} : ∀ (f : Nat) (k : Int), ∀ x ∈ kids l f k, slotB l x = true
  | 0, _, x, hx => by cases hx
  | f + 1, k, x, hx => by
    unfold kids at hx
    split at hx
    · rename_i hs
      rcases List.mem_cons.1 hx with rfl | hx
      · exact hs
      · exact kids_slot f _ x hx
    · cases hx
/-- The children of a list that begins at 'first'. -/
def kidsL (l : List Node) (first : Int) : List Int := kids l l.length (IntKind.i64.wrap (first - 1))
theorem kidsL_len (l : List Node) (first : Int) : (kidsL l first).length ≤ l.length := kids_len ..
theorem kidsL_slot {l : List Node} {first : Int} : ∀ x ∈ kidsL l first, slotB l x = true := kids_slot _ _
theorem c_KidsOf {l : List Node} (hl : l.length ≤ 1048576) (first : Int) : CallD Try.prog F_impl_KidsOf [rNs l, iS first] fun r _ => r = oI (kidsL l first) := by
  have hM : l.length ≤ M63 := by unfold M63; omega
  refine k_impl_KidsOf ?_
  unfold vc_impl_KidsOf kidsL
  refine ⟨fun es n m => ∃ acc : List Int, es = ints acc ∧ acc.length ≤ l.length ∧ m = l.length - acc.length ∧ acc ++ kids l (l.length - acc.length) n = kids l l.length (IntKind.i64.wrap (first - 1)), ⟨_, [], rfl, by simp, rfl, by simp⟩, ?_⟩
  rintro es n m ⟨acc, rfl, ha, rfl, hr⟩
  simp only [nI, n_nodes, n_one, List.length_singleton, ints_length, decide_eq_true_eq (p := (acc.length : Int) < l.length), decide_eq_false_iff_not (p := (acc.length : Int) < l.length)]
  refine ⟨_, c_isSlot hM n, fun g1 => ⟨fun g2 => ?_, fun g2 => ?_⟩, fun g1 => ?_⟩
  · obtain ⟨q1, q2⟩ := slotB_iff.1 g1
    have hi : n.toNat < l.length := by omega
    simp only [drop_nodes hi, List.drop_succ_cons, List.drop_zero, hdD_cons, isI_iV, asI_iV, ints_snoc]
    refine ⟨by omega, by omega, q1, q2, by simp, trivial, trivial, l.length - (acc.length + 1), by omega, acc ++ [n], rfl, by simp; omega, by simp, ?_⟩
    rw [← hr]
    have e : l.length - acc.length = (l.length - (acc.length + 1)) + 1 := by omega
    rw [e]
    conv => rhs; unfold kids
    rw [if_pos g1, getD_node hi]
    simp
  · have e : l.length - acc.length = 0 := by omega
    rw [e] at hr
    rw [← hr]
    simp [kids]
  · rw [kids_out g1] at hr
    rw [← hr]; simp
theorem c_KidsOfS {l : List Node} (hl : l.length ≤ 1048576) (hok : ∀ n ∈ l, n.ok) {first : Int} (hf : I64 first) : CallD Try.prog F_spec_KidsOf [rNs l, iS first] fun r _ => r = oI (kidsL l first) := by
  have hM : l.length ≤ M63 := by unfold M63; omega
  refine k_spec_KidsOf ?_
  unfold vc_spec_KidsOf kidsL
  refine ⟨fun n es m => ∃ acc : List Int, es = ints acc ∧ acc.length ≤ l.length ∧ m = l.length - acc.length ∧ I64 n ∧ acc ++ kids l (l.length - acc.length) (IntKind.i64.wrap (n - 1)) = kids l l.length (IntKind.i64.wrap (first - 1)), ⟨_, [], rfl, by simp, rfl, hf, by simp⟩, ?_⟩
  rintro n es m ⟨acc, rfl, ha, rfl, hn, hr⟩
  have hP := c_l9Place (l := l) n
  rw [slot_pred hM hn] at hP
  simp only [nI, n_nodes, n_one, List.length_singleton, ints_length, decide_eq_true_eq (p := (acc.length : Int) < l.length), decide_eq_false_iff_not (p := (acc.length : Int) < l.length)]
  generalize IntKind.i64.wrap (n - 1) = u at *
  refine ⟨_, hP, fun g1 => ⟨fun g2 => ?_, fun g2 => ?_⟩, fun g1 => ?_⟩
  · obtain ⟨q1, q2⟩ := slotB_iff.1 g1
    have hi : u.toNat < l.length := by omega
    simp only [drop_nodes hi, List.drop_succ_cons, List.drop_zero, hdD_cons, isI_iV, asI_iV, ints_snoc]
    refine ⟨by omega, by omega, q1, q2, by simp, trivial, trivial, l.length - (acc.length + 1), by omega, acc ++ [u], rfl, by simp; omega, by simp, (hok _ (List.getElem_mem hi)).2.2.2.2.2.2.1, ?_⟩
    rw [← hr]
    have e : l.length - acc.length = (l.length - (acc.length + 1)) + 1 := by omega
    rw [e]
    conv => rhs; unfold kids
    rw [if_pos g1, getD_node hi]
    simp
  · have e : l.length - acc.length = 0 := by omega
    rw [e] at hr
    rw [← hr]
    simp [kids]
  · rw [kids_out g1] at hr
    rw [← hr]; simp
def steps (c : Conf) (x : Waste) : Nat → Int
  | 0 => IntKind.i64.wrap (x.tags.length + 1)
  | k + 1 => IntKind.i64.wrap (steps c x k + if k = 0 then ceilDiv (IntKind.i64.wrap (c.size - x.done)) c.slice else ceilDiv c.size c.slice)
def remains (n : Node) (slot : Int) : Waste := ⟨slot, n.first, n.tags, n.chunks, 0⟩
theorem c_WasteOf {n : Node} (hs : n.sz ≤ 1048576) (slot : Int) : CallD Try.prog F_impl_WasteOf [rNode n, iS slot] fun r _ => r = oWaste (remains n slot) := by
  unfold Node.sz at hs
  refine k_impl_WasteOf ?_
  unfold vc_impl_WasteOf
  exact ⟨_, c_cloneI (by omega), _, c_cloneI (by omega), rfl⟩
theorem c_WasteOfS {n : Node} (hs : n.sz ≤ 1048576) (slot : Int) : CallD Try.prog F_spec_WasteOf [rNode n, iS slot] fun r _ => r = oWaste (remains n slot) := by
  unfold Node.sz at hs
  refine k_spec_WasteOf ?_
  unfold vc_spec_WasteOf
  simp only [ints_length, n_one, List.length_nil, List.nil_append]
  exact ⟨AllVal_ints _, by omega, by omega, AllVal_ints _, by omega, by omega, rfl⟩

theorem wrap_emod (n : Int) : IntKind.i64.wrap n % 18446744073709551616 = n % 18446744073709551616 := by rw [wrapI]; split <;> omega
theorem wrap_mod {a b : Int} (h : a % 18446744073709551616 = b % 18446744073709551616) : IntKind.i64.wrap a = IntKind.i64.wrap b := by rw [wrapI, wrapI, h]
theorem wrap_l (a b : Int) : IntKind.i64.wrap (IntKind.i64.wrap a + b) = IntKind.i64.wrap (a + b) := wrap_mod (by have := wrap_emod a; omega)
theorem wrap_r (a b : Int) : IntKind.i64.wrap (a + IntKind.i64.wrap b) = IntKind.i64.wrap (a + b) := wrap_mod (by have := wrap_emod b; omega)
theorem wrap_nat (k : Nat) (h : k ≤ 1048576) : IntKind.i64.wrap ((k : Int) + 1) = ((k + 1 : Nat) : Int) := by rw [wrap_id] <;> omega

/-- What lies below slots that were not met before: what it weighs, and what has been met. -/
def deepF {A : Type} (add : A → A → A) (z : A) (own : Int → A) (l : List Node) : Nat → List Int → List Int → A × List Int
  | 0, _, met => (z, met)
  | _ + 1, [], met => (z, met)
  | f + 1, k :: ks, met => if slotB l k && !has met k then
      (add (own k) (add (deepF add z own l f (kidsL l (nodeAt l k).first) (met ++ [k])).1 (deepF add z own l f ks (deepF add z own l f (kidsL l (nodeAt l k).first) (met ++ [k])).2).1),
        (deepF add z own l f ks (deepF add z own l f (kidsL l (nodeAt l k).first) (met ++ [k])).2).2)
    else deepF add z own l f ks met
inductive Deep {A : Type} (add : A → A → A) (z : A) (own : Int → A) (l : List Node) : List Int → List Int → A → List Int → Prop
  | nil {met : List Int} : Deep add z own l [] met z met
  | skip {k : Int} {ks met met' : List Int} {b : A} : (slotB l k && !has met k) = false → Deep add z own l ks met b met' → Deep add z own l (k :: ks) met b met'
  | take {k : Int} {ks met m1 met' : List Int} {a b : A} : slotB l k = true → has met k = false → Deep add z own l (kidsL l (nodeAt l k).first) (met ++ [k]) a m1 → Deep add z own l ks m1 b met' →
      Deep add z own l (k :: ks) met (add (own k) (add a b)) met'
def unmet (l : List Node) (met : List Int) : Nat := ((List.range l.length).filter fun i : Nat => !has met (i : Int)).length
theorem has_snoc (met : List Int) (k b : Int) : has (met ++ [k]) b = (has met b || decide (b = k)) := by simp [has]
theorem unmet_lt {l : List Node} {met : List Int} {k : Int} (hs : slotB l k = true) (hm : has met k = false) : unmet l (met ++ [k]) < unmet l met := by
  obtain ⟨q1, q2⟩ := slotB_iff.1 hs
  have hk : ((k.toNat : Nat) : Int) = k := Int.toNat_of_nonneg q1
  unfold unmet
  have : ((List.range l.length).filter fun i : Nat => !has (met ++ [k]) (i : Int)) = ((List.range l.length).filter fun i : Nat => !has met (i : Int)).filter fun i => decide (i ≠ k.toNat) := by
    rw [List.filter_filter]
    congr 1
    funext i
    rw [has_snoc]
    by_cases e : i = k.toNat
    · subst e
      rw [hk, hm]; simp
    · have : ¬ (i : Int) = k := by omega
      simp [e, this]
  rw [this]
  refine List.length_filter_lt_length_iff_exists.2 ⟨k.toNat, List.mem_filter.2 ⟨List.mem_range.2 (by omega), ?_⟩, by simp⟩
  rw [hk, hm]; rfl
theorem deep_go {A : Type} (add : A → A → A) (z : A) (own : Int → A) (l : List Node) : ∀ (f : Nat) (ks met : List Int), unmet l met * (l.length + 1) + ks.length < f →
    Deep add z own l ks met (deepF add z own l f ks met).1 (deepF add z own l f ks met).2 ∧ unmet l (deepF add z own l f ks met).2 ≤ unmet l met
  | 0, ks, met, h => by omega
  | f + 1, [], met, _ => ⟨.nil, Nat.le_refl _⟩
  | f + 1, k :: ks, met, h => by
    unfold deepF
    simp only [List.length_cons] at h
    by_cases hg : (slotB l k && !has met k) = true
    · rw [if_pos hg]
      simp only [Bool.and_eq_true, Bool.not_eq_true'] at hg
      have hu := unmet_lt hg.1 hg.2
      have hk := kidsL_len l (nodeAt l k).first
      have hm := Nat.mul_le_mul_right (l.length + 1) (Nat.succ_le_of_lt hu)
      rw [Nat.succ_mul] at hm
      obtain ⟨g1, g2⟩ := deep_go add z own l f (kidsL l (nodeAt l k).first) (met ++ [k]) (by omega)
      generalize deepF add z own l f (kidsL l (nodeAt l k).first) (met ++ [k]) = r at *
      have hm2 := Nat.mul_le_mul_right (l.length + 1) (show unmet l r.2 ≤ unmet l met by omega)
      obtain ⟨p1, p2⟩ := deep_go add z own l f ks r.2 (by omega)
      generalize deepF add z own l f ks r.2 = r' at *
      exact ⟨.take hg.1 hg.2 g1 p1, by dsimp only; omega⟩
    · rw [if_neg hg]
      obtain ⟨p1, p2⟩ := deep_go add z own l f ks met (by omega)
      exact ⟨.skip (by simpa using hg) p1, p2⟩
theorem deep_len {A : Type} {add : A → A → A} {z : A} {own : Int → A} {l : List Node} {ks met met' : List Int} {a : A} (h : Deep add z own l ks met a met') : met.length + unmet l met ≤ l.length → met'.length + unmet l met' ≤ l.length := by
  induction h with
  | nil => exact id
  | skip _ _ ih => exact ih
  | take hs hm _ _ ih1 ih2 =>
    intro hh
    refine ih2 (ih1 ?_)
    have := unmet_lt hs hm
    simp only [List.length_append, List.length_singleton]
    omega
theorem unmet_nil (l : List Node) : unmet l [] = l.length := by
  unfold unmet
  have : ((List.range l.length).filter fun i : Nat => !has [] (i : Int)) = List.range l.length := List.filter_eq_self.2 fun _ _ => rfl
  rw [this, List.length_range]
/-- The truths that tell what has been met. -/
def bm (n : Nat) (met : List Int) : List DV := (List.range n).map fun i : Nat => bV (has met (i : Int))
abbrev oM (l : List Node) (met : List Int) : SV := oneC (.own (.sl 1 (bm l.length met)))
theorem bm_len (n : Nat) (met : List Int) : (bm n met).length = n := by simp [bm]
theorem bm_get {l : List Node} {k : Int} (hs : slotB l k = true) (met : List Int) : (bm l.length met).getD k.toNat dfl = bV (has met k) := by
  obtain ⟨q1, q2⟩ := slotB_iff.1 hs
  have hk : ((k.toNat : Nat) : Int) = k := Int.toNat_of_nonneg q1
  have hi : k.toNat < l.length := by omega
  simp [bm, List.getD_eq_getElem?_getD, hi, hk]
theorem bm_set {l : List Node} {k : Int} (hs : slotB l k = true) (met : List Int) : (bm l.length met).set k.toNat (bV true) = bm l.length (met ++ [k]) := by
  obtain ⟨q1, q2⟩ := slotB_iff.1 hs
  refine List.ext_getElem (by simp [bm]) fun i h1 h2 => ?_
  simp only [bm, List.length_map, List.length_range] at h2
  rw [List.getElem_set]
  simp only [bm, List.getElem_map, List.getElem_range, has_snoc]
  split
  · have : (i : Int) = k := by omega
    simp [this]
  · have : ¬ (i : Int) = k := by omega
    simp [this]
theorem bm_nil (n : Nat) : List.replicate n (bV false) = bm n [] := by
  refine List.ext_getElem (by simp [bm]) fun i h1 h2 => ?_
  simp [bm, has]

def ownSt (w : World') (k : Int) : Int := 1 + steps w.c (remains (nodeAt w.l k) 0) (nodeAt w.l k).chunks.length
abbrev DeepD (w : World') := Deep (fun a b : Int => a + b) 0 (ownSt w) w.l
theorem within_slot {l : List Node} (hl : l.length ≤ 1048576) (k : Int) : within k 0 (IntKind.i64.wrap ((l.length : Int) - 1)) = slotB l k := by
  rw [wrap_id (by omega) (by omega), Bool.eq_iff_iff, within_iff, slotB_iff]
  omega
abbrev tIL (n : Int) (l : List Int) : SV := .tup [.cell (iC n), .cell (.own (.sl 1 (ints l)))]
/-- The steps that reclaim a room. -/
def debtN (w : World') (k : Int) : Int := IntKind.i64.wrap (deepF (fun a b : Int => a + b) 0 (ownSt w) w.l (w.l.length * (w.l.length + 1) + 2) [k] []).1
theorem debt_deep (w : World') (k : Int) : ∃ a met', DeepD w [k] [] a met' ∧ debtN w k = IntKind.i64.wrap a :=
  ⟨_, _, (deep_go (fun a b : Int => a + b) 0 (ownSt w) w.l (w.l.length * (w.l.length + 1) + 2) [k] [] (by rw [unmet_nil]; simp)).1, rfl⟩
def accW (s : Int) (f : Nat → Int) : Nat → Int
  | 0 => s
  | k + 1 => IntKind.i64.wrap (accW s f k + f k)
def wasteAt (q : List Waste) (i : Int) : Waste := q.getD i.toNat zeroQ
def debtAt (w : World') (i : Int) : Int := if within i 0 (IntKind.i64.wrap ((w.q.length : Int) - 1)) then
    accW (steps w.c (wasteAt w.q i) (wasteAt w.q i).chunks.length) (fun j => debtN w ((kidsL w.l (wasteAt w.q i).first).getD j 0)) (kidsL w.l (wasteAt w.q i).first).length else 0
theorem wasteAt_eq {q : List Waste} {i : Int} (hq : q.length ≤ 1048576) (h : within i 0 (IntKind.i64.wrap ((q.length : Int) - 1)) = true) : 0 ≤ i ∧ i < q.length ∧ ∃ hi : i.toNat < q.length, wasteAt q i = q[i.toNat] := by
  rw [wrap_id (by omega) (by omega), within_iff] at h
  refine ⟨h.1, by omega, by omega, ?_⟩
  unfold wasteAt
  simp [List.getD_eq_getElem?_getD, show i.toNat < q.length by omega]
def debtAll (w : World') : Int := accW 0 (fun i => debtAt w (i : Int)) w.q.length
end Go.Proofs.Ytmnfcahbmlfccaa
