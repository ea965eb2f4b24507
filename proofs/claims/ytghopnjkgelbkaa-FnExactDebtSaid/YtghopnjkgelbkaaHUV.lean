/- Contracts of small functions: children; the steps that remains need. -/
import Derived.Test.YtghopnjkgelbkaaHT
import Derived.Test.YtghopnjkgelbkaaHP
import Derived.Test.YtghopnjkgelbkaaVHUV
namespace Go.Proofs.Ytghopnjkgelbkaa
open Go Go.Proofs.Ytghopnjkgelbkaa.DL
set_option maxRecDepth 100000

def kids (l : List Node) : Nat → Int → List Int
  | 0, _ => []
  | f + 1, k => if slotB l k then k :: kids l f (IntKind.i64.wrap ((l.getD k.toNat zeroN).next - 1)) else []
theorem kids_len (l : List Node) : ∀ (f : Nat) (k : Int), (kids l f k).length ≤ f
  | 0, _ => Nat.le_refl _
  | f + 1, k => by
    unfold kids
    split
    · have := kids_len l f (IntKind.i64.wrap ((l.getD k.toNat zeroN).next - 1)); simp only [List.length_cons]; omega
    · simp
theorem kids_out {l : List Node} {f : Nat} {k : Int} (h : slotB l k = false) : kids l f k = [] := by
  cases f with
  | zero => rfl
  | succ f => unfold kids; rw [h]; rfl
theorem kids_slot {l : List Node} : ∀ (f : Nat) (k : Int), ∀ x ∈ kids l f k, slotB l x = true
  | 0, _, x, hx => by cases hx
  | f + 1, k, x, hx => by
    unfold kids at hx
    split at hx
    · rename_i hs
      rcases List.mem_cons.1 hx with rfl | hx
      · exact hs
      · exact kids_slot f _ x hx
    · cases hx
/-- The children of a list that begins at 'first'. -/
def kidsL (l : List Node) (first : Int) : List Int := kids l l.length (IntKind.i64.wrap (first - 1))
theorem kidsL_len (l : List Node) (first : Int) : (kidsL l first).length ≤ l.length := kids_len ..
theorem kidsL_slot {l : List Node} {first : Int} : ∀ x ∈ kidsL l first, slotB l x = true := kids_slot _ _
theorem c_KidsOf {l : List Node} (hl : l.length ≤ 1048576) (first : Int) : CallD Try.prog F_impl_KidsOf [rNs l, iS first] fun r _ => r = oI (kidsL l first) := by
  have hM : l.length ≤ M63 := by unfold M63; omega
  refine k_impl_KidsOf ?_
  unfold vc_impl_KidsOf kidsL
  refine ⟨fun es n m => ∃ acc : List Int, es = ints acc ∧ acc.length ≤ l.length ∧ m = l.length - acc.length ∧ acc ++ kids l (l.length - acc.length) n = kids l l.length (IntKind.i64.wrap (first - 1)), ⟨_, [], rfl, by simp, rfl, by simp⟩, ?_⟩
  rintro es n m ⟨acc, rfl, ha, rfl, hr⟩
  simp only [nI, n_nodes, n_one, List.length_singleton, ints_length, decide_eq_true_eq (p := (acc.length : Int) < l.length), decide_eq_false_iff_not (p := (acc.length : Int) < l.length)]
  refine ⟨_, c_isSlot hM n, fun g1 => ⟨fun g2 => ?_, fun g2 => ?_⟩, fun g1 => ?_⟩
  · obtain ⟨q1, q2⟩ := slotB_iff.1 g1
    have hi : n.toNat < l.length := by omega
    simp only [drop_nodes hi, List.drop_succ_cons, List.drop_zero, hdD_cons, isI_iV, asI_iV, ints_snoc]
    refine ⟨by omega, by omega, q1, q2, by simp, trivial, trivial, l.length - (acc.length + 1), by omega, acc ++ [n], rfl, by simp; omega, by simp, ?_⟩
    rw [← hr]
    have e : l.length - acc.length = (l.length - (acc.length + 1)) + 1 := by omega
    rw [e]
    conv => rhs; unfold kids
    rw [if_pos g1, getD_node hi]
    simp
  · have e : l.length - acc.length = 0 := by omega
    rw [e] at hr
    rw [← hr]
    simp [kids]
  · rw [kids_out g1] at hr
    rw [← hr]; simp
theorem c_KidsOfS {l : List Node} (hl : l.length ≤ 1048576) (hok : ∀ n ∈ l, n.ok) {first : Int} (hf : I64 first) : CallD Try.prog F_spec_KidsOf [rNs l, iS first] fun r _ => r = oI (kidsL l first) := by
  have hM : l.length ≤ M63 := by unfold M63; omega
  refine k_spec_KidsOf ?_
  unfold vc_spec_KidsOf kidsL
  refine ⟨fun n es m => ∃ acc : List Int, es = ints acc ∧ acc.length ≤ l.length ∧ m = l.length - acc.length ∧ I64 n ∧ acc ++ kids l (l.length - acc.length) (IntKind.i64.wrap (n - 1)) = kids l l.length (IntKind.i64.wrap (first - 1)), ⟨_, [], rfl, by simp, rfl, hf, by simp⟩, ?_⟩
  rintro n es m ⟨acc, rfl, ha, rfl, hn, hr⟩
  have hP := c_l9Place (l := l) n
  rw [slot_pred hM hn] at hP
  simp only [nI, n_nodes, n_one, List.length_singleton, ints_length, decide_eq_true_eq (p := (acc.length : Int) < l.length), decide_eq_false_iff_not (p := (acc.length : Int) < l.length)]
  generalize IntKind.i64.wrap (n - 1) = u at *
  refine ⟨_, hP, fun g1 => ⟨fun g2 => ?_, fun g2 => ?_⟩, fun g1 => ?_⟩
  · obtain ⟨q1, q2⟩ := slotB_iff.1 g1
    have hi : u.toNat < l.length := by omega
    simp only [drop_nodes hi, List.drop_succ_cons, List.drop_zero, hdD_cons, isI_iV, asI_iV, ints_snoc]
    refine ⟨by omega, by omega, q1, q2, by simp, trivial, trivial, l.length - (acc.length + 1), by omega, acc ++ [u], rfl, by simp; omega, by simp, (hok _ (List.getElem_mem hi)).2.2.2.2.2.2.1, ?_⟩
    rw [← hr]
    have e : l.length - acc.length = (l.length - (acc.length + 1)) + 1 := by omega
    rw [e]
    conv => rhs; unfold kids
    rw [if_pos g1, getD_node hi]
    simp
  · have e : l.length - acc.length = 0 := by omega
    rw [e] at hr
    rw [← hr]
    simp [kids]
  · rw [kids_out g1] at hr
    rw [← hr]; simp
theorem c_SlicesOf (c : Conf) (n : Int) : CallD Try.prog F_impl_SlicesOf [confS c, iS n] fun r _ => r = iS (ceilDiv n c.slice) := k_impl_SlicesOf ⟨_, c_CeilDiv _ _, rfl⟩
theorem c_SlicesOfS (c : Conf) (n : Int) : CallD Try.prog F_spec_SlicesOf [confS c, iS n] fun r _ => r = iS (ceilDiv n c.slice) := k_spec_SlicesOf ⟨_, c_CeilDivS _ _, rfl⟩
def steps (c : Conf) (x : Waste) : Nat → Int
  | 0 => IntKind.i64.wrap (x.tags.length + 1)
  | k + 1 => IntKind.i64.wrap (steps c x k + if k = 0 then ceilDiv (IntKind.i64.wrap (c.size - x.done)) c.slice else ceilDiv c.size c.slice)
theorem c_OwnSteps (c : Conf) {x : Waste} (hx : x.chunks.length ≤ M63) : CallD Try.prog F_impl_OwnSteps [confS c, rWaste x] fun r _ => r = iS (steps c x x.chunks.length) := by
  unfold M63 at hx
  refine k_impl_OwnSteps ?_
  unfold vc_impl_OwnSteps
  simp only [nI, n_ints]
  refine ⟨fun n i m => ∃ k : Nat, i = k ∧ k ≤ x.chunks.length ∧ m = x.chunks.length - k ∧ n = steps c x k, ⟨_, 0, rfl, Nat.zero_le _, rfl, rfl⟩, ?_⟩
  rintro n i m ⟨k, rfl, hk, rfl, rfl⟩
  simp only [decide_eq_true_eq, decide_eq_false_iff_not]
  refine ⟨fun h1 => ⟨fun h2 => ⟨_, c_SlicesOf c _, ⟨trivial, trivial, trivial⟩, x.chunks.length - (k + 1), by omega, k + 1, ?_, by omega, rfl, ?_⟩, fun h2 => ⟨_, c_SlicesOf c _, ⟨trivial, trivial, trivial⟩, x.chunks.length - (k + 1), by omega, k + 1, ?_, by omega, rfl, ?_⟩⟩, fun h1 => iS_eq ?_⟩
  · exact wrap_id (by omega) (by omega)
  · rw [steps, if_pos (by omega)]
  · exact wrap_id (by omega) (by omega)
  · rw [steps, if_neg (by omega)]
  · have : k = x.chunks.length := by omega
    rw [this]
theorem c_OwnStepsS (c : Conf) {x : Waste} (hx : x.chunks.length ≤ M63) : CallD Try.prog F_spec_OwnSteps [confS c, rWaste x] fun r _ => r = iS (steps c x x.chunks.length) := by
  unfold M63 at hx
  refine k_spec_OwnSteps ?_
  unfold vc_spec_OwnSteps
  simp only [nI, n_ints]
  refine ⟨fun n i m => ∃ k : Nat, i = k ∧ k ≤ x.chunks.length ∧ m = x.chunks.length - k ∧ n = steps c x k, ⟨_, 0, rfl, Nat.zero_le _, rfl, rfl⟩, ?_⟩
  rintro n i m ⟨k, rfl, hk, rfl, rfl⟩
  simp only [decide_eq_true_eq, decide_eq_false_iff_not]
  refine ⟨fun h1 => ⟨fun h2 => ⟨_, c_SlicesOfS c _, ⟨trivial, trivial⟩, x.chunks.length - (k + 1), by omega, k + 1, ?_, by omega, rfl, ?_⟩, fun h2 => ⟨_, c_SlicesOfS c _, ⟨trivial, trivial⟩, x.chunks.length - (k + 1), by omega, k + 1, ?_, by omega, rfl, ?_⟩⟩, fun h1 => iS_eq ?_⟩
  · exact wrap_id (by omega) (by omega)
  · rw [steps, if_pos (by omega)]
  · exact wrap_id (by omega) (by omega)
  · rw [steps, if_neg (by omega)]
  · have : k = x.chunks.length := by omega
    rw [this]
def remains (n : Node) (slot : Int) : Waste := ⟨slot, n.first, n.tags, n.chunks, 0⟩
theorem c_WasteOf {n : Node} (hs : n.sz ≤ 1048576) (slot : Int) : CallD Try.prog F_impl_WasteOf [rNode n, iS slot] fun r _ => r = oWaste (remains n slot) := by
  unfold Node.sz at hs
  refine k_impl_WasteOf ?_
  unfold vc_impl_WasteOf
  exact ⟨_, c_cloneI (by omega), _, c_cloneI (by omega), rfl⟩
theorem c_WasteOfS {n : Node} (hs : n.sz ≤ 1048576) (slot : Int) : CallD Try.prog F_spec_WasteOf [rNode n, iS slot] fun r _ => r = oWaste (remains n slot) := by
  unfold Node.sz at hs
  refine k_spec_WasteOf ?_
  unfold vc_spec_WasteOf
  simp only [ints_length, n_one, List.length_nil, List.nil_append]
  exact ⟨AllVal_ints _, by omega, by omega, AllVal_ints _, by omega, by omega, rfl⟩

theorem wrap_emod (n : Int) : IntKind.i64.wrap n % 18446744073709551616 = n % 18446744073709551616 := by rw [wrapI]; split <;> omega
theorem wrap_mod {a b : Int} (h : a % 18446744073709551616 = b % 18446744073709551616) : IntKind.i64.wrap a = IntKind.i64.wrap b := by rw [wrapI, wrapI, h]
theorem wrap_l (a b : Int) : IntKind.i64.wrap (IntKind.i64.wrap a + b) = IntKind.i64.wrap (a + b) := wrap_mod (by have := wrap_emod a; omega)
theorem wrap_r (a b : Int) : IntKind.i64.wrap (a + IntKind.i64.wrap b) = IntKind.i64.wrap (a + b) := wrap_mod (by have := wrap_emod b; omega)
theorem wrap_nat (k : Nat) (h : k ≤ 1048576) : IntKind.i64.wrap ((k : Int) + 1) = ((k + 1 : Nat) : Int) := by rw [wrap_id] <;> omega

/-- What lies below slots that were not met before: what it weighs, and what has been met. -/
def deepF {A : Type} (add : A → A → A) (z : A) (own : Int → A) (l : List Node) : Nat → List Int → List Int → A × List Int
  | 0, _, met => (z, met)
  | _ + 1, [], met => (z, met)
  | f + 1, k :: ks, met => if slotB l k && !has met k then
      (add (own k) (add (deepF add z own l f (kidsL l (nodeAt l k).first) (met ++ [k])).1 (deepF add z own l f ks (deepF add z own l f (kidsL l (nodeAt l k).first) (met ++ [k])).2).1),
        (deepF add z own l f ks (deepF add z own l f (kidsL l (nodeAt l k).first) (met ++ [k])).2).2)
    else deepF add z own l f ks met
inductive Deep {A : Type} (add : A → A → A) (z : A) (own : Int → A) (l : List Node) : List Int → List Int → A → List Int → Prop
  | nil {met : List Int} : Deep add z own l [] met z met
  | skip {k : Int} {ks met met' : List Int} {b : A} : (slotB l k && !has met k) = false → Deep add z own l ks met b met' → Deep add z own l (k :: ks) met b met'
  | take {k : Int} {ks met m1 met' : List Int} {a b : A} : slotB l k = true → has met k = false → Deep add z own l (kidsL l (nodeAt l k).first) (met ++ [k]) a m1 → Deep add z own l ks m1 b met' →
      Deep add z own l (k :: ks) met (add (own k) (add a b)) met'
def unmet (l : List Node) (met : List Int) : Nat := ((List.range l.length).filter fun i : Nat => !has met (i : Int)).length
theorem has_snoc (met : List Int) (k b : Int) : has (met ++ [k]) b = (has met b || decide (b = k)) := by simp [has]
theorem unmet_lt {l : List Node} {met : List Int} {k : Int} (hs : slotB l k = true) (hm : has met k = false) : unmet l (met ++ [k]) < unmet l met := by
  obtain ⟨q1, q2⟩ := slotB_iff.1 hs
  have hk : ((k.toNat : Nat) : Int) = k := Int.toNat_of_nonneg q1
  unfold unmet
  have : ((List.range l.length).filter fun i : Nat => !has (met ++ [k]) (i : Int)) = ((List.range l.length).filter fun i : Nat => !has met (i : Int)).filter fun i => decide (i ≠ k.toNat) := by
    rw [List.filter_filter]
    congr 1
    funext i
    rw [has_snoc]
    by_cases e : i = k.toNat
    · subst e
      rw [hk, hm]; simp
    · have : ¬ (i : Int) = k := by omega
      simp [e, this]
  rw [this]
  refine List.length_filter_lt_length_iff_exists.2 ⟨k.toNat, List.mem_filter.2 ⟨List.mem_range.2 (by omega), ?_⟩, by simp⟩
  rw [hk, hm]; rfl
theorem deep_go {A : Type} (add : A → A → A) (z : A) (own : Int → A) (l : List Node) : ∀ (f : Nat) (ks met : List Int), unmet l met * (l.length + 1) + ks.length < f →
    Deep add z own l ks met (deepF add z own l f ks met).1 (deepF add z own l f ks met).2 ∧ unmet l (deepF add z own l f ks met).2 ≤ unmet l met
  | 0, ks, met, h => by omega
  | f + 1, [], met, _ => ⟨.nil, Nat.le_refl _⟩
  | f + 1, k :: ks, met, h => by
    unfold deepF
    simp only [List.length_cons] at h
    by_cases hg : (slotB l k && !has met k) = true
    · rw [if_pos hg]
      simp only [Bool.and_eq_true, Bool.not_eq_true'] at hg
      have hu := unmet_lt hg.1 hg.2
      have hk := kidsL_len l (nodeAt l k).first
      have hm := Nat.mul_le_mul_right (l.length + 1) (Nat.succ_le_of_lt hu)
      rw [Nat.succ_mul] at hm
      obtain ⟨g1, g2⟩ := deep_go add z own l f (kidsL l (nodeAt l k).first) (met ++ [k]) (by omega)
      generalize deepF add z own l f (kidsL l (nodeAt l k).first) (met ++ [k]) = r at *
      have hm2 := Nat.mul_le_mul_right (l.length + 1) (show unmet l r.2 ≤ unmet l met by omega)
      obtain ⟨p1, p2⟩ := deep_go add z own l f ks r.2 (by omega)
      generalize deepF add z own l f ks r.2 = r' at *
      exact ⟨.take hg.1 hg.2 g1 p1, by dsimp only; omega⟩
    · rw [if_neg hg]
      obtain ⟨p1, p2⟩ := deep_go add z own l f ks met (by omega)
      exact ⟨.skip (by simpa using hg) p1, p2⟩
theorem deep_len {A : Type} {add : A → A → A} {z : A} {own : Int → A} {l : List Node} {ks met met' : List Int} {a : A} (h : Deep add z own l ks met a met') : met.length + unmet l met ≤ l.length → met'.length + unmet l met' ≤ l.length := by
  induction h with
  | nil => exact id
  | skip _ _ ih => exact ih
  | take hs hm _ _ ih1 ih2 =>
    intro hh
    refine ih2 (ih1 ?_)
    have := unmet_lt hs hm
    simp only [List.length_append, List.length_singleton]
    omega
theorem unmet_nil (l : List Node) : unmet l [] = l.length := by
  unfold unmet
  have : ((List.range l.length).filter fun i : Nat => !has [] (i : Int)) = List.range l.length := List.filter_eq_self.2 fun _ _ => rfl
  rw [this, List.length_range]
/-- The truths that tell what has been met. -/
def bm (n : Nat) (met : List Int) : List DV := (List.range n).map fun i : Nat => bV (has met (i : Int))
abbrev oM (l : List Node) (met : List Int) : SV := oneC (.own (.sl 1 (bm l.length met)))
theorem bm_len (n : Nat) (met : List Int) : (bm n met).length = n := by simp [bm]
theorem bm_get {l : List Node} {k : Int} (hs : slotB l k = true) (met : List Int) : (bm l.length met).getD k.toNat dfl = bV (has met k) := by
  obtain ⟨q1, q2⟩ := slotB_iff.1 hs
  have hk : ((k.toNat : Nat) : Int) = k := Int.toNat_of_nonneg q1
  have hi : k.toNat < l.length := by omega
  simp [bm, List.getD_eq_getElem?_getD, hi, hk]
theorem bm_set {l : List Node} {k : Int} (hs : slotB l k = true) (met : List Int) : (bm l.length met).set k.toNat (bV true) = bm l.length (met ++ [k]) := by
  obtain ⟨q1, q2⟩ := slotB_iff.1 hs
  refine List.ext_getElem (by simp [bm]) fun i h1 h2 => ?_
  simp only [bm, List.length_map, List.length_range] at h2
  rw [List.getElem_set]
  simp only [bm, List.getElem_map, List.getElem_range, has_snoc]
  split
  · have : (i : Int) = k := by omega
    simp [this]
  · have : ¬ (i : Int) = k := by omega
    simp [this]
theorem bm_nil (n : Nat) : List.replicate n (bV false) = bm n [] := by
  refine List.ext_getElem (by simp [bm]) fun i h1 h2 => ?_
  simp [bm, has]

def ownSt (w : World') (k : Int) : Int := 1 + steps w.c (remains (nodeAt w.l k) 0) (nodeAt w.l k).chunks.length
abbrev DeepD (w : World') := Deep (fun a b : Int => a + b) 0 (ownSt w) w.l
def debtQ (w : World') : List Int → List Int → Int → List Int → Prop
  | [], met, a, met' => a = 0 ∧ met' = met
  | k :: ks, met, a, met' => slotB w.l k = true ∧ ((has met k = true ∧ debtQ w ks met a met') ∨ (has met k = false ∧ ∃ a1 m1 b, CallD Try.prog F_impl_World_debt [rWorld w, rI (kidsL w.l (nodeAt w.l k).first), oM w.l (met ++ [k])]
      (fun r bs => r = iS (IntKind.i64.wrap a1) ∧ bs.getD 2 .dead = oM w.l m1) ∧ debtQ w ks m1 b met' ∧ a = ownSt w k + (a1 + b)))
theorem c_debtQ {w : World'} (hl : totN w.l ≤ 1048576) {ks met met' : List Int} {a : Int} (hq : debtQ w ks met a met') (hk : ks.length ≤ 1048576) :
    CallD Try.prog F_impl_World_debt [rWorld w, rI ks, oM w.l met] fun r bs => r = iS (IntKind.i64.wrap a) ∧ bs.getD 2 .dead = oM w.l met' := by
  have hz := szs_nonneg w.l
  have hll : w.l.length ≤ 1048576 := by unfold totN at hl; omega
  refine k_impl_World_debt ?_
  unfold vc_impl_World_debt
  simp only [nI, n_ints, n_nodes]
  refine ⟨fun es n i m => ∃ q : Nat, i = q ∧ q ≤ ks.length ∧ m = ks.length - q ∧ ∃ M b x, es = bm w.l.length M ∧ debtQ w (ks.drop q) M b met' ∧ n = IntKind.i64.wrap x ∧ x + b = a, ⟨ks.length, 0, rfl, Nat.zero_le _, rfl, met, a, 0, rfl, by simpa using hq, by decide, by omega⟩, ?_⟩
  rintro es n i m ⟨q, rfl, hq', rfl, M, b, x, rfl, hQ, rfl, hx⟩
  simp only [Int.toNat_natCast, Nat.mul_one, decide_eq_true_eq (p := (q : Int) < ks.length), decide_eq_false_iff_not (p := (q : Int) < ks.length), wrap_nat q (by omega)]
  refine ⟨fun h1 => ?_, fun h1 => ?_⟩
  · have ha : q < ks.length := by omega
    rw [List.drop_eq_getElem_cons ha] at hQ
    obtain ⟨hs, hQ⟩ := hQ
    obtain ⟨p1, p2⟩ := slotB_iff.1 hs
    obtain ⟨hi, e⟩ := nodeAt_eq hs
    have hsz := szs_at hi
    have hsz' : (w.l[ks[q].toNat]).sz ≤ 1048576 := by unfold totN at hl; omega
    simp only [hd_ints ha, getD_eq ha, isI_iV, asI_iV, getP_one, n_one, bm_len, bm_get hs, bm_set hs, drop_nodes hi, List.drop_succ_cons, List.drop_zero, List.tail_cons, hdD_cons, isL_sl, es_sl]
    refine ⟨by omega, by omega, by simp [ints]; omega, trivial, p1, p2, by rw [placeOk_one, bm_len]; exact ⟨hi, trivial⟩, rfl, fun g => ⟨⟨trivial, trivial, trivial⟩, ks.length - (q + 1), by omega, q + 1, rfl, by omega, rfl, M, b, x, rfl, ?_, rfl, hx⟩, fun g => ?_⟩
    · have g : has M ks[q] = true := g
      rcases hQ with ⟨-, hQ⟩ | ⟨h2, -⟩
      · exact hQ
      · rw [g] at h2; cases h2
    · have g : has M ks[q] = false := g
      rcases hQ with ⟨h2, -⟩ | ⟨-, a1, m1, b1, hc, hQ, rfl⟩
      · rw [g] at h2; cases h2
      have hkids := c_KidsOf hll (nodeAt w.l ks[q]).first
      have hwo := c_WasteOf hsz' 0
      have hos := c_OwnSteps w.c (x := remains w.l[ks[q].toNat] 0) (by unfold M63 remains; unfold Node.sz at hsz'; dsimp only; omega)
      rw [e] at hc hkids
      refine ⟨p1, p2, trivial, by omega, p1, p2, by simp, trivial, trivial, trivial, trivial, trivial, trivial, trivial, trivial, trivial, trivial, trivial, trivial, trivial, _, _, _, _, _, hwo, _, hos, p1, p2, by simp, trivial, _, hkids, trivial, trivial, _, _, rfl, hc,
        ⟨trivial, trivial, trivial⟩, ks.length - (q + 1), by omega, q + 1, rfl, by omega, rfl, m1, b1, x + (ownSt w ks[q] + a1), rfl, hQ, ?_, by omega⟩
      rw [wrap_l, wrap_r]
      unfold ownSt
      rw [e]
      show IntKind.i64.wrap (x + (IntKind.i64.wrap (1 + steps w.c (remains w.l[ks[q].toNat] 0) w.l[ks[q].toNat].chunks.length) + IntKind.i64.wrap a1)) = IntKind.i64.wrap (x + (1 + steps w.c (remains w.l[ks[q].toNat] 0) w.l[ks[q].toNat].chunks.length + a1))
      generalize 1 + steps w.c (remains w.l[ks[q].toNat] 0) w.l[ks[q].toNat].chunks.length = s
      exact wrap_mod (by have := wrap_emod s; have := wrap_emod a1; omega)
  · have : q = ks.length := by omega
    subst this
    rw [List.drop_length] at hQ
    obtain ⟨rfl, rfl⟩ := hQ
    have : x = a := by omega
    subst this
    exact ⟨rfl, rfl⟩
theorem deep_debt {w : World'} (hl : totN w.l ≤ 1048576) {ks met met' : List Int} {a : Int} (h : DeepD w ks met a met') : (∀ k ∈ ks, slotB w.l k = true) → debtQ w ks met a met' := by
  have hz := szs_nonneg w.l
  induction h with
  | nil => intro _; exact ⟨rfl, rfl⟩
  | skip hb _ ih =>
    intro hs
    have h1 := hs _ (List.mem_cons_self ..)
    rw [h1, Bool.true_and] at hb
    exact ⟨h1, .inl ⟨by simpa using hb, ih fun k hk => hs k (List.mem_cons_of_mem _ hk)⟩⟩
  | take h1 h2 _h3 _h4 ih1 ih2 =>
    rename_i k ks met m1 met' a b
    intro hs
    refine ⟨h1, .inr ⟨h2, _, _, _, c_debtQ hl (ih1 kidsL_slot) ?_, ih2 fun k hk => hs k (List.mem_cons_of_mem _ hk), rfl⟩⟩
    have := kidsL_len w.l (nodeAt w.l k).first
    unfold totN at hl
    omega
theorem within_slot {l : List Node} (hl : l.length ≤ 1048576) (k : Int) : within k 0 (IntKind.i64.wrap ((l.length : Int) - 1)) = slotB l k := by
  rw [wrap_id (by omega) (by omega), Bool.eq_iff_iff, within_iff, slotB_iff]
  omega
abbrev tIL (n : Int) (l : List Int) : SV := .tup [.cell (iC n), .cell (.own (.sl 1 (ints l)))]
def debtP (w : World') : List Int → List Int → Int → List Int → Prop
  | [], met, a, met' => a = 0 ∧ met' = met
  | k :: ks, met, a, met' => ∃ a1 m1 b, CallD Try.prog F_spec_l15Debt [rWorld w, iS k, oI met] (fun r _ => r = tIL (IntKind.i64.wrap a1) m1) ∧ debtP w ks m1 b met' ∧ a = a1 + b
theorem c_l15no {w : World'} (hl : w.l.length ≤ 1048576) {k : Int} {met : List Int} (hlen : met.length ≤ 1048576) (h : (slotB w.l k && !has met k) = false) : CallD Try.prog F_spec_l15Debt [rWorld w, iS k, oI met] fun r _ => r = tIL (IntKind.i64.wrap 0) met := by
  refine k_spec_l15Debt ?_
  unfold vc_spec_l15Debt
  have c1 := c_l1In k 0 (IntKind.i64.wrap ((w.l.length : Int) - 1))
  rw [within_slot hl] at c1
  simp only [nI, n_nodes]
  refine ⟨_, c1, fun g1 => ⟨_, c_has (by unfold M63; omega) k, fun g2 => rfl, fun g2 => ?_⟩, fun g1 => rfl⟩
  rw [g1, g2] at h
  cases h
theorem c_l15take {w : World'} (hl : totN w.l ≤ 1048576) (hok : ∀ n ∈ w.l, n.ok) {k : Int} {met m1 : List Int} {a : Int} (hlen : met.length ≤ 1048576) (hs : slotB w.l k = true) (hm : has met k = false)
    (hP : debtP w (kidsL w.l (nodeAt w.l k).first) (met ++ [k]) a m1) : CallD Try.prog F_spec_l15Debt [rWorld w, iS k, oI met] fun r _ => r = tIL (IntKind.i64.wrap (ownSt w k + a)) m1 := by
  have hz := szs_nonneg w.l
  have hll : w.l.length ≤ 1048576 := by unfold totN at hl; omega
  obtain ⟨p1, p2⟩ := slotB_iff.1 hs
  obtain ⟨hi, e⟩ := nodeAt_eq hs
  have hsz := szs_at hi
  have hsz' : (w.l[k.toNat]).sz ≤ 1048576 := by unfold totN at hl; omega
  refine k_spec_l15Debt ?_
  unfold vc_spec_l15Debt
  have c1 := c_l1In k 0 (IntKind.i64.wrap ((w.l.length : Int) - 1))
  rw [within_slot hll] at c1
  have c2 := c_has (l := met) (by unfold M63; omega) k
  have hkids := c_KidsOfS hll hok (hok _ (List.getElem_mem hi)).2.2.2.2.2.1
  have hkl := kidsL_len w.l (nodeAt w.l k).first
  have hwo := c_WasteOfS hsz' 0
  have hos := c_OwnStepsS w.c (x := remains w.l[k.toNat] 0) (by unfold M63 remains; unfold Node.sz at hsz'; dsimp only; omega)
  rw [e] at hP hkl
  simp only [nI, n_nodes, List.nil_append, n_one, ints_length, List.length_nil, List.length_singleton, drop_nodes hi, List.drop_succ_cons, List.drop_zero, List.tail_cons, hdD_cons, isL_sl, es_sl, isI_iV, asI_iV, ints_snoc]
  refine ⟨_, c1, fun g1 => ⟨_, c2, fun g2 => (by rw [hm] at g2; cases g2), fun g2 => ?_⟩, fun g1 => (by rw [hs] at g1; cases g1)⟩
  refine ⟨AllVal_ints _, by omega, by omega, by omega, by omega, p1, p2, by simp, trivial, trivial, trivial, trivial, trivial, trivial, trivial, trivial, trivial, trivial, trivial, trivial, trivial, _, _, _, _, _, hwo, _, hos, p1, p2, by simp, trivial, _, hkids, ?_⟩
  generalize kidsL w.l w.l[k.toNat].first = ks at *
  simp only [ints_length]
  refine ⟨fun es n i m => ∃ q : Nat, i = q ∧ q ≤ ks.length ∧ m = ks.length - q ∧ ∃ M b x, es = ints M ∧ debtP w (ks.drop q) M b m1 ∧ n = IntKind.i64.wrap x ∧ x + b = ownSt w k + a, ⟨ks.length, 0, rfl, Nat.zero_le _, rfl, met ++ [k], a, ownSt w k, rfl, by simpa using hP, by unfold ownSt; rw [e]; rfl, rfl⟩, ?_⟩
  rintro es n i m ⟨q, rfl, hq', rfl, M, b, x, rfl, hQ, rfl, hx⟩
  simp only [Int.toNat_natCast, Nat.mul_one, decide_eq_true_eq (p := (q : Int) < ks.length), decide_eq_false_iff_not (p := (q : Int) < ks.length), wrap_nat q (by omega)]
  refine ⟨fun h1 => ?_, fun h1 => ?_⟩
  · have ha : q < ks.length := by omega
    rw [List.drop_eq_getElem_cons ha] at hQ
    obtain ⟨a1, M1, b1, hc, hQ, rfl⟩ := hQ
    have ge : (ints ks).getD q dfl = iV ks[q] := by rw [getD_ints ha, getD_eq ha]
    simp only [getP_one, ge, isI_iV, asI_iV]
    refine ⟨by omega, by omega, by rw [placeOk_one, ints_length]; exact ⟨ha, trivial⟩, trivial, _, _, hc, ⟨trivial, trivial⟩, ks.length - (q + 1), by omega, q + 1, rfl, by omega, rfl, M1, b1, x + a1, rfl, hQ, ?_, by omega⟩
    rw [wrap_l, wrap_r]
  · have : q = ks.length := by omega
    subst this
    rw [List.drop_length] at hQ
    obtain ⟨rfl, rfl⟩ := hQ
    have : x = ownSt w k + a := by omega
    rw [this]
theorem deep_debtP {w : World'} (hl : totN w.l ≤ 1048576) (hok : ∀ n ∈ w.l, n.ok) {ks met met' : List Int} {a : Int} (h : DeepD w ks met a met') : met.length + unmet w.l met ≤ w.l.length → debtP w ks met a met' := by
  have hz := szs_nonneg w.l
  have hll : w.l.length ≤ 1048576 := by unfold totN at hl; omega
  induction h with
  | nil => intro _; exact ⟨rfl, rfl⟩
  | skip hb _ ih => intro hn; exact ⟨0, _, _, c_l15no hll (by omega) hb, ih hn, by omega⟩
  | take h1 h2 h3 _h4 ih1 ih2 =>
    rename_i k ks met m1 met' a b
    intro hn
    have hu := unmet_lt h1 h2
    have hn' : (met ++ [k]).length + unmet w.l (met ++ [k]) ≤ w.l.length := by
      simp only [List.length_append, List.length_singleton]
      omega
    exact ⟨_, _, _, c_l15take hl hok (by omega) h1 h2 (ih1 hn'), ih2 (deep_len h3 hn'), by omega⟩
/-- The steps that reclaim a room. -/
def debtN (w : World') (k : Int) : Int := IntKind.i64.wrap (deepF (fun a b : Int => a + b) 0 (ownSt w) w.l (w.l.length * (w.l.length + 1) + 2) [k] []).1
theorem debt_deep (w : World') (k : Int) : ∃ a met', DeepD w [k] [] a met' ∧ debtN w k = IntKind.i64.wrap a :=
  ⟨_, _, (deep_go (fun a b : Int => a + b) 0 (ownSt w) w.l (w.l.length * (w.l.length + 1) + 2) [k] [] (by rw [unmet_nil]; simp)).1, rfl⟩
theorem c_DebtOf {w : World'} (hl : totN w.l ≤ 1048576) (k : Int) : CallD Try.prog F_impl_DebtOf [rWorld w, iS k] fun r _ => r = iS (debtN w k) := by
  have hz := szs_nonneg w.l
  have hll : w.l.length ≤ 1048576 := by unfold totN at hl; omega
  obtain ⟨a, met', hd, e⟩ := debt_deep w k
  refine k_impl_DebtOf ?_
  unfold vc_impl_DebtOf
  simp only [nI, n_nodes, Int.toNat_natCast, bm_nil]
  refine ⟨_, c_isSlot (by unfold M63; omega) k, fun g => ⟨trivial, by omega, by omega, by omega, by omega, ?_⟩, fun g => iS_eq ?_⟩
  · have hq := c_debtQ hl (deep_debt hl hd fun x hx => by rw [List.mem_singleton.1 hx]; exact g) (by simp)
    rw [e]
    exact ⟨trivial, trivial, _, _, rfl, hq, rfl⟩
  · rw [e]
    cases hd with
    | skip _ h => cases h; rfl
    | take h1 => rw [g] at h1; cases h1
theorem c_DebtOfS {w : World'} (hl : totN w.l ≤ 1048576) (hok : ∀ n ∈ w.l, n.ok) (k : Int) : CallD Try.prog F_spec_DebtOf [rWorld w, iS k] fun r _ => r = iS (debtN w k) := by
  obtain ⟨a, met', hd, e⟩ := debt_deep w k
  refine k_spec_DebtOf ?_
  unfold vc_spec_DebtOf
  obtain ⟨a1, m1, b, hc, ⟨rfl, rfl⟩, rfl⟩ := deep_debtP hl hok hd (by rw [unmet_nil]; simp)
  rw [e, Int.add_zero]
  exact ⟨_, _, hc, rfl⟩
def accW (s : Int) (f : Nat → Int) : Nat → Int
  | 0 => s
  | k + 1 => IntKind.i64.wrap (accW s f k + f k)
def wasteAt (q : List Waste) (i : Int) : Waste := q.getD i.toNat zeroQ
def debtAt (w : World') (i : Int) : Int := if within i 0 (IntKind.i64.wrap ((w.q.length : Int) - 1)) then
    accW (steps w.c (wasteAt w.q i) (wasteAt w.q i).chunks.length) (fun j => debtN w ((kidsL w.l (wasteAt w.q i).first).getD j 0)) (kidsL w.l (wasteAt w.q i).first).length else 0
theorem wasteAt_eq {q : List Waste} {i : Int} (hq : q.length ≤ 1048576) (h : within i 0 (IntKind.i64.wrap ((q.length : Int) - 1)) = true) : 0 ≤ i ∧ i < q.length ∧ ∃ hi : i.toNat < q.length, wasteAt q i = q[i.toNat] := by
  rw [wrap_id (by omega) (by omega), within_iff] at h
  refine ⟨h.1, by omega, by omega, ?_⟩
  unfold wasteAt
  simp [List.getD_eq_getElem?_getD, show i.toNat < q.length by omega]
theorem c_DebtAt {w : World'} (hl : totN w.l ≤ 1048576) (hq : totQ w.q ≤ 1048576) (i : Int) : CallD Try.prog F_impl_DebtAt [rWorld w, iS i] fun r _ => r = iS (debtAt w i) := by
  have hz := szs_nonneg w.l
  have hz' := szq_nonneg w.q
  have hll : w.l.length ≤ 1048576 := by unfold totN at hl; omega
  refine k_impl_DebtAt ?_
  unfold vc_impl_DebtAt debtAt
  simp only [nI, n_wastes]
  refine ⟨_, c_within _ _ _, fun g => ?_, fun g => iS_eq (by rw [g]; rfl)⟩
  obtain ⟨p1, p2, hi, e⟩ := wasteAt_eq (by unfold totQ at hq; omega) g
  rw [if_pos g, e]
  have hsz := szq_at hi
  have hos := c_OwnSteps w.c (x := w.q[i.toNat]) (by unfold M63; unfold Waste.sz at hsz; unfold totQ at hq; omega)
  have hkids := c_KidsOf hll w.q[i.toNat].first
  have hkl := kidsL_len w.l w.q[i.toNat].first
  simp only [drop_wastes hi, List.drop_succ_cons, List.drop_zero, List.tail_cons, hdD_cons, isL_sl, es_sl, isI_iV, asI_iV]
  refine ⟨p1, p2, by simp, trivial, trivial, trivial, trivial, trivial, _, hos, p1, p2, by simp, trivial, _, hkids, ?_⟩
  generalize kidsL w.l w.q[i.toNat].first = ks at *
  generalize steps w.c w.q[i.toNat] w.q[i.toNat].chunks.length = s at *
  simp only [n_ints]
  refine ⟨fun n i m => ∃ q : Nat, i = q ∧ q ≤ ks.length ∧ m = ks.length - q ∧ n = accW s (fun j => debtN w (ks.getD j 0)) q, ⟨ks.length, 0, rfl, Nat.zero_le _, rfl, rfl⟩, ?_⟩
  rintro n i m ⟨q, rfl, hq', rfl, rfl⟩
  simp only [Int.toNat_natCast, Nat.mul_one, decide_eq_true_eq (p := (q : Int) < ks.length), decide_eq_false_iff_not (p := (q : Int) < ks.length), wrap_nat q (by omega)]
  refine ⟨fun h1 => ?_, fun h1 => ?_⟩
  · have ha : q < ks.length := by omega
    have ge : (ints ks).getD q dfl = iV (ks.getD q 0) := getD_ints ha
    simp only [getP_one, ge, isI_iV, asI_iV]
    exact ⟨by omega, by omega, by rw [placeOk_one, ints_length]; exact ⟨ha, trivial⟩, trivial, _, c_DebtOf hl _, ⟨trivial, trivial, trivial⟩, ks.length - (q + 1), by omega, q + 1, rfl, by omega, rfl, rfl⟩
  · have : q = ks.length := by omega
    rw [this]
theorem c_DebtAtS {w : World'} (hl : totN w.l ≤ 1048576) (hok : ∀ n ∈ w.l, n.ok) (hq : totQ w.q ≤ 1048576) (hqo : ∀ x ∈ w.q, x.ok) (i : Int) : CallD Try.prog F_spec_DebtAt [rWorld w, iS i] fun r _ => r = iS (debtAt w i) := by
  have hz := szs_nonneg w.l
  have hz' := szq_nonneg w.q
  have hll : w.l.length ≤ 1048576 := by unfold totN at hl; omega
  refine k_spec_DebtAt ?_
  unfold vc_spec_DebtAt debtAt
  simp only [nI, n_wastes]
  refine ⟨_, c_l1In _ _ _, fun g => ?_, fun g => iS_eq (by rw [g]; rfl)⟩
  obtain ⟨p1, p2, hi, e⟩ := wasteAt_eq (by unfold totQ at hq; omega) g
  rw [if_pos g, e]
  have hsz := szq_at hi
  have hos := c_OwnStepsS w.c (x := w.q[i.toNat]) (by unfold M63; unfold Waste.sz at hsz; unfold totQ at hq; omega)
  have hkids := c_KidsOfS hll hok (hqo _ (List.getElem_mem hi)).2.1
  have hkl := kidsL_len w.l w.q[i.toNat].first
  simp only [drop_wastes hi, List.drop_succ_cons, List.drop_zero, List.tail_cons, hdD_cons, isL_sl, es_sl, isI_iV, asI_iV]
  refine ⟨p1, p2, by simp, trivial, trivial, trivial, trivial, trivial, _, hos, p1, p2, by simp, trivial, _, hkids, ?_⟩
  generalize kidsL w.l w.q[i.toNat].first = ks at *
  generalize steps w.c w.q[i.toNat] w.q[i.toNat].chunks.length = s at *
  simp only [n_ints]
  refine ⟨fun n i m => ∃ q : Nat, i = q ∧ q ≤ ks.length ∧ m = ks.length - q ∧ n = accW s (fun j => debtN w (ks.getD j 0)) q, ⟨ks.length, 0, rfl, Nat.zero_le _, rfl, rfl⟩, ?_⟩
  rintro n i m ⟨q, rfl, hq', rfl, rfl⟩
  simp only [Int.toNat_natCast, Nat.mul_one, decide_eq_true_eq (p := (q : Int) < ks.length), decide_eq_false_iff_not (p := (q : Int) < ks.length), wrap_nat q (by omega)]
  refine ⟨fun h1 => ?_, fun h1 => ?_⟩
  · have ha : q < ks.length := by omega
    have ge : (ints ks).getD q dfl = iV (ks.getD q 0) := getD_ints ha
    simp only [getP_one, ge, isI_iV, asI_iV]
    exact ⟨by omega, by omega, by rw [placeOk_one, ints_length]; exact ⟨ha, trivial⟩, trivial, _, c_DebtOfS hl hok _, ⟨trivial, trivial⟩, ks.length - (q + 1), by omega, q + 1, rfl, by omega, rfl, rfl⟩
  · have : q = ks.length := by omega
    rw [this]
def debtAll (w : World') : Int := accW 0 (fun i => debtAt w (i : Int)) w.q.length
theorem c_Debt {w : World'} (hl : totN w.l ≤ 1048576) (hq : totQ w.q ≤ 1048576) : CallD Try.prog F_impl_Debt [rWorld w] fun r _ => r = iS (debtAll w) := by
  have hz' := szq_nonneg w.q
  have hqq : w.q.length ≤ 1048576 := by unfold totQ at hq; omega
  refine k_impl_Debt ?_
  unfold vc_impl_Debt debtAll
  simp only [nI, n_wastes]
  refine ⟨fun n i m => ∃ q : Nat, i = q ∧ q ≤ w.q.length ∧ m = w.q.length - q ∧ n = accW 0 (fun i => debtAt w (i : Int)) q, ⟨w.q.length, 0, rfl, Nat.zero_le _, rfl, rfl⟩, ?_⟩
  rintro n i m ⟨q, rfl, hq', rfl, rfl⟩
  simp only [decide_eq_true_eq (p := (q : Int) < w.q.length), decide_eq_false_iff_not (p := (q : Int) < w.q.length), wrap_nat q (by omega)]
  refine ⟨fun h1 => ⟨_, c_DebtAt hl hq _, ⟨trivial, trivial⟩, w.q.length - (q + 1), by omega, q + 1, rfl, by omega, rfl, rfl⟩, fun h1 => ?_⟩
  have : q = w.q.length := by omega
  rw [this]
theorem c_DebtS {w : World'} (hl : totN w.l ≤ 1048576) (hok : ∀ n ∈ w.l, n.ok) (hq : totQ w.q ≤ 1048576) (hqo : ∀ x ∈ w.q, x.ok) : CallD Try.prog F_spec_Debt [rWorld w] fun r _ => r = iS (debtAll w) := by
  have hz' := szq_nonneg w.q
  have hqq : w.q.length ≤ 1048576 := by unfold totQ at hq; omega
  refine k_spec_Debt ?_
  unfold vc_spec_Debt debtAll
  simp only [nI, n_wastes]
  refine ⟨fun n i m => ∃ q : Nat, i = q ∧ q ≤ w.q.length ∧ m = w.q.length - q ∧ n = accW 0 (fun i => debtAt w (i : Int)) q, ⟨w.q.length, 0, rfl, Nat.zero_le _, rfl, rfl⟩, ?_⟩
  rintro n i m ⟨q, rfl, hq', rfl, rfl⟩
  simp only [decide_eq_true_eq (p := (q : Int) < w.q.length), decide_eq_false_iff_not (p := (q : Int) < w.q.length), wrap_nat q (by omega)]
  refine ⟨fun h1 => ⟨_, c_DebtAtS hl hok hq hqo _, trivial, w.q.length - (q + 1), by omega, q + 1, rfl, by omega, rfl, rfl⟩, fun h1 => ?_⟩
  have : q = w.q.length := by omega
  rw [this]
end Go.Proofs.Ytghopnjkgelbkaa
