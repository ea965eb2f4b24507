/- Contracts of small functions: whether a table of rooms is in order. -/
import Derived.Test.YthmpdfmdhfgaaaaHRS
import Derived.Test.YthmpdfmdhfgaaaaHP
import Derived.Test.YthmpdfmdhfgaaaaVHTr
namespace Go.Proofs.Ythmpdfmdhfgaaaa
open Go Go.Proofs.Ythmpdfmdhfgaaaa.DL
set_option maxRecDepth 100000

theorem drop_at {l : List Node} {r : Int} (h : slotB l r = true) : (nods l).drop (r.toNat * 13) = iV (nodeAt l r).st :: iV (nodeAt l r).gen :: iV (nodeAt l r).ep :: iV (nodeAt l r).up :: iV (nodeAt l r).upEp :: iV (nodeAt l r).first :: iV (nodeAt l r).next :: iV (nodeAt l r).prev ::
    .sl 1 (ints (nodeAt l r).chunks) :: iV (nodeAt l r).cur :: iV (nodeAt l r).bump :: .sl 3 (thgs (nodeAt l r).things) :: .sl 1 (ints (nodeAt l r).tags) :: nods (l.drop (r.toNat + 1)) := by
  obtain ⟨hi, e⟩ := nodeAt_eq h
  rw [drop_nodes hi, e]
theorem slot_lt {l : List Node} {r : Int} (h : slotB l r = true) : 0 ≤ r ∧ r < (l.length : Int) := slotB_iff.1 h
/-- A link is none, or leads to a room that lives. -/
def lvB (l : List Node) (x : Int) : Bool := decide (x = 0) || (slotB l (IntKind.i64.wrap (x - 1)) && decide ((nodeAt l (IntKind.i64.wrap (x - 1))).st = 1))
theorem lv_slot {l : List Node} {x : Int} (h : lvB l x = true) (h0 : decide (x = 0) = false) : slotB l (IntKind.i64.wrap (x - 1)) = true := by
  unfold lvB at h
  cases g : slotB l (IntKind.i64.wrap (x - 1)) with
  | true => rfl
  | false => rw [g, h0] at h; simp at h
/-- A room's parent lives, in the epoch that the room was born in. -/
def inUpB (l : List Node) (k : Int) : Bool := slotB l (IntKind.i64.wrap ((nodeAt l k).up - 1)) && (decide ((nodeAt l (IntKind.i64.wrap ((nodeAt l k).up - 1))).st = 1) && decide ((nodeAt l (IntKind.i64.wrap ((nodeAt l k).up - 1))).ep = (nodeAt l k).upEp))
theorem in_slot {l : List Node} {k : Int} (h : inUpB l k = true) : slotB l (IntKind.i64.wrap ((nodeAt l k).up - 1)) = true := by
  unfold inUpB at h
  rw [Bool.and_eq_true] at h
  exact h.1
theorem c_isLive {l : List Node} (hl : l.length ≤ M63) (x : Int) : CallD Try.prog F_impl_isLive [rNs l, iS x] fun r _ => r = bS (lvB l x) := by
  refine k_impl_isLive ?_
  unfold vc_impl_isLive lvB
  have c := c_isSlot hl (IntKind.i64.wrap (x - 1))
  generalize IntKind.i64.wrap (x - 1) = u at *
  refine ⟨fun g => bS_eq (by rw [g]; rfl), fun g0 => ⟨_, c, fun g => ?_, fun g => bS_eq (by rw [g, g0]; rfl)⟩⟩
  obtain ⟨p1, p2⟩ := slot_lt g
  simp only [nI, n_nodes, drop_at g, List.drop_zero, hdD_cons, isI_iV, asI_iV]
  refine ⟨p1, p2, by simp, trivial, fun g1 => bS_eq ?_, fun g1 => bS_eq ?_⟩
  · rw [g, g1]; simp
  · rw [g0, g1]; simp
theorem c_l9Live {l : List Node} (hl : l.length ≤ M63) {x : Int} (hx : I64 x) : CallD Try.prog F_spec_l9Live [rNs l, iS x] fun r _ => r = bS (lvB l x) := by
  refine k_spec_l9Live ?_
  unfold vc_spec_l9Live lvB
  have c := c_l9Place (l := l) x
  rw [slot_pred hl hx] at c
  generalize IntKind.i64.wrap (x - 1) = u at *
  refine ⟨fun g => bS_eq (by rw [g]; rfl), fun g0 => ⟨_, c, fun g => ?_, fun g => bS_eq (by rw [g, g0]; rfl)⟩⟩
  obtain ⟨p1, p2⟩ := slot_lt g
  simp only [nI, n_nodes, drop_at g, List.drop_zero, hdD_cons, isI_iV, asI_iV]
  refine ⟨p1, p2, by simp, trivial, fun g1 => bS_eq ?_, fun g1 => bS_eq ?_⟩
  · rw [g, g1]; simp
  · rw [g0, g1]; simp
theorem c_isCurrent {l : List Node} (hl : l.length ≤ M63) {k : Int} (hk : slotB l k = true) : CallD Try.prog F_impl_isCurrent [rNs l, iS k] fun r _ => r = bS (inUpB l k) := by
  obtain ⟨q1, q2⟩ := slot_lt hk
  refine k_impl_isCurrent ?_
  unfold vc_impl_isCurrent inUpB
  have c := c_isSlot hl (IntKind.i64.wrap ((nodeAt l k).up - 1))
  simp only [nI, n_nodes, drop_at hk, List.drop_zero, List.drop_succ_cons, hdD_cons, isI_iV, asI_iV]
  generalize IntKind.i64.wrap ((nodeAt l k).up - 1) = u at *
  refine ⟨q1, q2, by simp, trivial, _, c, fun g => ?_, fun g => bS_eq (by rw [g]; rfl)⟩
  obtain ⟨p1, p2⟩ := slot_lt g
  simp only [drop_at g, List.drop_zero, List.drop_succ_cons, hdD_cons, isI_iV, asI_iV]
  refine ⟨p1, p2, by simp, trivial, fun g1 => ⟨p1, p2, by simp, trivial, q1, q2, by simp, trivial, fun g2 => bS_eq ?_, fun g2 => bS_eq ?_⟩, fun g1 => bS_eq ?_⟩
  · rw [g, g1, g2]; rfl
  · rw [g2]; simp
  · rw [g1]; simp
/-- The links of a room fit to the rooms that they lead to. -/
def oneB (bF bN bP bU inU : Bool) (fv nv pv uv ep upEp k1 : Int) (F N P U : Node) : Bool :=
  bF && (bN && (bP && ((decide (uv = 0) || bU) &&
    ((decide (fv = 0) || (decide (F.prev = 0) && (decide (F.up = k1) && decide (F.upEp = ep)))) &&
    ((decide (nv = 0) || (decide (N.prev = k1) && (decide (N.up = uv) && decide (N.upEp = upEp)))) &&
    ((decide (pv = 0) || decide (P.next = k1)) && (!decide (pv = 0) || (!inU || decide (U.first = k1)))))))))
def linkB (l : List Node) (k : Int) : Bool := oneB (lvB l (nodeAt l k).first) (lvB l (nodeAt l k).next) (lvB l (nodeAt l k).prev) (slotB l (IntKind.i64.wrap ((nodeAt l k).up - 1))) (inUpB l k)
  (nodeAt l k).first (nodeAt l k).next (nodeAt l k).prev (nodeAt l k).up (nodeAt l k).ep (nodeAt l k).upEp (IntKind.i64.wrap (k + 1)) (nodeAt l (IntKind.i64.wrap ((nodeAt l k).first - 1))) (nodeAt l (IntKind.i64.wrap ((nodeAt l k).next - 1))) (nodeAt l (IntKind.i64.wrap ((nodeAt l k).prev - 1))) (nodeAt l (IntKind.i64.wrap ((nodeAt l k).up - 1)))
set_option maxHeartbeats 4000000 in
theorem c_linksOk {l : List Node} (hl : l.length ≤ M63) {k : Int} (hk : slotB l k = true) : CallD Try.prog F_impl_linksOk [rNs l, iS k] fun r _ => r = bS (linkB l k) := by
  obtain ⟨q1, q2⟩ := slot_lt hk
  refine k_impl_linksOk ?_
  unfold vc_impl_linksOk linkB
  simp only [nI, n_nodes, drop_at hk, List.tail_cons, hdD_cons, isI_iV, asI_iV, isL_sl, Bool.not_eq_true', Bool.not_eq_false']
  have cF := c_isLive hl (nodeAt l k).first
  have cN := c_isLive hl (nodeAt l k).next
  have cP := c_isLive hl (nodeAt l k).prev
  have cU := c_isSlot hl (IntKind.i64.wrap ((nodeAt l k).up - 1))
  have cC := c_isCurrent hl hk
  have hF := @lv_slot l (nodeAt l k).first
  have hN := @lv_slot l (nodeAt l k).next
  have hP := @lv_slot l (nodeAt l k).prev
  have hC := @in_slot l k
  generalize IntKind.i64.wrap ((nodeAt l k).first - 1) = F at *
  generalize IntKind.i64.wrap ((nodeAt l k).next - 1) = N at *
  generalize IntKind.i64.wrap ((nodeAt l k).prev - 1) = P at *
  generalize IntKind.i64.wrap ((nodeAt l k).up - 1) = U at *
  generalize lvB l (nodeAt l k).first = bF at *
  generalize lvB l (nodeAt l k).next = bN at *
  generalize lvB l (nodeAt l k).prev = bP at *
  generalize inUpB l k = bC at *
  generalize hbU : slotB l U = bU at cU
  generalize (nodeAt l k).first = fv at *
  generalize (nodeAt l k).next = nv at *
  generalize (nodeAt l k).prev = pv at *
  generalize (nodeAt l k).up = uv at *
  generalize (nodeAt l k).upEp = ue at *
  generalize (nodeAt l k).ep = ep at *
  generalize IntKind.i64.wrap (k + 1) = k1 at *
  repeat' (first
    | exact cF | exact cN | exact cP | exact cU | exact cC
    | trivial
    | (refine bS_eq ?_; simp [oneB, *]; done)
    | (intro g; have s := hF ‹_› g; have p := slot_lt s; simp only [drop_at s, List.tail_cons, hdD_cons, isI_iV, asI_iV, isL_sl])
    | (intro g; have s := hN ‹_› g; have p := slot_lt s; simp only [drop_at s, List.tail_cons, hdD_cons, isI_iV, asI_iV, isL_sl])
    | (intro g; have s := hP ‹_› g; have p := slot_lt s; simp only [drop_at s, List.drop_succ_cons, List.drop_zero, hdD_cons, isI_iV, asI_iV])
    | (intro g; have s := hC g; have p := slot_lt s; simp only [drop_at s, List.drop_succ_cons, List.drop_zero, hdD_cons, isI_iV, asI_iV])
    | intro _
    | omega
    | (simp only [List.length_cons]; omega)
    | apply And.intro
    | apply Exists.intro
    | (exfalso; simp_all; done))
/-- Where a slot's way up ends. -/
def lastR (l : List Node) (k : Int) : Int := (rise l l.length k).getD ((rise l l.length k).length - 1) 0
theorem rise_last {l : List Node} (hl : l.length ≤ 1048576) {k : Int} (hk : slotB l k = true) : ∃ n : Nat, (rise l l.length k).length = n + 1 ∧ n < 1048576 ∧ (DV.sl 1 (ints (rise l l.length k))).getP [n] = iV (lastR l k) ∧ slotB l (lastR l k) = true := by
  obtain ⟨q1, q2⟩ := slot_lt hk
  have hlen := rise_len l l.length k
  obtain ⟨hsl, _⟩ := rise_at l l.length k
  have hp : 0 < (rise l l.length k).length := by
    obtain ⟨f, hf⟩ : ∃ f, l.length = f + 1 := ⟨l.length - 1, by omega⟩
    rw [hf]
    unfold rise
    rw [if_pos hk]
    simp
  unfold lastR
  generalize rise l l.length k = way at *
  have hj : way.length - 1 < way.length := by omega
  refine ⟨way.length - 1, by omega, by omega, ?_, ?_⟩
  · show (ints way).getD (way.length - 1) dfl = _
    rw [getD_ints hj, getD_eq hj]
  · rw [getD_eq hj]
    exact hsl _ (List.getElem_mem hj)
def tailB (l : List Node) (k : Int) : Bool := decide (((rise l l.length k).length : Int) ≤ 4) && !inUpB l (lastR l k)
theorem rise_tail {l : List Node} (hl : l.length ≤ 1048576) (hok : ∀ n ∈ l, n.ok) {k : Int} (hk : slotB l k = true) (h64 : I64 k) {x : Bool} (hx : x = true) :
    ∃ es : List DV, (CallD Try.prog F_spec_Rise [rNs l, iS k] fun r _ => r = oneC (CV.own (DV.sl 1 es))) ∧ (decide (nI (DV.sl 1 es).n ≤ 4) = true → 0 ≤ IntKind.i64.wrap (nI (DV.sl 1 es).n - 1) ∧ IntKind.i64.wrap (nI (DV.sl 1 es).n - 1) < nI (DV.sl 1 es).n ∧ placeOk (oneC (CV.own (DV.sl 1 es))) [(IntKind.i64.wrap (nI (DV.sl 1 es).n - 1)).toNat * 1] ∧
      DV.isI IntKind.i64 ((DV.sl 1 es).getP [(IntKind.i64.wrap (nI (DV.sl 1 es).n - 1)).toNat * 1]) ∧ ∃ b : Bool, (CallD Try.prog F_spec_l9In [rNs l, oneC (iC ((DV.sl 1 es).getP [(IntKind.i64.wrap (nI (DV.sl 1 es).n - 1)).toNat * 1]).asI)] fun r _ => r = oneC (DL.bC b)) ∧
        (b = true → oneC (DL.bC !true) = bS (x && tailB l k)) ∧ (b = false → oneC (DL.bC !false) = bS (x && tailB l k))) ∧ (decide (nI (DV.sl 1 es).n ≤ 4) = false → oneC (DL.bC false) = bS (x && tailB l k)) := by
  subst hx
  have hM : l.length ≤ M63 := by unfold M63; omega
  obtain ⟨n, h1, h2, h3, h4⟩ := rise_last hl hk
  have c := c_l9In hM hok h4
  refine ⟨ints (rise l l.length k), c_RiseS hl h64, ?_⟩
  unfold tailB
  rw [show (slotB l (IntKind.i64.wrap ((nodeAt l (lastR l k)).up - 1)) && (decide ((nodeAt l (IntKind.i64.wrap ((nodeAt l (lastR l k)).up - 1))).st = 1) && decide ((nodeAt l (IntKind.i64.wrap ((nodeAt l (lastR l k)).up - 1))).ep = (nodeAt l (lastR l k)).upEp))) = inUpB l (lastR l k) from rfl] at c
  have hn : nI (DV.sl 1 (ints (rise l l.length k))).n = ((n + 1 : Nat) : Int) := by simp only [nI, n_ints]; rw [h1]
  have hw : IntKind.i64.wrap (((n + 1 : Nat) : Int) - 1) = (n : Int) := by rw [wrap_id] <;> omega
  rw [hn, hw, h1, Int.toNat_natCast, Nat.mul_one, h3, asI_iV]
  refine ⟨fun g => ⟨by omega, by omega, ⟨by rw [es_sl, ints_length, h1]; omega, trivial⟩, by simp only [isI_iV], _, c, fun g2 => ?_, fun g2 => ?_⟩, fun g => ?_⟩
  · rw [g, g2]; rfl
  · rw [g, g2]; rfl
  · rw [g]; rfl
theorem slot_i64 {l : List Node} (hl : l.length ≤ 1048576) {k : Int} (hk : slotB l k = true) : I64 k := by
  obtain ⟨q1, q2⟩ := slot_lt hk
  unfold I64
  omega
set_option maxHeartbeats 4000000 in
theorem c_l9One {l : List Node} (hl : l.length ≤ 1048576) (hok : ∀ n ∈ l, n.ok) {k : Int} (hk : slotB l k = true) : CallD Try.prog F_spec_l9One [rNs l, iS k] fun r _ => r = bS (linkB l k && tailB l k) := by
  obtain ⟨q1, q2⟩ := slot_lt hk
  have h64 := slot_i64 hl hk
  have hM : l.length ≤ M63 := by unfold M63; omega
  have ho : (nodeAt l k).ok := by
    obtain ⟨hi, e⟩ := nodeAt_eq hk
    rw [e]
    exact hok _ (List.getElem_mem hi)
  refine k_spec_l9One ?_
  unfold vc_spec_l9One linkB
  simp only [nI, n_nodes, drop_at hk, List.tail_cons, hdD_cons, isI_iV, asI_iV, isL_sl, Bool.not_eq_true', Bool.not_eq_false']
  have tl := @rise_tail l hl hok k hk h64
  have cF := c_l9Live hM ho.2.2.2.2.2.1
  have cN := c_l9Live hM ho.2.2.2.2.2.2.1
  have cP := c_l9Live hM ho.2.2.2.2.2.2.2.1
  have cU := c_l9Place (l := l) (nodeAt l k).up
  rw [slot_pred hM ho.2.2.2.1] at cU
  have cC : CallD Try.prog F_spec_l9In [rNs l, iS k] fun r _ => r = bS (inUpB l k) := c_l9In hM hok hk
  have hF := @lv_slot l (nodeAt l k).first
  have hN := @lv_slot l (nodeAt l k).next
  have hP := @lv_slot l (nodeAt l k).prev
  have hC := @in_slot l k
  clear ho
  generalize IntKind.i64.wrap ((nodeAt l k).first - 1) = F at *
  generalize IntKind.i64.wrap ((nodeAt l k).next - 1) = N at *
  generalize IntKind.i64.wrap ((nodeAt l k).prev - 1) = P at *
  generalize IntKind.i64.wrap ((nodeAt l k).up - 1) = U at *
  generalize lvB l (nodeAt l k).first = bF at *
  generalize lvB l (nodeAt l k).next = bN at *
  generalize lvB l (nodeAt l k).prev = bP at *
  generalize inUpB l k = bC at *
  generalize hbU : slotB l U = bU at cU
  generalize (nodeAt l k).first = fv at *
  generalize (nodeAt l k).next = nv at *
  generalize (nodeAt l k).prev = pv at *
  generalize (nodeAt l k).up = uv at *
  generalize (nodeAt l k).upEp = ue at *
  generalize (nodeAt l k).ep = ep at *
  generalize IntKind.i64.wrap (k + 1) = k1 at *
  generalize tailB l k = tb at *
  repeat' (first
    | exact cF | exact cN | exact cP | exact cU | exact cC
    | trivial
    | (refine bS_eq ?_; simp [oneB, *]; done)
    | (refine tl ?_; simp [oneB, *]; done)
    | (intro g; have s := hF ‹_› g; have p := slot_lt s; simp only [drop_at s, List.tail_cons, hdD_cons, isI_iV, asI_iV, isL_sl])
    | (intro g; have s := hN ‹_› g; have p := slot_lt s; simp only [drop_at s, List.tail_cons, hdD_cons, isI_iV, asI_iV, isL_sl])
    | (intro g; have s := hP ‹_› g; have p := slot_lt s; simp only [drop_at s, List.drop_succ_cons, List.drop_zero, hdD_cons, isI_iV, asI_iV])
    | (intro g; have s := hC g; have p := slot_lt s; simp only [drop_at s, List.drop_succ_cons, List.drop_zero, hdD_cons, isI_iV, asI_iV])
    | intro _
    | omega
    | (simp only [List.length_cons]; omega)
    | apply And.intro
    | apply Exists.intro
    | (exfalso; simp_all; done))
def goodB (l : List Node) (k : Int) : Bool := !decide ((nodeAt l k).st = 1) || (linkB l k && tailB l k)
def treeB (l : List Node) : Bool := (List.range l.length).all fun k => goodB l k
theorem tree_false {l : List Node} {k : Nat} (hk : k < l.length) (h : goodB l k = false) : treeB l = false := by
  unfold treeB
  cases e : (List.range l.length).all fun k => goodB l k with
  | false => rfl
  | true => have := List.all_eq_true.1 e k (List.mem_range.2 hk); rw [h] at this; cases this
theorem tree_true {l : List Node} (h : ∀ k < l.length, goodB l (k : Nat) = true) : treeB l = true := List.all_eq_true.2 fun k hk => h k (List.mem_range.1 hk)
theorem c_TreeOkS {l : List Node} (hl : l.length ≤ 1048576) (hok : ∀ n ∈ l, n.ok) : CallD Try.prog F_spec_TreeOk [rNs l] fun r _ => r = bS (treeB l) := by
  refine k_spec_TreeOk ?_
  unfold vc_spec_TreeOk
  simp only [nI, n_nodes]
  refine ⟨fun i m => ∃ q : Nat, i = q ∧ q ≤ l.length ∧ m = l.length - q ∧ ∀ j < q, goodB l (j : Nat) = true, ⟨l.length, 0, rfl, Nat.zero_le _, rfl, fun j hj => by omega⟩, ?_⟩
  rintro i m ⟨q, rfl, hq, rfl, ht⟩
  have w1 : IntKind.i64.wrap ((q : Int) + 1) = ((q + 1 : Nat) : Int) := by rw [wrap_id] <;> omega
  rw [w1]
  simp only [decide_eq_true_eq (p := (q : Int) < l.length), decide_eq_false_iff_not (p := (q : Int) < l.length)]
  refine ⟨fun h1 => ?_, fun h1 => bS_eq (tree_true fun k hk => ht k (by omega)).symm⟩
  have ha : q < l.length := by omega
  have hs : slotB l q = true := slotB_iff.2 ⟨by omega, h1⟩
  have c := c_l9One hl hok hs
  simp only [drop_at hs, List.drop_zero, hdD_cons, isI_iV, asI_iV]
  have next : goodB l q = true → ∃ m, m < l.length - q ∧ ∃ q' : Nat, ((q + 1 : Nat) : Int) = q' ∧ q' ≤ l.length ∧ m = l.length - q' ∧ ∀ j < q', goodB l (j : Nat) = true := fun hg => ⟨l.length - (q + 1), by omega, q + 1, rfl, by omega, rfl, fun j hj => by
    by_cases ej : j = q
    · subst ej; exact hg
    · exact ht j (by omega)⟩
  refine ⟨by omega, by omega, by simp, trivial, fun g => ⟨_, c, fun g2 => ⟨trivial, next ?_⟩, fun g2 => bS_eq (tree_false ha ?_).symm⟩, fun g => ⟨trivial, next ?_⟩⟩
  · unfold goodB; rw [g2]; simp
  · unfold goodB; rw [g2, g]; rfl
  · unfold goodB; rw [g]; rfl
theorem c_TreeOk {l : List Node} (hl : l.length ≤ 1048576) : CallD Try.prog F_impl_TreeOk [rNs l] fun r _ => r = bS (treeB l) := by
  have hM : l.length ≤ M63 := by unfold M63; omega
  refine k_impl_TreeOk ?_
  unfold vc_impl_TreeOk
  simp only [nI, n_nodes]
  refine ⟨fun i m => ∃ q : Nat, i = q ∧ q ≤ l.length ∧ m = l.length - q ∧ ∀ j < q, goodB l (j : Nat) = true, ⟨l.length, 0, rfl, Nat.zero_le _, rfl, fun j hj => by omega⟩, ?_⟩
  rintro i m ⟨q, rfl, hq, rfl, ht⟩
  have w1 : IntKind.i64.wrap ((q : Int) + 1) = ((q + 1 : Nat) : Int) := by rw [wrap_id] <;> omega
  rw [w1]
  simp only [decide_eq_true_eq (p := (q : Int) < l.length), decide_eq_false_iff_not (p := (q : Int) < l.length)]
  refine ⟨fun h1 => ?_, fun h1 => bS_eq (tree_true fun k hk => ht k (by omega)).symm⟩
  have ha : q < l.length := by omega
  have hs : slotB l q = true := slotB_iff.2 ⟨by omega, h1⟩
  have c := c_linksOk hM hs
  obtain ⟨n, r1, r2, r3, r4⟩ := rise_last hl hs
  have cR := c_Rise hl (slot_i64 hl hs)
  have cC := c_isCurrent hM r4
  simp only [drop_at hs, List.tail_cons, hdD_cons, isI_iV, asI_iV, isL_sl, Bool.not_eq_true', Bool.not_eq_false']
  have next : goodB l q = true → ∃ m, m < l.length - q ∧ ∃ q' : Nat, ((q + 1 : Nat) : Int) = q' ∧ q' ≤ l.length ∧ m = l.length - q' ∧ ∀ j < q', goodB l (j : Nat) = true := fun hg => ⟨l.length - (q + 1), by omega, q + 1, rfl, by omega, rfl, fun j hj => by
    by_cases ej : j = q
    · subst ej; exact hg
    · exact ht j (by omega)⟩
  have hw : IntKind.i64.wrap (((n + 1 : Nat) : Int) - 1) = (n : Int) := by rw [wrap_id] <;> omega
  refine ⟨by omega, by omega, by simp, trivial, trivial, trivial, trivial, trivial, trivial, trivial, trivial, trivial, trivial, trivial, trivial, trivial, fun g => ⟨by simp, next ?_⟩, fun g => ⟨_, c, fun g2 => ⟨_, cR, ?_⟩, fun g2 => bS_eq (tree_false ha ?_).symm⟩⟩
  · unfold goodB; rw [g]; rfl
  · simp only [n_ints, r1, hw, Int.toNat_natCast, Nat.mul_one, r3, asI_iV, isI_iV]
    refine ⟨fun g3 => bS_eq (tree_false ha ?_).symm, fun g3 => ⟨by omega, by omega, ⟨by rw [es_sl, ints_length, r1]; omega, trivial⟩, trivial, _, cC, fun g4 => bS_eq (tree_false ha ?_).symm, fun g4 => ⟨by simp, next ?_⟩⟩⟩
    · unfold goodB tailB; rw [g2, g, r1, decide_eq_false (p := ((n + 1 : Nat) : Int) ≤ 4) (by simpa using g3)]; rfl
    · unfold goodB tailB; rw [g2, g, g4]; simp
    · unfold goodB tailB; rw [g2, g4, r1, decide_eq_true (p := ((n + 1 : Nat) : Int) ≤ 4) (by simpa using g3)]; simp
  · unfold goodB; rw [g2, g]; rfl
end Go.Proofs.Ythmpdfmdhfgaaaa
