/- Contracts of small functions: tables copied, marked, linked. -/
import Derived.Test.YthmpdfmdhfgaaaaHNO
import Derived.Test.YthmpdfmdhfgaaaaVHP
namespace Go.Proofs.Ythmpdfmdhfgaaaa
open Go Go.Proofs.Ythmpdfmdhfgaaaa.DL
set_option maxRecDepth 100000

theorem c_cloneT {l : List Thing} (hl : l.length ≤ 1048576) : CallD Try.prog F_slices_Clone_impl_Thing [rTh l] fun r _ => r = oTh l := by
  refine k_slices_Clone_impl_Thing ?_
  unfold vc_slices_Clone_impl_Thing
  simp only [n_things]
  have e : (DV.sl 3 ([] : List DV)).n = 0 := rfl
  rw [e]
  refine ⟨fun h => ?_, AllVal_things l, by omega, by omega, rfl⟩
  show oneC (.own (.sl 3 [])) = oneC (.own (.sl 3 (thgs l)))
  rw [h]
theorem c_copyNode {n : Node} (hs : n.sz ≤ 1048576) : CallD Try.prog F_impl_copyNode [rNode n] fun r _ => r = oNode n := by
  unfold Node.sz at hs
  refine k_impl_copyNode ?_
  unfold vc_impl_copyNode
  exact ⟨_, c_cloneI (by omega), _, c_cloneT (by omega), _, c_cloneI (by omega), rfl⟩
theorem c_l7Copy {n : Node} (hs : n.sz ≤ 1048576) : CallD Try.prog F_spec_l7Copy [rNode n] fun r _ => r = oNode n := by
  unfold Node.sz at hs
  refine k_spec_l7Copy ?_
  unfold vc_spec_l7Copy
  simp only [ints_length, n_things, n_one, List.length_nil, List.nil_append]
  have e : (DV.sl 3 ([] : List DV)).n = 0 := rfl
  rw [e]
  exact ⟨AllVal_ints _, by omega, by omega, AllVal_things _, by omega, by omega, AllVal_ints _, by omega, by omega, trivial⟩
theorem nods_snoc (l : List Node) (n : Node) : nods l ++ [iV n.st, iV n.gen, iV n.ep, iV n.up, iV n.upEp, iV n.first, iV n.next, iV n.prev, .sl 1 (ints n.chunks), iV n.cur, iV n.bump, .sl 3 (thgs n.things), .sl 1 (ints n.tags)] = nods (l ++ [n]) := flat_one Node.enc l n
theorem c_l7All {l : List Node} (h : totN l ≤ 1048576) : CallD Try.prog F_spec_l7All [rNs l] fun r _ => r = oNs l := by
  have h0 := szs_nonneg l
  unfold totN at h
  refine k_spec_l7All ?_
  unfold vc_spec_l7All
  simp only [nI, n_nodes]
  refine ⟨fun es i m => ∃ k : Nat, i = k ∧ k ≤ l.length ∧ m = l.length - k ∧ es = nods (l.take k), ⟨l.length, 0, rfl, Nat.zero_le _, rfl, rfl⟩, ?_⟩
  rintro es i m ⟨k, rfl, hk, rfl, rfl⟩
  simp only [Int.toNat_natCast, decide_eq_true_eq (p := (k : Int) < l.length), decide_eq_false_iff_not (p := (k : Int) < l.length)]
  refine ⟨fun h1 => ?_, fun h1 => ?_⟩
  · have ha : k < l.length := by omega
    have one : ∀ n : Node, (DV.sl 13 [iV n.st, iV n.gen, iV n.ep, iV n.up, iV n.upEp, iV n.first, iV n.next, iV n.prev, .sl 1 (ints n.chunks), iV n.cur, iV n.bump, .sl 3 (thgs n.things), .sl 1 (ints n.tags)]).n = 1 := fun n => by rw [DV.n_eq]; simp
    simp only [drop_nodes ha, hdD_cons, List.tail_cons, isI_iV, asI_iV, isL_sl, es_sl, wrap_id (n := (k : Int) + 1) (by omega) (by omega)]
    refine ⟨by omega, by omega, by simp, trivial, trivial, trivial, trivial, trivial, trivial, trivial, trivial, trivial, trivial, trivial, trivial, trivial, _, _, _, _, _, _, _, _, _, _, _, _, _, c_l7Copy (by have := szs_at ha; omega), ?_, ?_, trivial, l.length - (k + 1), by omega, k + 1, by omega, by omega, rfl, ?_⟩
    · rw [one, n_nodes]; simp; omega
    · rw [one, n_nodes]; simp; omega
    · rw [nods_snoc, List.take_succ_eq_append_getElem ha]
  · have : k = l.length := by omega
    subst this
    rw [List.take_of_length_le (Nat.le_refl _)]
theorem c_copyTable {l : List Node} (h : totN l ≤ 1048576) : CallD Try.prog F_impl_copyTable [rNs l] fun r _ => r = oNs l := by
  have h0 := szs_nonneg l
  unfold totN at h
  refine k_impl_copyTable ?_
  unfold vc_impl_copyTable
  simp only [nI, n_nodes]
  refine ⟨fun es i m => ∃ k : Nat, i = k ∧ k ≤ l.length ∧ m = l.length - k ∧ es = nods (l.take k), ⟨l.length, 0, rfl, Nat.zero_le _, rfl, rfl⟩, ?_⟩
  rintro es i m ⟨k, rfl, hk, rfl, rfl⟩
  simp only [Int.toNat_natCast, decide_eq_true_eq (p := (k : Int) < l.length), decide_eq_false_iff_not (p := (k : Int) < l.length)]
  refine ⟨fun h1 => ?_, fun h1 => ?_⟩
  · have ha : k < l.length := by omega
    have one : ∀ n : Node, (DV.sl 13 [iV n.st, iV n.gen, iV n.ep, iV n.up, iV n.upEp, iV n.first, iV n.next, iV n.prev, .sl 1 (ints n.chunks), iV n.cur, iV n.bump, .sl 3 (thgs n.things), .sl 1 (ints n.tags)]).n = 1 := fun n => by rw [DV.n_eq]; simp
    simp only [drop_nodes ha, hdD_cons, List.tail_cons, isI_iV, asI_iV, isL_sl, es_sl, wrap_id (n := (k : Int) + 1) (by omega) (by omega)]
    refine ⟨by omega, by omega, by simp, trivial, trivial, trivial, trivial, trivial, trivial, trivial, trivial, trivial, trivial, trivial, trivial, trivial, _, _, _, _, _, _, _, _, _, _, _, _, _, c_copyNode (by have := szs_at ha; omega), ?_, ?_, by simp, l.length - (k + 1), by omega, k + 1, by omega, by omega, rfl, ?_⟩
    · rw [one, n_nodes]; simp; omega
    · rw [one, n_nodes]; simp; omega
    · rw [nods_snoc, List.take_succ_eq_append_getElem ha]
  · have : k = l.length := by omega
    subst this
    rw [List.take_of_length_le (Nat.le_refl _)]
/-- A node of a table changed. -/
def upd (l : List Node) (k : Nat) (f : Node → Node) : List Node := l.set k (f (l.getD k zeroN))
theorem upd_length (l : List Node) (k : Nat) (f : Node → Node) : (upd l k f).length = l.length := by simp [upd]
theorem szs_upd {l : List Node} {k : Nat} {f : Node → Node} (hf : ∀ n, (f n).sz = n.sz) : szs (upd l k f) = szs l := by
  unfold upd
  by_cases h : k < l.length
  · rw [List.set_eq_take_append_cons_drop, if_pos h, szs_app, szs, hf, getD_node h]
    have e : l = l.take k ++ l[k] :: l.drop (k + 1) := by rw [List.getElem_cons_drop, List.take_append_drop]
    conv => rhs; rw [e]
    rw [szs_app, szs]
  · rw [List.set_eq_of_length_le (by omega)]
theorem totN_upd {l : List Node} {k : Nat} {f : Node → Node} (hf : ∀ n, (f n).sz = n.sz) : totN (upd l k f) = totN l := by
  unfold totN; rw [szs_upd hf, upd_length]
theorem set_cell {l : List Node} {k : Nat} (h : k < l.length) {j : Nat} {v : Int} {f : Node → Node} (hf : ∀ n : Node, n.enc.set j (iV v) = (f n).enc) (hj : j < 13) : (nods l).set (k * 13 + j) (iV v) = nods (upd l k f) := by
  unfold upd
  rw [nodes_set h, nodes_split h, set_at (nodes_pre h), List.set_append_left _ _ (by rw [Node.enc_len]; exact hj), hf, getD_node h]
theorem set_ep {l : List Node} {k : Nat} (h : k < l.length) (v : Int) : (nods l).set (k * 13 + 2) (iV v) = nods (upd l k fun n => { n with ep := v }) := set_cell h (fun _ => rfl) (by omega)
theorem set_up {l : List Node} {k : Nat} (h : k < l.length) (v : Int) : (nods l).set (k * 13 + 3) (iV v) = nods (upd l k fun n => { n with up := v }) := set_cell h (fun _ => rfl) (by omega)
theorem set_upEp {l : List Node} {k : Nat} (h : k < l.length) (v : Int) : (nods l).set (k * 13 + 4) (iV v) = nods (upd l k fun n => { n with upEp := v }) := set_cell h (fun _ => rfl) (by omega)
theorem set_first {l : List Node} {k : Nat} (h : k < l.length) (v : Int) : (nods l).set (k * 13 + 5) (iV v) = nods (upd l k fun n => { n with first := v }) := set_cell h (fun _ => rfl) (by omega)
theorem set_next {l : List Node} {k : Nat} (h : k < l.length) (v : Int) : (nods l).set (k * 13 + 6) (iV v) = nods (upd l k fun n => { n with next := v }) := set_cell h (fun _ => rfl) (by omega)
theorem set_prev {l : List Node} {k : Nat} (h : k < l.length) (v : Int) : (nods l).set (k * 13 + 7) (iV v) = nods (upd l k fun n => { n with prev := v }) := set_cell h (fun _ => rfl) (by omega)
def link5 (l : List Node) (up k : Int) : List Node :=
  upd (upd (upd (upd (upd l k.toNat fun n => { n with up := IntKind.i64.wrap (up + 1) }) k.toNat fun n => { n with upEp := (l.getD up.toNat zeroN).ep }) k.toNat fun n => { n with next := (l.getD up.toNat zeroN).first }) k.toNat fun n => { n with prev := 0 })
    up.toNat fun n => { n with first := IntKind.i64.wrap (k + 1) }
def linkL (l : List Node) (up k : Int) : List Node :=
  if slotB l up && (slotB l k && !decide (up = k)) then
    (if slotB l (IntKind.i64.wrap ((l.getD up.toNat zeroN).first - 1)) then upd (link5 l up k) (IntKind.i64.wrap ((l.getD up.toNat zeroN).first - 1)).toNat fun n => { n with prev := IntKind.i64.wrap (k + 1) } else link5 l up k) else l
theorem tot_up (l : List Node) (k : Nat) (v : Int) : totN (upd l k fun n => { n with up := v }) = totN l := totN_upd fun _ => rfl
theorem tot_upEp (l : List Node) (k : Nat) (v : Int) : totN (upd l k fun n => { n with upEp := v }) = totN l := totN_upd fun _ => rfl
theorem tot_next (l : List Node) (k : Nat) (v : Int) : totN (upd l k fun n => { n with next := v }) = totN l := totN_upd fun _ => rfl
theorem tot_prev (l : List Node) (k : Nat) (v : Int) : totN (upd l k fun n => { n with prev := v }) = totN l := totN_upd fun _ => rfl
theorem tot_first (l : List Node) (k : Nat) (v : Int) : totN (upd l k fun n => { n with first := v }) = totN l := totN_upd fun _ => rfl
theorem totN_link (l : List Node) (up k : Int) : totN (linkL l up k) = totN l := by
  unfold linkL
  split
  · split
    · rw [tot_prev]; unfold link5; rw [tot_first, tot_prev, tot_next, tot_upEp, tot_up]
    · unfold link5; rw [tot_first, tot_prev, tot_next, tot_upEp, tot_up]
  · rfl
theorem link_sets {l : List Node} {up k : Int} (h1 : slotB l up = true) (h2 : slotB l k = true) :
    (nods l).set (k.toNat * 13 + 3) (iV (IntKind.i64.wrap (up + 1))) = nods (upd l k.toNat fun n => { n with up := IntKind.i64.wrap (up + 1) }) ∧
    (nods (upd l k.toNat fun n => { n with up := IntKind.i64.wrap (up + 1) })).set (k.toNat * 13 + 4) (iV (l.getD up.toNat zeroN).ep) = nods (upd (upd l k.toNat fun n => { n with up := IntKind.i64.wrap (up + 1) }) k.toNat fun n => { n with upEp := (l.getD up.toNat zeroN).ep }) ∧
    (nods (upd (upd l k.toNat fun n => { n with up := IntKind.i64.wrap (up + 1) }) k.toNat fun n => { n with upEp := (l.getD up.toNat zeroN).ep })).set (k.toNat * 13 + 6) (iV (l.getD up.toNat zeroN).first) =
      nods (upd (upd (upd l k.toNat fun n => { n with up := IntKind.i64.wrap (up + 1) }) k.toNat fun n => { n with upEp := (l.getD up.toNat zeroN).ep }) k.toNat fun n => { n with next := (l.getD up.toNat zeroN).first }) ∧
    (nods (upd (upd (upd l k.toNat fun n => { n with up := IntKind.i64.wrap (up + 1) }) k.toNat fun n => { n with upEp := (l.getD up.toNat zeroN).ep }) k.toNat fun n => { n with next := (l.getD up.toNat zeroN).first })).set (k.toNat * 13 + 7) (iV 0) =
      nods (upd (upd (upd (upd l k.toNat fun n => { n with up := IntKind.i64.wrap (up + 1) }) k.toNat fun n => { n with upEp := (l.getD up.toNat zeroN).ep }) k.toNat fun n => { n with next := (l.getD up.toNat zeroN).first }) k.toNat fun n => { n with prev := 0 }) ∧
    (nods (upd (upd (upd (upd l k.toNat fun n => { n with up := IntKind.i64.wrap (up + 1) }) k.toNat fun n => { n with upEp := (l.getD up.toNat zeroN).ep }) k.toNat fun n => { n with next := (l.getD up.toNat zeroN).first }) k.toNat fun n => { n with prev := 0 })).set (up.toNat * 13 + 5) (iV (IntKind.i64.wrap (k + 1))) = nods (link5 l up k) := by
  obtain ⟨p1, p2⟩ := slotB_iff.1 h1
  obtain ⟨q1, q2⟩ := slotB_iff.1 h2
  refine ⟨set_up (by omega) _, set_upEp (by rw [upd_length]; omega) _, set_next (by rw [upd_length, upd_length]; omega) _, set_prev (by rw [upd_length, upd_length, upd_length]; omega) _, set_first (by rw [upd_length, upd_length, upd_length, upd_length]; omega) _⟩
theorem link5_length (l : List Node) (up k : Int) : (link5 l up k).length = l.length := by simp only [link5, upd_length]
theorem c_Link {l : List Node} (h : totN l ≤ 1048576) (up k : Int) : CallD Try.prog F_impl_Link [rNs l, iS up, iS k] fun r _ => r = oNs (linkL l up k) := by
  have h0 := szs_nonneg l
  have hl : l.length ≤ M63 := by unfold M63; unfold totN at h; omega
  refine k_impl_Link ?_
  unfold vc_impl_Link
  have off : (slotB l up && (slotB l k && !decide (up = k))) = false → oNs l = oNs (linkL l up k) := fun g => by unfold linkL; rw [g]; rfl
  refine ⟨_, c_copyTable h, _, c_isSlot hl up, fun g1 => ⟨_, c_isSlot hl k, fun g2 => ⟨fun g3 => ?_, fun g3 => ?_⟩, fun g2 => ?_⟩, fun g1 => ?_⟩
  · exact off (by rw [g3]; simp)
  · obtain ⟨s1, s2, s3, s4, s5⟩ := link_sets g1 g2
    obtain ⟨p1, p2⟩ := slotB_iff.1 g1
    obtain ⟨q1, q2⟩ := slotB_iff.1 g2
    have hi : up.toNat < l.length := by omega
    have en : l.getD up.toNat zeroN = l[up.toNat] := getD_node hi
    rw [en] at s2 s3 s4 s5
    have eL : linkL l up k = if slotB l (IntKind.i64.wrap (l[up.toNat].first - 1)) then upd (link5 l up k) (IntKind.i64.wrap (l[up.toNat].first - 1)).toNat fun n => { n with prev := IntKind.i64.wrap (k + 1) } else link5 l up k := by
      unfold linkL; rw [g1, g2, g3, en]; rfl
    rw [eL]
    clear eL off
    simp only [drop_nodes hi, List.drop_succ_cons, List.drop_zero, hdD_cons, isI_iV, asI_iV, s1, s2, s3, s4, s5, nI, n_nodes, nodes_length, upd_length, link5_length, es_sl]
    refine ⟨p1, p2, by simp, trivial, p1, p2, by simp, trivial, q1, q2, trivial, by omega, q1, q2, trivial, by omega, q1, q2, trivial, by omega, q1, q2, trivial, by omega, p1, p2, trivial, by omega, _, c_isSlot hl _, fun g4 => ?_, fun g4 => ?_⟩
    · obtain ⟨r1, r2⟩ := slotB_iff.1 g4
      refine ⟨r1, r2, trivial, by omega, ?_⟩
      rw [set_prev (by rw [link5_length]; omega), g4]
      rfl
    · rw [g4]; rfl
  · exact off (by rw [g2]; simp)
  · exact off (by rw [g1]; rfl)
theorem slot_pred {l : List Node} (hl : l.length ≤ M63) {x : Int} (hx : I64 x) : slotB l (x - 1) = slotB l (IntKind.i64.wrap (x - 1)) := by
  unfold M63 at hl
  unfold I64 at hx
  rw [Bool.eq_iff_iff, slotB_iff, slotB_iff, wrapI]
  split <;> omega
theorem c_LinkS {l : List Node} (h : totN l ≤ 1048576) (hok : ∀ n ∈ l, n.ok) {up k : Int} (hu : I64 up) (hk : I64 k) : CallD Try.prog F_spec_Link [rNs l, iS up, iS k] fun r _ => r = oNs (linkL l up k) := by
  have h0 := szs_nonneg l
  have hl : l.length ≤ M63 := by unfold M63; unfold totN at h; omega
  refine k_spec_Link ?_
  unfold vc_spec_Link
  have off : (slotB l up && (slotB l k && !decide (up = k))) = false → oNs l = oNs (linkL l up k) := fun g => by unfold linkL; rw [g]; rfl
  have c1 := c_l9Place (l := l) (IntKind.i64.wrap (up + 1))
  rw [slot_wrap hl hu] at c1
  have c2 := c_l9Place (l := l) (IntKind.i64.wrap (k + 1))
  rw [slot_wrap hl hk] at c2
  refine ⟨_, c_l7All h, _, c1, fun g1 => ⟨_, c2, fun g2 => ⟨fun g3 => ?_, fun g3 => ?_⟩, fun g2 => ?_⟩, fun g1 => ?_⟩
  · exact off (by rw [g3]; simp)
  · obtain ⟨s1, s2, s3, s4, s5⟩ := link_sets g1 g2
    obtain ⟨p1, p2⟩ := slotB_iff.1 g1
    obtain ⟨q1, q2⟩ := slotB_iff.1 g2
    have hi : up.toNat < l.length := by omega
    have en : l.getD up.toNat zeroN = l[up.toNat] := getD_node hi
    rw [en] at s2 s3 s4 s5
    have eL : linkL l up k = if slotB l (IntKind.i64.wrap (l[up.toNat].first - 1)) then upd (link5 l up k) (IntKind.i64.wrap (l[up.toNat].first - 1)).toNat fun n => { n with prev := IntKind.i64.wrap (k + 1) } else link5 l up k := by
      unfold linkL; rw [g1, g2, g3, en]; rfl
    rw [eL]
    clear eL off
    have hf := (hok _ (List.getElem_mem hi)).2.2.2.2.2.1
    have c3 := c_l9Place (l := l) l[up.toNat].first
    rw [slot_pred hl hf] at c3
    simp only [drop_nodes hi, List.drop_succ_cons, List.drop_zero, hdD_cons, isI_iV, asI_iV, s1, s2, s3, s4, s5, nI, n_nodes, nodes_length, upd_length, link5_length, es_sl]
    refine ⟨p1, p2, by simp, trivial, q1, q2, trivial, by omega, p1, p2, by simp, trivial, q1, q2, trivial, by omega, q1, q2, trivial, by omega, q1, q2, trivial, by omega, p1, p2, trivial, by omega, _, c3, fun g4 => ?_, fun g4 => ?_⟩
    · obtain ⟨r1, r2⟩ := slotB_iff.1 g4
      refine ⟨r1, r2, trivial, by omega, ?_⟩
      rw [set_prev (by rw [link5_length]; omega), g4]
      rfl
    · rw [g4]; rfl
  · exact off (by rw [g2]; simp)
  · exact off (by rw [g1]; rfl)

theorem markNs_get : ∀ (l : List Node) (b : Int) (k : Nat) (h : k < l.length), (markNs b l)[k]'(by rw [markNs_length]; exact h) = l[k].markS (endNs b (l.take k))
  | [], b, k, h => by simp at h
  | n :: l, b, 0, h => rfl
  | n :: l, b, k + 1, h => by
    simp only [markNs, List.getElem_cons_succ, List.take_succ_cons, endNs]
    exact markNs_get l _ k (by simpa using h)
end Go.Proofs.Ythmpdfmdhfgaaaa
