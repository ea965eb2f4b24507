/- Contracts of small functions: tables copied, marked, linked. -/
import Derived.Test.YtlffmhhdgedddaaHNO
import Derived.Test.YtlffmhhdgedddaaVHP
namespace Go.Proofs.Ytlffmhhdgedddaa
open Go Go.Proofs.Ytlffmhhdgedddaa.DL
set_option maxRecDepth 100000

theorem nods_snoc (l : List Node) (n : Node) : nods l ++ [iV n.st, iV n.gen, iV n.ep, iV n.up, iV n.upEp, iV n.first, iV n.next, iV n.prev, .sl 1 (ints n.chunks), iV n.cur, iV n.bump, .sl 3 (thgs n.things), .sl 1 (ints n.tags)] = nods (l ++ [n]) := flat_one Node.enc l n
/-- A node of a table changed. -/
def upd (l : List Node) (k : Nat) (f : Node → Node) : List Node := l.set k (f (l.getD k zeroN))
theorem upd_length (l : List Node) (k : Nat) (f : Node → Node) : (upd l k f).length = l.length := by simp [upd]
theorem szs_upd {l : List Node} {k : Nat} {f : Node → Node} (hf : ∀ n, (f n).sz = n.sz) : szs (upd l k f) = szs l := by
  unfold upd
  by_cases h : k < l.length
  · rw [List.set_eq_take_append_cons_drop, if_pos h, szs_app, szs, hf, getD_node h]
    have e : l = l.take k ++ l[k] :: l.drop (k + 1) := by rw [List.getElem_cons_drop, List.take_append_drop]
    conv => rhs; rw [e]
    rw [szs_app, szs]
  · rw [List.set_eq_of_length_le (by omega)]
theorem totN_upd {l : List Node} {k : Nat} {f : Node → Node} (hf : ∀ n, (f n).sz = n.sz) : totN (upd l k f) = totN l := by
  unfold totN; rw [szs_upd hf, upd_length]
theorem set_cell {l : List Node} {k : Nat} (h : k < l.length) {j : Nat} {v : Int} {f : Node → Node} (hf : ∀ n : Node, n.enc.set j (iV v) = (f n).enc) (hj : j < 13) : (nods l).set (k * 13 + j) (iV v) = nods (upd l k f) := by
  unfold upd
  rw [nodes_set h, nodes_split h, set_at (nodes_pre h), List.set_append_left _ _ (by rw [Node.enc_len]; exact hj), hf, getD_node h]
theorem set_ep {l : List Node} {k : Nat} (h : k < l.length) (v : Int) : (nods l).set (k * 13 + 2) (iV v) = nods (upd l k fun n => { n with ep := v }) := set_cell h (fun _ => rfl) (by omega)
theorem set_up {l : List Node} {k : Nat} (h : k < l.length) (v : Int) : (nods l).set (k * 13 + 3) (iV v) = nods (upd l k fun n => { n with up := v }) := set_cell h (fun _ => rfl) (by omega)
theorem set_upEp {l : List Node} {k : Nat} (h : k < l.length) (v : Int) : (nods l).set (k * 13 + 4) (iV v) = nods (upd l k fun n => { n with upEp := v }) := set_cell h (fun _ => rfl) (by omega)
theorem set_first {l : List Node} {k : Nat} (h : k < l.length) (v : Int) : (nods l).set (k * 13 + 5) (iV v) = nods (upd l k fun n => { n with first := v }) := set_cell h (fun _ => rfl) (by omega)
theorem set_next {l : List Node} {k : Nat} (h : k < l.length) (v : Int) : (nods l).set (k * 13 + 6) (iV v) = nods (upd l k fun n => { n with next := v }) := set_cell h (fun _ => rfl) (by omega)
theorem set_prev {l : List Node} {k : Nat} (h : k < l.length) (v : Int) : (nods l).set (k * 13 + 7) (iV v) = nods (upd l k fun n => { n with prev := v }) := set_cell h (fun _ => rfl) (by omega)
def link5 (l : List Node) (up k : Int) : List Node :=
  upd (upd (upd (upd (upd l k.toNat fun n => { n with up := IntKind.i64.wrap (up + 1) }) k.toNat fun n => { n with upEp := (l.getD up.toNat zeroN).ep }) k.toNat fun n => { n with next := (l.getD up.toNat zeroN).first }) k.toNat fun n => { n with prev := 0 })
    up.toNat fun n => { n with first := IntKind.i64.wrap (k + 1) }
def linkL (l : List Node) (up k : Int) : List Node :=
  if slotB l up && (slotB l k && !decide (up = k)) then
    (if slotB l (IntKind.i64.wrap ((l.getD up.toNat zeroN).first - 1)) then upd (link5 l up k) (IntKind.i64.wrap ((l.getD up.toNat zeroN).first - 1)).toNat fun n => { n with prev := IntKind.i64.wrap (k + 1) } else link5 l up k) else l
theorem tot_up (l : List Node) (k : Nat) (v : Int) : totN (upd l k fun n => { n with up := v }) = totN l := totN_upd fun _ => rfl
theorem tot_upEp (l : List Node) (k : Nat) (v : Int) : totN (upd l k fun n => { n with upEp := v }) = totN l := totN_upd fun _ => rfl
theorem tot_next (l : List Node) (k : Nat) (v : Int) : totN (upd l k fun n => { n with next := v }) = totN l := totN_upd fun _ => rfl
theorem tot_prev (l : List Node) (k : Nat) (v : Int) : totN (upd l k fun n => { n with prev := v }) = totN l := totN_upd fun _ => rfl
theorem tot_first (l : List Node) (k : Nat) (v : Int) : totN (upd l k fun n => { n with first := v }) = totN l := totN_upd fun _ => rfl
theorem totN_link (l : List Node) (up k : Int) : totN (linkL l up k) = totN l := by
  unfold linkL
  split
  · split
    · rw [tot_prev]; unfold link5; rw [tot_first, tot_prev, tot_next, tot_upEp, tot_up]
    · unfold link5; rw [tot_first, tot_prev, tot_next, tot_upEp, tot_up]
  · rfl
theorem link_sets {l : List Node} {up k : Int} (h1 : slotB l up = true) (h2 : slotB l k = true) :
    (nods l).set (k.toNat * 13 + 3) (iV (IntKind.i64.wrap (up + 1))) = nods (upd l k.toNat fun n => { n with up := IntKind.i64.wrap (up + 1) }) ∧
    (nods (upd l k.toNat fun n => { n with up := IntKind.i64.wrap (up + 1) })).set (k.toNat * 13 + 4) (iV (l.getD up.toNat zeroN).ep) = nods (upd (upd l k.toNat fun n => { n with up := IntKind.i64.wrap (up + 1) }) k.toNat fun n => { n with upEp := (l.getD up.toNat zeroN).ep }) ∧
    (nods (upd (upd l k.toNat fun n => { n with up := IntKind.i64.wrap (up + 1) }) k.toNat fun n => { n with upEp := (l.getD up.toNat zeroN).ep })).set (k.toNat * 13 + 6) (iV (l.getD up.toNat zeroN).first) =
      nods (upd (upd (upd l k.toNat fun n => { n with up := IntKind.i64.wrap (up + 1) }) k.toNat fun n => { n with upEp := (l.getD up.toNat zeroN).ep }) k.toNat fun n => { n with next := (l.getD up.toNat zeroN).first }) ∧
    (nods (upd (upd (upd l k.toNat fun n => { n with up := IntKind.i64.wrap (up + 1) }) k.toNat fun n => { n with upEp := (l.getD up.toNat zeroN).ep }) k.toNat fun n => { n with next := (l.getD up.toNat zeroN).first })).set (k.toNat * 13 + 7) (iV 0) =
      nods (upd (upd (upd (upd l k.toNat fun n => { n with up := IntKind.i64.wrap (up + 1) }) k.toNat fun n => { n with upEp := (l.getD up.toNat zeroN).ep }) k.toNat fun n => { n with next := (l.getD up.toNat zeroN).first }) k.toNat fun n => { n with prev := 0 }) ∧
    (nods (upd (upd (upd (upd l k.toNat fun n => { n with up := IntKind.i64.wrap (up + 1) }) k.toNat fun n => { n with upEp := (l.getD up.toNat zeroN).ep }) k.toNat fun n => { n with next := (l.getD up.toNat zeroN).first }) k.toNat fun n => { n with prev := 0 })).set (up.toNat * 13 + 5) (iV (IntKind.i64.wrap (k + 1))) = nods (link5 l up k) := by
  obtain ⟨p1, p2⟩ := slotB_iff.1 h1
  obtain ⟨q1, q2⟩ := slotB_iff.1 h2
  refine ⟨set_up (by omega) _, set_upEp (by rw [upd_length]; omega) _, set_next (by rw [upd_length, upd_length]; omega) _, set_prev (by rw [upd_length, upd_length, upd_length]; omega) _, set_first (by rw [upd_length, upd_length, upd_length, upd_length]; omega) _⟩
theorem link5_length (l : List Node) (up k : Int) : (link5 l up k).length = l.length := by simp only [link5, upd_length]
theorem slot_pred {l : List Node} (hl : l.length ≤ M63) {x : Int} (hx : I64 x) : slotB l (x - 1) = slotB l (IntKind.i64.wrap (x - 1)) := by
  unfold M63 at hl
  unfold I64 at hx
  rw [Bool.eq_iff_iff, slotB_iff, slotB_iff, wrapI]
  split <;> omega
theorem markNs_get : ∀ (l : List Node) (b : Int) (k : Nat) (h : k < l.length), (markNs b l)[k]'(by rw [markNs_length]; exact h) = l[k].markS (endNs b (l.take k))
  | [], b, k, h => by simp at h
  | n :: l, b, 0, h => rfl
  | n :: l, b, k + 1, h => by
    simp only [markNs, List.getElem_cons_succ, List.take_succ_cons, endNs]
    exact markNs_get l _ k (by simpa using h)
theorem c_heldNodeS {l : List Node} (h : totN l ≤ 1048576) {b : Int} (h0 : 0 ≤ b) (hb : b ≤ 1073741824) : CallD Try.prog F_laws_heldNodeS [rNs (markNs b l), iS b] fun r _ => r = iS (endNs b l) := by
  have hz := szs_nonneg l
  unfold totN at h
  refine k_laws_heldNodeS ?_
  unfold vc_laws_heldNodeS
  simp only [nI, n_nodes, markNs_length]
  refine ⟨fun n n1 m => ∃ k : Nat, n1 = k ∧ k ≤ l.length ∧ m = l.length - k ∧ n = endNs b (l.take k), ⟨_, 0, rfl, Nat.zero_le _, rfl, rfl⟩, ?_⟩
  rintro n n1 m ⟨k, rfl, hk, rfl, rfl⟩
  simp only [Int.toNat_natCast, decide_eq_true_eq (p := (k : Int) < l.length), decide_eq_false_iff_not (p := (k : Int) < l.length)]
  refine ⟨fun g => ?_, fun g => iS_eq ?_⟩
  · have ha : k < l.length := by omega
    have ha' : k < (markNs b l).length := by rw [markNs_length]; exact ha
    have htk : l.take (k + 1) = l.take k ++ [l[k]] := List.take_succ_eq_append_getElem ha
    have hle := endNs_le (l.take k) b
    have hz2 := szs_take l k
    have hs := szs_at ha
    rw [List.length_take] at hle
    have hle2 : b ≤ endNs b (l.take k) ∧ endNs b (l.take k) ≤ 1100000000 := by
      have : min k l.length = k := by omega
      rw [this] at hle
      omega
    have hend : endNs b (l.take (k + 1)) = l[k].mend (endNs b (l.take k)) := by rw [htk, endNs_app]; rfl
    have hg := markNs_get l b k ha
    simp only [drop_nodes ha', List.drop_zero, List.drop_succ_cons, hdD_cons, isI_iV, asI_iV, isL_sl, es_sl, hg]
    clear hg htk hz2 hle
    generalize endNs b (l.take k) = n at *
    unfold Node.sz at hs
    simp only [Node.markS]
    simp (disch := omega) only [wrap_id]
    have hlt : l.length - (k + 1) < l.length - k := by omega
    have hk1 : ((k : Int) + 1) = ((k + 1 : Nat) : Int) := by omega
    have m1 := c_heldI (n := l[k].chunks.length) (b := n + 1 + 1 + 1 + 1 + 1 + 1 + 1 + 1) (by omega) (by omega) (by unfold M40; omega)
    have m2 := c_heldTh (n := l[k].things.length) (b := n + 1 + 1 + 1 + 1 + 1 + 1 + 1 + 1 + l[k].chunks.length + 1 + 1) (by omega) (by omega) (by unfold M40; omega)
    have m3 := c_heldI (n := l[k].tags.length) (b := n + 1 + 1 + 1 + 1 + 1 + 1 + 1 + 1 + l[k].chunks.length + 1 + 1 + 3 * l[k].things.length) (by omega) (by omega) (by unfold M40; omega)
    repeat' (first
      | with_reducible apply And.intro
      | with_reducible apply Exists.intro
      | (intro g; exfalso; revert g; simp; done)
      | (intro g; exfalso; simp only [decide_eq_true_eq] at g; omega)
      | (intro g; exfalso; simp (disch := omega) only [wrap_id] at g; revert g; simp; done)
      | intro _
      | with_reducible exact m1
      | with_reducible exact m2
      | with_reducible exact m3
      | with_reducible exact hlt
      | with_reducible exact hk1
      | omega
      | trivial
      | rfl
      | (simp only [List.length_cons]; omega)
      | exact hend.symm
      | (simp (disch := omega) only [wrap_id]; first | exact m2 | exact m3 | exact hend.symm))
  · have : k = l.length := by omega
    subst this
    rw [List.take_of_length_le (Nat.le_refl _)]
end Go.Proofs.Ytlffmhhdgedddaa
