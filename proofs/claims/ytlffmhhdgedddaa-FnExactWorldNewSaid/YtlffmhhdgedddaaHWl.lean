/- Contracts of small functions: worlds copied, chunks let go, marks of worlds found again. -/
import Derived.Test.YtlffmhhdgedddaaHW
import Derived.Test.YtlffmhhdgedddaaHP
import Derived.Test.YtlffmhhdgedddaaVHQ
import Derived.Test.YtlffmhhdgedddaaVHWl
namespace Go.Proofs.Ytlffmhhdgedddaa
open Go Go.Proofs.Ytlffmhhdgedddaa.DL
set_option maxRecDepth 100000

abbrev bWorld (w : World') : SV := .box [iC w.c.chunks, iC w.c.size, iC w.c.slots, iC w.c.tax, iC w.c.slice, iC w.c.gens, .own (.sl 1 (byts w.p.mem)), .own (.sl 1 (ints w.p.st)), .own (.sl 1 (ints w.p.own)), .own (.sl 13 (nods w.l)), .own (.sl 5 (wsts w.q)), .own (.sl 1 (ints w.log))]
theorem plc9 {w : World'} {x : Nat} (h : x < (nods w.l).length) : placeOk (bWorld w) [0 + 9, x] := ⟨(by decide : 9 < 12), h, trivial⟩
theorem plc9' {w : World'} {x y : Nat} {bs : List DV} (h : x < (nods w.l).length) (e : (nods w.l).getD x dfl = .sl 1 bs) (hy : y < bs.length) : placeOk (bWorld w) [0 + 9, x, y] :=
  ⟨(by decide : 9 < 12), h, (by show y < ((nods w.l).getD x dfl).es.length; rw [e]; exact hy), trivial⟩
theorem getP_two (sz : Nat) (es : List DV) (j i : Nat) : (DV.sl sz es).getP [j, i] = (es.getD j dfl).es.getD i dfl := rfl

theorem wsts_snoc (l : List Waste) (x : Waste) : wsts l ++ [iV x.slot, iV x.first, .sl 1 (ints x.tags), .sl 1 (ints x.chunks), iV x.done] = wsts (l ++ [x]) := flat_one Waste.enc l x
theorem n_one5 (a b c d e : DV) : (DV.sl 5 [a, b, c, d, e]).n = 1 := by rw [DV.n_eq]; simp
/-- A chunk is let go. -/
def letB (p : Pool) (k : Int) : Bool := decide (0 ≤ k) && (decide (k < p.st.length) && (decide (k < p.own.length) && decide (p.st.getD k.toNat 0 = 1)))
def letP (p : Pool) (k : Int) : Pool := if letB p k then ⟨p.mem, p.st.set k.toNat 2, p.own.set k.toNat (-1)⟩ else p
theorem letP_tot (p : Pool) (k : Int) : totP (letP p k) = totP p := by
  unfold letP
  split
  · simp [totP]
  · rfl
def letAll (p : Pool) (l : List Int) : Pool := l.foldl letP p
theorem letAll_tot (l : List Int) : ∀ p : Pool, totP (letAll p l) = totP p := by
  induction l with
  | nil => intro p; rfl
  | cons a l ih => intro p; exact (ih (letP p a)).trans (letP_tot p a)
theorem letAll_snoc (p : Pool) (l : List Int) (k : Int) : letAll p (l ++ [k]) = letP (letAll p l) k := by simp [letAll]
theorem let_yes {p : Pool} {k : Int} (h1 : 0 ≤ k) (h2 : k < p.st.length) (h3 : k < p.own.length) (h4 : p.st.getD k.toNat 0 = 1) : letP p k = ⟨p.mem, p.st.set k.toNat 2, p.own.set k.toNat (-1)⟩ := by
  have : letB p k = true := by simp only [letB, h1, h2, h3, h4, decide_true, Bool.and_true]
  rw [letP, if_pos this]
theorem let_no {p : Pool} {k : Int} (h : ¬ (0 ≤ k ∧ k < p.st.length ∧ k < p.own.length ∧ p.st.getD k.toNat 0 = 1)) : letP p k = p := by
  have : ¬ letB p k = true := by simpa only [letB, Bool.and_eq_true, decide_eq_true_eq] using h
  rw [letP, if_neg this]
theorem oPool_eq {p q : Pool} (h : p = q) : oPool p = oPool q := by rw [h]
theorem within_not {a b c : Int} : within a b c = false ↔ ¬ (b ≤ a ∧ a ≤ c) := by rw [← within_iff]; simp
theorem nchunks {l : List Node} {k : Nat} (h : k < l.length) : (nods l).getD (k * 13 + 8) dfl = .sl 1 (ints l[k].chunks) := flat_getD Node.enc_len l k 8 h (by omega)
theorem markQs_get : ∀ (l : List Waste) (b : Int) (k : Nat) (h : k < l.length), (markQs b l)[k]'(by rw [markQs_length]; exact h) = l[k].markS (endQs b (l.take k))
  | [], b, k, h => by simp at h
  | n :: l, b, 0, h => rfl
  | n :: l, b, k + 1, h => by
    simp only [markQs, List.getElem_cons_succ, List.take_succ_cons, endQs]
    exact markQs_get l _ k (by simpa using h)
theorem c_heldWasteS {l : List Waste} (h : totQ l ≤ 1048576) {b : Int} (h0 : 0 ≤ b) (hb : b ≤ 1073741824) : CallD Try.prog F_laws_heldWasteS [rQs (markQs b l), iS b] fun r _ => r = iS (endQs b l) := by
  have hz := szq_nonneg l
  unfold totQ at h
  refine k_laws_heldWasteS ?_
  unfold vc_laws_heldWasteS
  simp only [nI, n_wastes, markQs_length]
  refine ⟨fun n n1 m => ∃ k : Nat, n1 = k ∧ k ≤ l.length ∧ m = l.length - k ∧ n = endQs b (l.take k), ⟨_, 0, rfl, Nat.zero_le _, rfl, rfl⟩, ?_⟩
  rintro n n1 m ⟨k, rfl, hk, rfl, rfl⟩
  simp only [Int.toNat_natCast, decide_eq_true_eq (p := (k : Int) < l.length), decide_eq_false_iff_not (p := (k : Int) < l.length)]
  refine ⟨fun g => ?_, fun g => iS_eq ?_⟩
  · have ha : k < l.length := by omega
    have ha' : k < (markQs b l).length := by rw [markQs_length]; exact ha
    have htk : l.take (k + 1) = l.take k ++ [l[k]] := List.take_succ_eq_append_getElem ha
    have hle := endQs_le (l.take k) b
    have hz2 := szq_take l k
    have hs := szq_at ha
    rw [List.length_take] at hle
    have hle2 : b ≤ endQs b (l.take k) ∧ endQs b (l.take k) ≤ 1100000000 := by
      have : min k l.length = k := by omega
      rw [this] at hle
      omega
    have hend : endQs b (l.take (k + 1)) = l[k].mend (endQs b (l.take k)) := by rw [htk, endQs_app]; rfl
    have hg := markQs_get l b k ha
    simp only [drop_wastes ha', List.drop_zero, List.drop_succ_cons, hdD_cons, isI_iV, asI_iV, isL_sl, es_sl, hg]
    clear hg htk hz2 hle
    generalize endQs b (l.take k) = n at *
    unfold Waste.sz at hs
    simp only [Waste.markS]
    simp (disch := omega) only [wrap_id]
    have hlt : l.length - (k + 1) < l.length - k := by omega
    have hk1 : ((k : Int) + 1) = ((k + 1 : Nat) : Int) := by omega
    have m1 := c_heldI (n := l[k].tags.length) (b := n + 1 + 1) (by omega) (by omega) (by unfold M40; omega)
    have m2 := c_heldI (n := l[k].chunks.length) (b := n + 1 + 1 + l[k].tags.length) (by omega) (by omega) (by unfold M40; omega)
    repeat' (first
      | with_reducible apply And.intro
      | with_reducible apply Exists.intro
      | (intro g; exfalso; revert g; simp; done)
      | (intro g; exfalso; simp only [decide_eq_true_eq] at g; omega)
      | intro _
      | with_reducible exact m1
      | with_reducible exact m2
      | with_reducible exact hlt
      | with_reducible exact hk1
      | omega
      | trivial
      | rfl
      | (simp only [List.length_cons]; omega)
      | exact hend.symm
      | (simp (disch := omega) only [wrap_id]; first | exact m2 | exact hend.symm))
  · have : k = l.length := by omega
    subst this
    rw [List.take_of_length_le (Nat.le_refl _)]
theorem c_heldPool {p : Pool} (h : totP p ≤ 1048576) : CallD Try.prog F_laws_heldPool [rPool (p.marked 1), iS 1] fun r _ => r = iS (1 + totP p) := by
  unfold totP at h
  refine k_laws_heldPool ?_
  unfold vc_laws_heldPool Pool.marked totP
  refine ⟨_, c_heldB (by omega), fun g => ?_, fun _ => ⟨_, c_heldI (by omega) (by omega) (by unfold M40; omega), fun g => ?_, fun _ => ⟨_, c_heldI (by omega) (by omega) (by unfold M40; omega), fun g => ?_, fun _ => iS_eq ?_⟩⟩⟩
  all_goals try (exfalso; simp only [decide_eq_true_eq] at g; omega)
  omega
theorem c_heldWorld {w : World'} (h1 : totP w.p ≤ 1048576) (h2 : totN w.l ≤ 1048576) (h3 : totQ w.q ≤ 1048576) (h4 : w.log.length ≤ 1048576) : CallD Try.prog F_laws_heldWorld [rWorld (w.marked 1), iS 1] fun r _ => r = iS (w.mendW 1) := by
  have hz := szs_nonneg w.l
  have hz' := szq_nonneg w.q
  have hp : 0 ≤ totP w.p := by unfold totP; omega
  have e1 := endNs_le w.l (1 + totP w.p)
  have e2 := endQs_le w.q (endNs (1 + totP w.p) w.l)
  have h2' := h2
  have h3' := h3
  unfold totN at h2'
  unfold totQ at h3'
  refine k_laws_heldWorld ?_
  unfold vc_laws_heldWorld World'.marked World'.mendW
  refine ⟨_, c_heldPool h1, fun g => ?_, fun _ => ⟨_, c_heldNodeS h2 (by omega) (by omega), fun g => ?_, fun _ => ⟨_, c_heldWasteS h3 (by omega) (by omega), fun g => ?_, fun _ => ⟨_, c_heldI h4 (by omega) (by unfold M40; omega), fun g => ?_, fun _ => rfl⟩⟩⟩⟩
  all_goals (exfalso; simp only [decide_eq_true_eq] at g; omega)
theorem c_eqWorld_comp {w : World'} (h1 : totP w.p ≤ 1048576) (h2 : totN w.l ≤ 1048576) (h3 : totQ w.q ≤ 1048576) (h4 : w.log.length ≤ 1048576) : CallD Try.prog F_laws_eqWorld [rWorld w, rWorld w] fun r _ => r = bS true := by
  refine k_laws_eqWorld ?_
  unfold vc_laws_eqWorld
  exact ⟨_, c_eqConf_self _, fun _ => ⟨_, c_eqPool_self h1, fun _ => ⟨_, c_eqNodeS_self h2, fun _ => ⟨_, c_eqWasteS_self h3, fun _ => ⟨_, c_eqIntS (by unfold M63; omega), fun _ => rfl, fun g => absurd g (by simp)⟩, fun g => absurd g (by simp)⟩, fun g => absurd g (by simp)⟩, fun g => absurd g (by simp)⟩, fun g => absurd g (by simp)⟩
end Go.Proofs.Ytlffmhhdgedddaa
