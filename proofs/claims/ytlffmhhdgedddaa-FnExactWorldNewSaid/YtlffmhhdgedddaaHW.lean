/- Contracts of small functions: worlds marked. -/
import Derived.Test.YtlffmhhdgedddaaHQ
import Derived.Test.YtlffmhhdgedddaaVHW
namespace Go.Proofs.Ytlffmhhdgedddaa
open Go Go.Proofs.Ytlffmhhdgedddaa.DL
set_option maxRecDepth 100000

/-- Remains with marks, from b on; the mark behind them. -/
def Waste.markS (x : Waste) (b : Int) : Waste := ⟨b, b + 1, marks (b + 1 + 1) x.tags.length, marks (b + 1 + 1 + x.tags.length) x.chunks.length, b + 1 + 1 + x.tags.length + x.chunks.length⟩
def Waste.mend (x : Waste) (b : Int) : Int := b + 1 + 1 + x.tags.length + x.chunks.length + 1
def markQs : Int → List Waste → List Waste
  | _, [] => []
  | b, n :: l => n.markS b :: markQs (n.mend b) l
def endQs : Int → List Waste → Int
  | b, [] => b
  | b, n :: l => endQs (n.mend b) l
theorem markQs_app : ∀ (l r : List Waste) (b : Int), markQs b (l ++ r) = markQs b l ++ markQs (endQs b l) r
  | [], r, b => rfl
  | n :: l, r, b => by simp only [List.cons_append, markQs, endQs, markQs_app l r]
theorem endQs_app : ∀ (l r : List Waste) (b : Int), endQs b (l ++ r) = endQs (endQs b l) r
  | [], r, b => rfl
  | n :: l, r, b => by simp only [List.cons_append, endQs, endQs_app l r]
theorem markQs_length : ∀ (l : List Waste) (b : Int), (markQs b l).length = l.length
  | [], b => rfl
  | n :: l, b => by simp only [markQs, List.length_cons, markQs_length l]
theorem endQs_le : ∀ (l : List Waste) (b : Int), b ≤ endQs b l ∧ endQs b l ≤ b + 3 * l.length + szq l
  | [], b => by simp [endQs, szq]
  | n :: l, b => by
    obtain ⟨h1, h2⟩ := endQs_le l (n.mend b)
    have e : n.mend b = b + 3 + n.tags.length + n.chunks.length := by unfold Waste.mend; omega
    simp only [endQs, szq, Waste.sz, List.length_cons]
    omega
theorem c_markWasteS {l : List Waste} (h : totQ l ≤ 1048576) {b : Int} (h0 : 0 ≤ b) (hb : b ≤ 1073741824) : CallD Try.prog F_laws_markWasteS [oQs l, iS b] fun r bs => r = iS (endQs b l) ∧ bs.getD 0 .dead = oQs (markQs b l) := by
  have hz := szq_nonneg l
  unfold totQ at h
  refine k_laws_markWasteS ?_
  unfold vc_laws_markWasteS
  refine ⟨fun es n n1 m => ∃ k : Nat, n1 = k ∧ k ≤ l.length ∧ m = l.length - k ∧ n = endQs b (l.take k) ∧ es = wsts (markQs b (l.take k) ++ l.drop k), ⟨_, 0, rfl, Nat.zero_le _, rfl, rfl, rfl⟩, ?_⟩
  rintro es n n1 m ⟨k, rfl, hk, rfl, rfl, rfl⟩
  have e0 : (markQs b (l.take k) ++ l.drop k).length = l.length := by simp [markQs_length]; omega
  have hM := markQs_length (l.take k) b
  rw [List.length_take] at hM
  refine ⟨fun g => ?_, fun g => ?_⟩
  · have ha : k < l.length := by
      simp only [nI, n_wastes, e0, decide_eq_true_eq] at g; omega
    have htk : l.take (k + 1) = l.take k ++ [l[k]] := List.take_succ_eq_append_getElem ha
    have hle := endQs_le (l.take k) b
    have hz2 := szq_take l k
    have hs := szq_at ha
    rw [List.length_take] at hle
    have hle2 : b ≤ endQs b (l.take k) ∧ endQs b (l.take k) ≤ 1100000000 := by
      have : min k l.length = k := by omega
      rw [this] at hle
      omega
    have sp : wsts (markQs b (l.take k) ++ l.drop k) = wsts (markQs b (l.take k)) ++ (l[k].enc ++ wsts (l.drop (k + 1))) := by
      rw [List.drop_eq_getElem_cons ha]
      unfold wsts flat
      rw [List.flatMap_append, List.flatMap_cons]
    have hp : (wsts (markQs b (l.take k))).length = k * 5 := by rw [wastes_length, hM]; congr 1; omega
    have hq : (wsts (l.drop (k + 1))).length = (l.length - (k + 1)) * 5 := by rw [wastes_length, List.length_drop]
    have hend : endQs b (l.take (k + 1)) = l[k].mend (endQs b (l.take k)) := by rw [htk, endQs_app]; rfl
    have hes : wsts (markQs b (l.take (k + 1)) ++ l.drop (k + 1)) = wsts (markQs b (l.take k)) ++ ((l[k].markS (endQs b (l.take k))).enc ++ wsts (l.drop (k + 1))) := by
      rw [htk, markQs_app, List.append_assoc]
      unfold wsts flat
      rw [List.flatMap_append]
      rfl
    rw [sp]
    clear sp g e0 hM htk hz2 hle
    generalize wsts (markQs b (l.take k)) = p at *
    generalize wsts (l.drop (k + 1)) = q at *
    generalize endQs b (l.take k) = n at *
    unfold Waste.sz at hs
    simp only [Int.toNat_natCast, Nat.add_zero, Waste.enc, List.cons_append, List.nil_append, set_at hp, set_at0 hp, getD_at hp, List.set_cons_zero, List.set_cons_succ, List.getD_cons_zero, List.getD_cons_succ, getP_one, InP_one, placeOk_one, setP_nil, toDV_own, isL_sl, es_sl,
      nI, DV.n_eq, List.length_append, List.length_cons, hp, hq]
    simp (disch := omega) only [wrap_id]
    have hlt : l.length - (k + 1) < l.length - k := by omega
    have hk1 : ((k : Int) + 1) = ((k + 1 : Nat) : Int) := by omega
    have m1 := c_markI (l := l[k].tags) (b := n + 1 + 1) (by omega) (by omega) (by unfold M40; omega)
    have m2 := c_markI (l := l[k].chunks) (b := n + 1 + 1 + l[k].tags.length) (by omega) (by omega) (by unfold M40; omega)
    repeat' (first
      | omega
      | trivial
      | (refine ⟨?_, trivial⟩; omega)
      | rfl
      | exact m1 | exact m2 | exact hlt | exact hk1 | exact hend.symm | exact hes.symm
      | (simp (disch := omega) only [wrap_id]; first | exact m2 | exact hend.symm | exact hes.symm)
      | apply And.intro
      | apply Exists.intro)
  · have : k = l.length := by
      simp only [nI, n_wastes, e0, decide_eq_false_iff_not] at g; omega
    subst this
    simp
def Pool.marked (p : Pool) (b : Int) : Pool := ⟨marksB b p.mem.length, marks (b + p.mem.length) p.st.length, marks (b + p.mem.length + p.st.length) p.own.length⟩
theorem c_markPool {p : Pool} (h : totP p ≤ 1048576) {b : Int} (h0 : 0 ≤ b) (hb : b ≤ 1073741824) : CallD Try.prog F_laws_markPool [oPool p, iS b] fun r bs => r = iS (b + totP p) ∧ bs.getD 0 .dead = oPool (p.marked b) := by
  unfold totP at h
  refine k_laws_markPool ?_
  unfold vc_laws_markPool
  refine ⟨trivial, rfl, _, _, rfl, c_markBk (by omega) h0 (by omega), trivial, rfl, _, _, rfl, c_markI (by omega) (by omega) (by unfold M40; omega), trivial, rfl, _, _, rfl, c_markI (by omega) (by omega) (by unfold M40; omega), ?_, rfl⟩
  refine iS_eq ?_
  unfold totP; omega
def World'.mendW (w : World') (b : Int) : Int := endQs (endNs (b + totP w.p) w.l) w.q + w.log.length
def World'.marked (w : World') (b : Int) : World' := ⟨w.c, w.p.marked b, markNs (b + totP w.p) w.l, markQs (endNs (b + totP w.p) w.l) w.q, marks (endQs (endNs (b + totP w.p) w.l) w.q) w.log.length⟩
theorem c_markWorld {w : World'} (h1 : totP w.p ≤ 1048576) (h2 : totN w.l ≤ 1048576) (h3 : totQ w.q ≤ 1048576) (h4 : w.log.length ≤ 1048576) {b : Int} (h0 : 0 ≤ b) (hb : b ≤ 1048576) :
    CallD Try.prog F_laws_markWorld [oWorld w, iS b] fun r bs => r = iS (w.mendW b) ∧ bs.getD 0 .dead = oWorld (w.marked b) := by
  have hz := szs_nonneg w.l
  have hz' := szq_nonneg w.q
  have hp : 0 ≤ totP w.p := by unfold totP; omega
  have e1 := endNs_le w.l (b + totP w.p)
  have e2 := endQs_le w.q (endNs (b + totP w.p) w.l)
  have h2' := h2
  have h3' := h3
  unfold totN at h2'
  unfold totQ at h3'
  refine k_laws_markWorld ?_
  unfold vc_laws_markWorld
  exact ⟨_, _, _, _, rfl, c_markPool h1 h0 (by omega), trivial, rfl, _, _, rfl, c_markNodeS h2 (by omega) (by omega), trivial, rfl, _, _, rfl, c_markWasteS h3 (by omega) (by omega), trivial, rfl, _, _, rfl, c_markI h4 (by omega) (by unfold M40; omega), rfl, rfl⟩
theorem mendW_le {w : World'} {b : Int} (h0 : 0 ≤ b) : 0 ≤ w.mendW b := by
  have hp : 0 ≤ totP w.p := by unfold totP; omega
  have e1 := endNs_le w.l (b + totP w.p)
  have e2 := endQs_le w.q (endNs (b + totP w.p) w.l)
  unfold World'.mendW
  omega
end Go.Proofs.Ytlffmhhdgedddaa
