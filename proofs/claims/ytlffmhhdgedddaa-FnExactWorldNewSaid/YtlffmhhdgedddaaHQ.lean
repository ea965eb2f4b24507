/- Contracts of small functions: worlds measured, copied, compared. -/
import Derived.Test.YtlffmhhdgedddaaHNO
import Derived.Test.YtlffmhhdgedddaaVHQ
namespace Go.Proofs.Ytlffmhhdgedddaa
open Go Go.Proofs.Ytlffmhhdgedddaa.DL
set_option maxRecDepth 100000

abbrev rQs (l : List Waste) : SV := oneC (.rd (.sl 5 (wsts l)))
abbrev oQs (l : List Waste) : SV := oneC (.own (.sl 5 (wsts l)))
abbrev rPool (p : Pool) : SV := aS [.rd (.sl 1 (byts p.mem)), .rd (.sl 1 (ints p.st)), .rd (.sl 1 (ints p.own))]
abbrev oPool (p : Pool) : SV := aS [.own (.sl 1 (byts p.mem)), .own (.sl 1 (ints p.st)), .own (.sl 1 (ints p.own))]
abbrev rWorld (w : World') : SV := aS [iC w.c.chunks, iC w.c.size, iC w.c.slots, iC w.c.tax, iC w.c.slice, iC w.c.gens, .rd (.sl 1 (byts w.p.mem)), .rd (.sl 1 (ints w.p.st)), .rd (.sl 1 (ints w.p.own)), .rd (.sl 13 (nods w.l)), .rd (.sl 5 (wsts w.q)), .rd (.sl 1 (ints w.log))]
abbrev oWorld (w : World') : SV := aS [iC w.c.chunks, iC w.c.size, iC w.c.slots, iC w.c.tax, iC w.c.slice, iC w.c.gens, .own (.sl 1 (byts w.p.mem)), .own (.sl 1 (ints w.p.st)), .own (.sl 1 (ints w.p.own)), .own (.sl 13 (nods w.l)), .own (.sl 5 (wsts w.q)), .own (.sl 1 (ints w.log))]
/-- What is left of b when t is taken. -/
def lf (t b : Int) : Int := if t ≤ b then b - t else -1
theorem lf_neg {t b : Int} (h : decide (lf t b < 0) = true) {t' : Int} (ht : t ≤ t') : (-1 : Int) = lf t' b := by
  simp only [decide_eq_true_eq] at h
  unfold lf at h ⊢
  split at h
  · omega
  · rw [if_neg (by omega)]
theorem lf_pos {t b : Int} (h : decide (lf t b < 0) = false) : t ≤ b ∧ lf t b = b - t := by
  simp only [decide_eq_false_iff_not] at h
  unfold lf at h ⊢
  split at h
  · rename_i g; exact ⟨g, by rw [if_pos g]⟩
  · omega
theorem lf_add {t t' b : Int} : lf t' (b - t) = lf (t + t') b := by
  unfold lf
  split
  · rw [if_pos (by omega)]; omega
  · rw [if_neg (by omega)]
def szq : List Waste → Int
  | [] => 0
  | n :: l => n.sz + szq l
theorem szw_nonneg (n : Waste) : 0 ≤ n.sz := by unfold Waste.sz; omega
theorem szq_nonneg : ∀ l : List Waste, 0 ≤ szq l
  | [] => Int.le_refl _
  | n :: l => by have := szq_nonneg l; have := szw_nonneg n; simp only [szq]; omega
theorem szq_app : ∀ a b : List Waste, szq (a ++ b) = szq a + szq b
  | [], b => by simp [szq]
  | n :: a, b => by simp only [List.cons_append, szq, szq_app a b]; omega
theorem szq_succ {l : List Waste} {k : Nat} (h : k < l.length) : szq (l.take (k + 1)) = szq (l.take k) + l[k].sz := by
  rw [List.take_succ_eq_append_getElem h, szq_app]; simp [szq]
theorem szq_take (l : List Waste) (k : Nat) : szq (l.take k) ≤ szq l := by
  have := szq_app (l.take k) (l.drop k)
  rw [List.take_append_drop] at this
  have := szq_nonneg (l.drop k)
  omega
theorem szq_at {l : List Waste} {k : Nat} (h : k < l.length) : l[k].sz ≤ szq l := by
  have := szq_succ h; have := szq_take l (k + 1); have := szq_nonneg (l.take k); omega
def totQ (l : List Waste) : Int := l.length + szq l
def Wastes (l : List Waste) : Prop := l.length ≤ M63 ∧ ∀ n ∈ l, n.ok
theorem wastes_split {l : List Waste} {k : Nat} (h : k < l.length) : wsts l = wsts (l.take k) ++ (l[k].enc ++ wsts (l.drop (k + 1))) := by
  have e : l = l.take k ++ l[k] :: l.drop (k + 1) := by rw [List.getElem_cons_drop, List.take_append_drop]
  have e2 : wsts l = wsts (l.take k ++ l[k] :: l.drop (k + 1)) := by rw [← e]
  rw [e2]
  unfold wsts flat
  rw [List.flatMap_append, List.flatMap_cons]
theorem wastes_set {l : List Waste} {k : Nat} (h : k < l.length) (n : Waste) : wsts (l.set k n) = wsts (l.take k) ++ (n.enc ++ wsts (l.drop (k + 1))) := by
  rw [List.set_eq_take_append_cons_drop, if_pos h]
  unfold wsts flat
  rw [List.flatMap_append, List.flatMap_cons]
theorem wastes_pre {l : List Waste} {k : Nat} (h : k < l.length) : (wsts (l.take k)).length = k * 5 := by rw [wastes_length, List.length_take]; congr 1; omega
def zeroQ : Waste := ⟨0, 0, [], [], 0⟩
theorem zero_wastes (n : Nat) : (List.replicate n [iV 0, iV 0, DV.sl 1 [], DV.sl 1 [], iV 0]).flatten = wsts (List.replicate n zeroQ) := by
  simp only [wsts, flat, List.flatMap, List.map_replicate]
  rfl
theorem c_eqWasteS_self {l : List Waste} (h : totQ l ≤ 1048576) : CallD Try.prog F_laws_eqWasteS [rQs l, rQs l] fun r _ => r = bS true := by
  have h0 := szq_nonneg l
  unfold totQ at h
  refine k_laws_eqWasteS ?_
  unfold vc_laws_eqWasteS
  simp only [nI, n_wastes]
  refine ⟨fun g => absurd g (by simp), fun _ => ⟨fun i m => ∃ k : Nat, i = k ∧ k ≤ l.length ∧ m = l.length - k, ⟨l.length, 0, rfl, Nat.zero_le _, rfl⟩, ?_⟩⟩
  rintro i m ⟨k, rfl, hk, rfl⟩
  simp only [Int.toNat_natCast, decide_eq_true_eq (p := (k : Int) < l.length), decide_eq_false_iff_not (p := (k : Int) < l.length)]
  refine ⟨fun h1 => ?_, fun _ => trivial⟩
  have ha : k < l.length := by omega
  simp only [drop_wastes ha, hdD_cons, List.tail_cons, isI_iV, asI_iV, isL_sl, es_sl, wrap_id (n := (k : Int) + 1) (by omega) (by omega)]
  exact ⟨by omega, by omega, by simp, trivial, trivial, trivial, trivial, trivial, by omega, by omega, by simp, trivial, trivial, trivial, trivial, trivial,
    _, c_eqWaste (by have := szq_at ha; omega), fun _ => ⟨⟨trivial, trivial⟩, l.length - (k + 1), by omega, k + 1, by omega, by omega, rfl⟩, fun g => absurd g (by simp)⟩

def Pool.ok (p : Pool) : Prop := p.mem.length ≤ M63 ∧ Ints p.st ∧ Ints p.own
def totP (p : Pool) : Int := p.mem.length + p.st.length + p.own.length
def World'.ok (w : World') : Prop := w.c.ok ∧ w.p.ok ∧ Nodes w.l ∧ Wastes w.q ∧ Ints w.log
def totW (w : World') : Int := totP w.p + totN w.l + totQ w.q + w.log.length
theorem World'.tot_le {w : World'} (h : decide (lf (totW w) 1048576 < 0) = false) : totP w.p ≤ 1048576 ∧ totN w.l ≤ 1048576 ∧ totQ w.q ≤ 1048576 ∧ w.log.length ≤ 1048576 ∧ w.p.mem.length ≤ 1048576 ∧ w.p.st.length ≤ 1048576 ∧ w.p.own.length ≤ 1048576 := by
  obtain ⟨h1, -⟩ := lf_pos h
  have n2 := szs_nonneg w.l
  have n3 := szq_nonneg w.q
  unfold totW totP totN totQ at *
  omega
theorem c_eqPool_self {p : Pool} (h : totP p ≤ 1048576) : CallD Try.prog F_laws_eqPool [rPool p, rPool p] fun r _ => r = bS true := by
  unfold totP at h
  refine k_laws_eqPool ?_
  unfold vc_laws_eqPool
  exact ⟨_, c_eqByteS (by unfold M63; omega), fun _ => ⟨_, c_eqIntS (by unfold M63; omega), fun _ => ⟨_, c_eqIntS (by unfold M63; omega), fun _ => rfl, fun g => absurd g (by simp)⟩, fun g => absurd g (by simp)⟩, fun g => absurd g (by simp)⟩
theorem c_eqConf_self (c : Conf) : CallD Try.prog F_laws_eqConf [confS c, confS c] fun r _ => r = bS true := by
  refine k_laws_eqConf ?_
  unfold vc_laws_eqConf
  exact ⟨fun g => absurd g (by simp), fun _ => ⟨fun g => absurd g (by simp), fun _ => ⟨fun g => absurd g (by simp), fun _ => ⟨fun g => absurd g (by simp), fun _ => ⟨fun g => absurd g (by simp), fun _ => ⟨fun g => absurd g (by simp), fun _ => rfl⟩⟩⟩⟩⟩⟩
theorem c_eqWorld_self {w : World'} (h : decide (lf (totW w) 1048576 < 0) = false) : CallD Try.prog F_laws_eqWorld [rWorld w, rWorld w] fun r _ => r = bS true := by
  obtain ⟨h1, h2, h3, h4, -⟩ := World'.tot_le h
  refine k_laws_eqWorld ?_
  unfold vc_laws_eqWorld
  exact ⟨_, c_eqConf_self _, fun _ => ⟨_, c_eqPool_self h1, fun _ => ⟨_, c_eqNodeS_self h2, fun _ => ⟨_, c_eqWasteS_self h3, fun _ => ⟨_, c_eqIntS (by unfold M63; omega), fun _ => rfl, fun g => absurd g (by simp)⟩, fun g => absurd g (by simp)⟩, fun g => absurd g (by simp)⟩, fun g => absurd g (by simp)⟩, fun g => absurd g (by simp)⟩
theorem world_inv {ds : List DV} (h : WTs [.int .i64, .int .i64, .int .i64, .int .i64, .int .i64, .int .i64, .sl [.int .u8], .sl [.int .i64], .sl [.int .i64],
    .sl [.int .i64, .int .i64, .int .i64, .int .i64, .int .i64, .int .i64, .int .i64, .int .i64, .sl [.int .i64], .int .i64, .int .i64, .sl [.int .i64, .int .i64, .int .i64], .sl [.int .i64]], .sl [.int .i64, .int .i64, .sl [.int .i64], .sl [.int .i64], .int .i64], .sl [.int .i64]] ds) :
    ∃ w : World', ds = [iV w.c.chunks, iV w.c.size, iV w.c.slots, iV w.c.tax, iV w.c.slice, iV w.c.gens, .sl 1 (byts w.p.mem), .sl 1 (ints w.p.st), .sl 1 (ints w.p.own), .sl 13 (nods w.l), .sl 5 (wsts w.q), .sl 1 (ints w.log)] ∧ w.ok := by
  obtain ⟨d1, r, rfl, h1, h⟩ := cons_inv h
  obtain ⟨d2, r, rfl, h2, h⟩ := cons_inv h
  obtain ⟨d3, r, rfl, h3, h⟩ := cons_inv h
  obtain ⟨d4, r, rfl, h4, h⟩ := cons_inv h
  obtain ⟨d5, r, rfl, h5, h⟩ := cons_inv h
  obtain ⟨d6, r, rfl, h6, h⟩ := cons_inv h
  obtain ⟨d7, r, rfl, h7, h⟩ := cons_inv h
  obtain ⟨d8, r, rfl, h8, h⟩ := cons_inv h
  obtain ⟨d9, r, rfl, h9, h⟩ := cons_inv h
  obtain ⟨d10, r, rfl, h10, h⟩ := cons_inv h
  obtain ⟨d11, r, rfl, h11, h⟩ := cons_inv h
  obtain ⟨d12, r, rfl, h12, h⟩ := cons_inv h
  rw [nil_inv h]
  obtain ⟨a1, rfl, k1⟩ := int_inv h1
  obtain ⟨a2, rfl, k2⟩ := int_inv h2
  obtain ⟨a3, rfl, k3⟩ := int_inv h3
  obtain ⟨a4, rfl, k4⟩ := int_inv h4
  obtain ⟨a5, rfl, k5⟩ := int_inv h5
  obtain ⟨a6, rfl, k6⟩ := int_inv h6
  obtain ⟨a7, rfl, k7, -⟩ := byts_inv h7
  obtain ⟨a8, rfl, k8⟩ := ints_inv h8
  obtain ⟨a9, rfl, k9⟩ := ints_inv h9
  obtain ⟨a10, rfl, k10⟩ := nodes_inv h10
  obtain ⟨a11, rfl, k11⟩ := wastes_inv h11
  obtain ⟨a12, rfl, k12⟩ := ints_inv h12
  exact ⟨⟨⟨a1, a2, a3, a4, a5, a6⟩, ⟨a7, a8, a9⟩, a10, a11, a12⟩, rfl, ⟨k1, k2, k3, k4, k5, k6⟩, ⟨k7, k8, k9⟩, k10, k11, k12⟩
end Go.Proofs.Ytlffmhhdgedddaa
