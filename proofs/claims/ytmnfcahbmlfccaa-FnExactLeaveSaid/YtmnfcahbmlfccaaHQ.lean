/- Contracts of small functions: worlds measured, copied, compared. -/
import Derived.Test.YtmnfcahbmlfccaaHNO
import Derived.Test.YtmnfcahbmlfccaaVHAH
import Derived.Test.YtmnfcahbmlfccaaVHQ
namespace Go.Proofs.Ytmnfcahbmlfccaa
open Go Go.Proofs.Ytmnfcahbmlfccaa.DL
set_option maxRecDepth 100000

abbrev rQs (l : List Waste) : SV := oneC (.rd (.sl 5 (wsts l)))
abbrev oQs (l : List Waste) : SV := oneC (.own (.sl 5 (wsts l)))
abbrev rPool (p : Pool) : SV := aS [.rd (.sl 1 (byts p.mem)), .rd (.sl 1 (ints p.st)), .rd (.sl 1 (ints p.own))]
abbrev oPool (p : Pool) : SV := aS [.own (.sl 1 (byts p.mem)), .own (.sl 1 (ints p.st)), .own (.sl 1 (ints p.own))]
abbrev rWorld (w : World') : SV := aS [iC w.c.chunks, iC w.c.size, iC w.c.slots, iC w.c.tax, iC w.c.slice, iC w.c.gens, .rd (.sl 1 (byts w.p.mem)), .rd (.sl 1 (ints w.p.st)), .rd (.sl 1 (ints w.p.own)), .rd (.sl 13 (nods w.l)), .rd (.sl 5 (wsts w.q)), .rd (.sl 1 (ints w.log))]
abbrev oWorld (w : World') : SV := aS [iC w.c.chunks, iC w.c.size, iC w.c.slots, iC w.c.tax, iC w.c.slice, iC w.c.gens, .own (.sl 1 (byts w.p.mem)), .own (.sl 1 (ints w.p.st)), .own (.sl 1 (ints w.p.own)), .own (.sl 13 (nods w.l)), .own (.sl 5 (wsts w.q)), .own (.sl 1 (ints w.log))]
/-- What is left of b when t is taken. -/
def lf (t b : Int) : Int := if t ≤ b then b - t else -1
theorem lf_neg {t b : Int} (h : decide (lf t b < 0) = true) {t' : Int} (ht : t ≤ t') : (-1 : Int) = lf t' b := by
  simp only [decide_eq_true_eq] at h
  unfold lf at h ⊢
  split at h
  · omega
  · rw [if_neg (by omega)]
theorem lf_pos {t b : Int} (h : decide (lf t b < 0) = false) : t ≤ b ∧ lf t b = b - t := by
  simp only [decide_eq_false_iff_not] at h
  unfold lf at h ⊢
  split at h
  · rename_i g; exact ⟨g, by rw [if_pos g]⟩
  · omega
theorem lf_add {t t' b : Int} : lf t' (b - t) = lf (t + t') b := by
  unfold lf
  split
  · rw [if_pos (by omega)]; omega
  · rw [if_neg (by omega)]
theorem c_szInts {l : List Int} (hl : l.length ≤ M63) {b : Int} (h0 : 0 ≤ b) (hb : b ≤ 1048576) : CallD Try.prog F_laws_szIntS [rI l, iS b] fun r _ => r = iS (lf l.length b) := c_szIntS hl h0 hb
theorem c_szByts {l : List Int} (hl : l.length ≤ M63) {b : Int} (h0 : 0 ≤ b) (hb : b ≤ 1048576) : CallD Try.prog F_laws_szByteS [rB l, iS b] fun r _ => r = iS (lf l.length b) := by
  refine k_laws_szByteS ?_
  unfold vc_laws_szByteS lf
  unfold M63 at hl
  simp only [nI, n_byts, wrap_id (n := b - l.length) (by omega) (by omega), decide_eq_true_eq, decide_eq_false_iff_not]
  refine ⟨fun h1 => iS_eq ?_, fun h1 => iS_eq ?_⟩
  · rw [if_neg (by omega)]
  · rw [if_pos (by omega)]
theorem c_szNodes {l : List Node} (hl : Nodes l) {b : Int} (h0 : 0 ≤ b) (hb : b ≤ 1048576) : CallD Try.prog F_laws_szNodeS [rNs l, iS b] fun r _ => r = iS (lf (totN l) b) := c_szNodeSG hl h0 hb
theorem c_szWasteG {x : Waste} (hx : x.ok) {b : Int} (h0 : 0 ≤ b) (hb : b ≤ 1048576) : CallD Try.prog F_laws_szWaste [rWaste x, iS b] fun r _ => r = iS (lf x.sz b) := by
  obtain ⟨-, -, ⟨h1, -⟩, ⟨h2, -⟩, -⟩ := hx
  refine k_laws_szWaste ?_
  unfold vc_laws_szWaste Waste.sz
  refine ⟨_, c_szInts h1 h0 hb, fun g => iS_eq (lf_neg g (by omega)), fun g => ?_⟩
  obtain ⟨k1, k2⟩ := lf_pos g
  rw [k2]
  refine ⟨_, c_szInts h2 (by omega) (by omega), fun g2 => iS_eq ?_, fun g2 => iS_eq lf_add⟩
  rw [← lf_add]
  exact lf_neg g2 (Int.le_refl _)
def szq : List Waste → Int
  | [] => 0
  | n :: l => n.sz + szq l
theorem szw_nonneg (n : Waste) : 0 ≤ n.sz := by unfold Waste.sz; omega
theorem szq_nonneg : ∀ l : List Waste, 0 ≤ szq l
  | [] => Int.le_refl _
  | n :: l => by have := szq_nonneg l; have := szw_nonneg n; simp only [szq]; omega
theorem szq_app : ∀ a b : List Waste, szq (a ++ b) = szq a + szq b
  | [], b => by simp [szq]
  | n :: a, b => by simp only [List.cons_append, szq, szq_app a b]; omega
theorem szq_succ {l : List Waste} {k : Nat} (h : k < l.length) : szq (l.take (k + 1)) = szq (l.take k) + l[k].sz := by
  rw [List.take_succ_eq_append_getElem h, szq_app]; simp [szq]
theorem szq_take (l : List Waste) (k : Nat) : szq (l.take k) ≤ szq l := by
  have := szq_app (l.take k) (l.drop k)
  rw [List.take_append_drop] at this
  have := szq_nonneg (l.drop k)
  omega
theorem szq_at {l : List Waste} {k : Nat} (h : k < l.length) : l[k].sz ≤ szq l := by
  have := szq_succ h; have := szq_take l (k + 1); have := szq_nonneg (l.take k); omega
def totQ (l : List Waste) : Int := l.length + szq l
def Wastes (l : List Waste) : Prop := l.length ≤ M63 ∧ ∀ n ∈ l, n.ok
theorem c_szWastes {l : List Waste} (hl : Wastes l) {b : Int} (hb : 0 ≤ b) (hb' : b ≤ 1048576) : CallD Try.prog F_laws_szWasteS [rQs l, iS b] fun r _ => r = iS (lf (totQ l) b) := by
  obtain ⟨h1, h2⟩ := hl
  unfold M63 at h1
  have h0 := szq_nonneg l
  refine k_laws_szWasteS ?_
  unfold vc_laws_szWasteS totQ
  simp only [nI, n_wastes]
  rw [wrap_id (n := b - (l.length : Int)) (by omega) (by omega)]
  refine ⟨fun g => iS_eq ?_, fun g => ?_⟩
  · have g : b - (l.length : Int) < 0 := by simpa using g
    unfold lf; rw [if_neg (by omega)]
  · have g : ¬ b - (l.length : Int) < 0 := by simpa using g
    refine ⟨fun n i m => ∃ k : Nat, i = k ∧ k ≤ l.length ∧ m = l.length - k ∧ n = b - l.length - szq (l.take k) ∧ 0 ≤ n, ⟨_, 0, rfl, Nat.zero_le _, rfl, by simp [szq], by omega⟩, ?_⟩
    rintro n i m ⟨k, rfl, hk, rfl, rfl, hn⟩
    simp only [Int.toNat_natCast, decide_eq_true_eq (p := (k : Int) < l.length), decide_eq_false_iff_not (p := (k : Int) < l.length)]
    refine ⟨fun k1 => ?_, fun k1 => iS_eq ?_⟩
    · have ha : k < l.length := by omega
      have hs := szq_succ ha
      have ht := szq_take l (k + 1)
      have hp := szq_nonneg (l.take k)
      simp only [drop_wastes ha, hdD_cons, List.tail_cons, isI_iV, asI_iV, isL_sl, es_sl, wrap_id (n := (k : Int) + 1) (by omega) (by omega)]
      refine ⟨by omega, by omega, by simp, trivial, trivial, trivial, trivial, trivial, _, c_szWasteG (h2 _ (List.getElem_mem ha)) hn (by omega), fun k2 => iS_eq ?_, fun k2 => ⟨trivial, l.length - (k + 1), by omega, k + 1, by omega, by omega, rfl, ?_, ?_⟩⟩
      · simp only [decide_eq_true_eq] at k2
        unfold lf at k2 ⊢
        split at k2
        · omega
        · rw [if_neg (by omega)]
      · obtain ⟨q1, q2⟩ := lf_pos k2
        rw [q2, hs]; omega
      · simpa using k2
    · have : k = l.length := by omega
      subst this
      rw [List.take_of_length_le (Nat.le_refl _)] at *
      unfold lf
      rw [if_pos (by omega)]; omega
theorem wastes_split {l : List Waste} {k : Nat} (h : k < l.length) : wsts l = wsts (l.take k) ++ (l[k].enc ++ wsts (l.drop (k + 1))) := by
  have e : l = l.take k ++ l[k] :: l.drop (k + 1) := by rw [List.getElem_cons_drop, List.take_append_drop]
  have e2 : wsts l = wsts (l.take k ++ l[k] :: l.drop (k + 1)) := by rw [← e]
  rw [e2]
  unfold wsts flat
  rw [List.flatMap_append, List.flatMap_cons]
theorem wastes_set {l : List Waste} {k : Nat} (h : k < l.length) (n : Waste) : wsts (l.set k n) = wsts (l.take k) ++ (n.enc ++ wsts (l.drop (k + 1))) := by
  rw [List.set_eq_take_append_cons_drop, if_pos h]
  unfold wsts flat
  rw [List.flatMap_append, List.flatMap_cons]
theorem wastes_pre {l : List Waste} {k : Nat} (h : k < l.length) : (wsts (l.take k)).length = k * 5 := by rw [wastes_length, List.length_take]; congr 1; omega
def zeroQ : Waste := ⟨0, 0, [], [], 0⟩
theorem zero_wastes (n : Nat) : (List.replicate n [iV 0, iV 0, DV.sl 1 [], DV.sl 1 [], iV 0]).flatten = wsts (List.replicate n zeroQ) := by
  simp only [wsts, flat, List.flatMap, List.map_replicate]
  rfl
theorem c_toWasteS {l : List Waste} (h : totQ l ≤ 1048576) : CallD Try.prog F_laws_toWasteS [rQs l] fun r _ => r = oQs l := by
  have h0 := szq_nonneg l
  unfold totQ at h
  refine k_laws_toWasteS ?_
  unfold vc_laws_toWasteS
  simp only [nI, n_wastes, es_sl, Int.toNat_natCast, zero_wastes]
  refine ⟨trivial, by omega, by omega, by omega, by omega, fun es i m => ∃ k : Nat, i = k ∧ k ≤ l.length ∧ m = l.length - k ∧ es = wsts (l.take k ++ List.replicate (l.length - k) zeroQ), ⟨l.length, 0, rfl, Nat.zero_le _, rfl, by simp⟩, ?_⟩
  rintro es i m ⟨k, rfl, hk, rfl, rfl⟩
  have hlen : (l.take k ++ List.replicate (l.length - k) zeroQ).length = l.length := by simp; omega
  simp only [Int.toNat_natCast, decide_eq_true_eq, decide_eq_false_iff_not, n_wastes, wastes_length, hlen]
  refine ⟨fun h1 => ?_, fun h1 => ?_⟩
  · have hk' : k < l.length := by omega
    simp only [drop_wastes hk', hdD_cons, List.tail_cons, isI_iV, asI_iV, isL_sl, es_sl, wrap_id (n := (k : Int) + 1) (by omega) (by omega)]
    refine ⟨by omega, by omega, by simp, trivial, trivial, trivial, trivial, trivial, _, _, _, _, _, c_toWaste (by have := szq_at hk'; omega), by omega, by omega, trivial, by simp; omega, trivial, l.length - (k + 1), by omega, k + 1, by omega, by omega, rfl, ?_⟩
    have e := wastes_set (l := l.take k ++ List.replicate (l.length - k) zeroQ) (k := k) (by omega) l[k]
    rw [take_rep_step hk'] at e
    have sp := wastes_split (l := l.take k ++ List.replicate (l.length - k) zeroQ) (k := k) (by omega)
    have hp := wastes_pre (l := l.take k ++ List.replicate (l.length - k) zeroQ) (k := k) (by omega)
    rw [e, sp]
    generalize wsts ((l.take k ++ List.replicate (l.length - k) zeroQ).take k) = p at *
    generalize wsts ((l.take k ++ List.replicate (l.length - k) zeroQ).drop (k + 1)) = q at *
    simp only [Nat.add_assoc, Nat.reduceAdd, set_at hp, set_at0 hp, Waste.enc, List.cons_append, List.nil_append, List.set_cons_zero, List.set_cons_succ]
  · have : k = l.length := by omega
    subst this
    simp
theorem c_eqWasteS_self {l : List Waste} (h : totQ l ≤ 1048576) : CallD Try.prog F_laws_eqWasteS [rQs l, rQs l] fun r _ => r = bS true := by
  have h0 := szq_nonneg l
  unfold totQ at h
  refine k_laws_eqWasteS ?_
  unfold vc_laws_eqWasteS
  simp only [nI, n_wastes]
  refine ⟨fun g => absurd g (by simp), fun _ => ⟨fun i m => ∃ k : Nat, i = k ∧ k ≤ l.length ∧ m = l.length - k, ⟨l.length, 0, rfl, Nat.zero_le _, rfl⟩, ?_⟩⟩
  rintro i m ⟨k, rfl, hk, rfl⟩
  simp only [Int.toNat_natCast, decide_eq_true_eq (p := (k : Int) < l.length), decide_eq_false_iff_not (p := (k : Int) < l.length)]
  refine ⟨fun h1 => ?_, fun _ => trivial⟩
  have ha : k < l.length := by omega
  simp only [drop_wastes ha, hdD_cons, List.tail_cons, isI_iV, asI_iV, isL_sl, es_sl, wrap_id (n := (k : Int) + 1) (by omega) (by omega)]
  exact ⟨by omega, by omega, by simp, trivial, trivial, trivial, trivial, trivial, by omega, by omega, by simp, trivial, trivial, trivial, trivial, trivial,
    _, c_eqWaste (by have := szq_at ha; omega), fun _ => ⟨⟨trivial, trivial⟩, l.length - (k + 1), by omega, k + 1, by omega, by omega, rfl⟩, fun g => absurd g (by simp)⟩

def Pool.ok (p : Pool) : Prop := p.mem.length ≤ M63 ∧ Ints p.st ∧ Ints p.own
def totP (p : Pool) : Int := p.mem.length + p.st.length + p.own.length
theorem c_szPool {p : Pool} (hp : p.ok) {b : Int} (h0 : 0 ≤ b) (hb : b ≤ 1048576) : CallD Try.prog F_laws_szPool [rPool p, iS b] fun r _ => r = iS (lf (totP p) b) := by
  obtain ⟨h1, ⟨h2, -⟩, ⟨h3, -⟩⟩ := hp
  refine k_laws_szPool ?_
  unfold vc_laws_szPool totP
  refine ⟨_, c_szByts h1 h0 hb, fun g => iS_eq (lf_neg g (by omega)), fun g => ?_⟩
  obtain ⟨k1, k2⟩ := lf_pos g
  rw [k2]
  refine ⟨_, c_szInts h2 (by omega) (by omega), fun g2 => iS_eq ?_, fun g2 => ?_⟩
  · rw [lf_add] at g2
    exact lf_neg g2 (by omega)
  obtain ⟨k3, k4⟩ := lf_pos g2
  rw [k4]
  refine ⟨_, c_szInts h3 (by omega) (by omega), fun g3 => iS_eq ?_, fun g3 => iS_eq ?_⟩
  · rw [lf_add, lf_add] at g3
    exact lf_neg g3 (by omega)
  · rw [lf_add, lf_add]; congr 1; omega
def World'.ok (w : World') : Prop := w.c.ok ∧ w.p.ok ∧ Nodes w.l ∧ Wastes w.q ∧ Ints w.log
def totW (w : World') : Int := totP w.p + totN w.l + totQ w.q + w.log.length
theorem c_szWorld {w : World'} (hw : w.ok) : CallD Try.prog F_laws_szWorld [rWorld w, iS 1048576] fun r _ => r = iS (lf (totW w) 1048576) := by
  obtain ⟨-, h1, h2, h3, ⟨h4, -⟩⟩ := hw
  have n2 := szs_nonneg w.l
  have n3 := szq_nonneg w.q
  refine k_laws_szWorld ?_
  unfold vc_laws_szWorld
  have e : totW w = totP w.p + totN w.l + totQ w.q + w.log.length := rfl
  have p1 : 0 ≤ totP w.p := by unfold totP; omega
  have p2 : 0 ≤ totN w.l := by unfold totN; omega
  have p3 : 0 ≤ totQ w.q := by unfold totQ; omega
  refine ⟨_, c_szPool h1 (by omega) (by omega), fun g => iS_eq (lf_neg g (by omega)), fun g => ?_⟩
  obtain ⟨k1, k2⟩ := lf_pos g
  rw [k2]
  refine ⟨_, c_szNodes h2 (by omega) (by omega), fun g2 => iS_eq ?_, fun g2 => ?_⟩
  · rw [lf_add] at g2
    exact lf_neg g2 (by omega)
  obtain ⟨k3, k4⟩ := lf_pos g2
  rw [k4]
  refine ⟨_, c_szWastes h3 (by omega) (by omega), fun g3 => iS_eq ?_, fun g3 => ?_⟩
  · rw [lf_add, lf_add] at g3
    exact lf_neg g3 (by omega)
  obtain ⟨k5, k6⟩ := lf_pos g3
  rw [k6]
  refine ⟨_, c_szInts h4 (by omega) (by omega), fun g4 => iS_eq ?_, fun g4 => iS_eq ?_⟩
  · rw [lf_add, lf_add, lf_add] at g4
    exact lf_neg g4 (by omega)
  · rw [lf_add, lf_add, lf_add, e]; congr 1; omega
theorem World'.tot_le {w : World'} (h : decide (lf (totW w) 1048576 < 0) = false) : totP w.p ≤ 1048576 ∧ totN w.l ≤ 1048576 ∧ totQ w.q ≤ 1048576 ∧ w.log.length ≤ 1048576 ∧ w.p.mem.length ≤ 1048576 ∧ w.p.st.length ≤ 1048576 ∧ w.p.own.length ≤ 1048576 := by
  obtain ⟨h1, -⟩ := lf_pos h
  have n2 := szs_nonneg w.l
  have n3 := szq_nonneg w.q
  unfold totW totP totN totQ at *
  omega
theorem c_toPool {p : Pool} (h : totP p ≤ 1048576) : CallD Try.prog F_laws_toPool [rPool p] fun r _ => r = oPool p := by
  unfold totP at h
  refine k_laws_toPool ?_
  unfold vc_laws_toPool
  exact ⟨_, c_toByteS (by omega), _, c_toIntS (by omega), _, c_toIntS (by omega), rfl⟩
theorem c_eqPool_self {p : Pool} (h : totP p ≤ 1048576) : CallD Try.prog F_laws_eqPool [rPool p, rPool p] fun r _ => r = bS true := by
  unfold totP at h
  refine k_laws_eqPool ?_
  unfold vc_laws_eqPool
  exact ⟨_, c_eqByteS (by unfold M63; omega), fun _ => ⟨_, c_eqIntS (by unfold M63; omega), fun _ => ⟨_, c_eqIntS (by unfold M63; omega), fun _ => rfl, fun g => absurd g (by simp)⟩, fun g => absurd g (by simp)⟩, fun g => absurd g (by simp)⟩
theorem c_eqConf_self (c : Conf) : CallD Try.prog F_laws_eqConf [confS c, confS c] fun r _ => r = bS true := by
  refine k_laws_eqConf ?_
  unfold vc_laws_eqConf
  exact ⟨fun g => absurd g (by simp), fun _ => ⟨fun g => absurd g (by simp), fun _ => ⟨fun g => absurd g (by simp), fun _ => ⟨fun g => absurd g (by simp), fun _ => ⟨fun g => absurd g (by simp), fun _ => ⟨fun g => absurd g (by simp), fun _ => rfl⟩⟩⟩⟩⟩⟩
theorem c_toWorld {w : World'} (h : decide (lf (totW w) 1048576 < 0) = false) : CallD Try.prog F_laws_toWorld [rWorld w] fun r _ => r = oWorld w := by
  obtain ⟨h1, h2, h3, h4, -⟩ := World'.tot_le h
  refine k_laws_toWorld ?_
  unfold vc_laws_toWorld
  exact ⟨_, _, _, _, _, _, c_toConf _, _, _, _, c_toPool h1, _, c_toNodeS h2, _, c_toWasteS h3, _, c_toIntS (by omega), rfl⟩
theorem c_eqWorld_self {w : World'} (h : decide (lf (totW w) 1048576 < 0) = false) : CallD Try.prog F_laws_eqWorld [rWorld w, rWorld w] fun r _ => r = bS true := by
  obtain ⟨h1, h2, h3, h4, -⟩ := World'.tot_le h
  refine k_laws_eqWorld ?_
  unfold vc_laws_eqWorld
  exact ⟨_, c_eqConf_self _, fun _ => ⟨_, c_eqPool_self h1, fun _ => ⟨_, c_eqNodeS_self h2, fun _ => ⟨_, c_eqWasteS_self h3, fun _ => ⟨_, c_eqIntS (by unfold M63; omega), fun _ => rfl, fun g => absurd g (by simp)⟩, fun g => absurd g (by simp)⟩, fun g => absurd g (by simp)⟩, fun g => absurd g (by simp)⟩, fun g => absurd g (by simp)⟩
theorem world_inv {ds : List DV} (h : WTs [.int .i64, .int .i64, .int .i64, .int .i64, .int .i64, .int .i64, .sl [.int .u8], .sl [.int .i64], .sl [.int .i64],
    .sl [.int .i64, .int .i64, .int .i64, .int .i64, .int .i64, .int .i64, .int .i64, .int .i64, .sl [.int .i64], .int .i64, .int .i64, .sl [.int .i64, .int .i64, .int .i64], .sl [.int .i64]], .sl [.int .i64, .int .i64, .sl [.int .i64], .sl [.int .i64], .int .i64], .sl [.int .i64]] ds) :
    ∃ w : World', ds = [iV w.c.chunks, iV w.c.size, iV w.c.slots, iV w.c.tax, iV w.c.slice, iV w.c.gens, .sl 1 (byts w.p.mem), .sl 1 (ints w.p.st), .sl 1 (ints w.p.own), .sl 13 (nods w.l), .sl 5 (wsts w.q), .sl 1 (ints w.log)] ∧ w.ok := by
  obtain ⟨d1, r, rfl, h1, h⟩ := cons_inv h
  obtain ⟨d2, r, rfl, h2, h⟩ := cons_inv h
  obtain ⟨d3, r, rfl, h3, h⟩ := cons_inv h
  obtain ⟨d4, r, rfl, h4, h⟩ := cons_inv h
  obtain ⟨d5, r, rfl, h5, h⟩ := cons_inv h
  obtain ⟨d6, r, rfl, h6, h⟩ := cons_inv h
  obtain ⟨d7, r, rfl, h7, h⟩ := cons_inv h
  obtain ⟨d8, r, rfl, h8, h⟩ := cons_inv h
  obtain ⟨d9, r, rfl, h9, h⟩ := cons_inv h
  obtain ⟨d10, r, rfl, h10, h⟩ := cons_inv h
  obtain ⟨d11, r, rfl, h11, h⟩ := cons_inv h
  obtain ⟨d12, r, rfl, h12, h⟩ := cons_inv h
  rw [nil_inv h]
  obtain ⟨a1, rfl, k1⟩ := int_inv h1
  obtain ⟨a2, rfl, k2⟩ := int_inv h2
  obtain ⟨a3, rfl, k3⟩ := int_inv h3
  obtain ⟨a4, rfl, k4⟩ := int_inv h4
  obtain ⟨a5, rfl, k5⟩ := int_inv h5
  obtain ⟨a6, rfl, k6⟩ := int_inv h6
  obtain ⟨a7, rfl, k7, -⟩ := byts_inv h7
  obtain ⟨a8, rfl, k8⟩ := ints_inv h8
  obtain ⟨a9, rfl, k9⟩ := ints_inv h9
  obtain ⟨a10, rfl, k10⟩ := nodes_inv h10
  obtain ⟨a11, rfl, k11⟩ := wastes_inv h11
  obtain ⟨a12, rfl, k12⟩ := ints_inv h12
  exact ⟨⟨⟨a1, a2, a3, a4, a5, a6⟩, ⟨a7, a8, a9⟩, a10, a11, a12⟩, rfl, ⟨k1, k2, k3, k4, k5, k6⟩, ⟨k7, k8, k9⟩, k10, k11, k12⟩
end Go.Proofs.Ytmnfcahbmlfccaa
