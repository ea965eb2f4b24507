/- As many things of a size go into a new chunk as there is room for, and not one more: the law FnFills says true of all bytes. No conditions. -/
import Derived.Test.YthmpdfmdhfgaaaaHSd
import Derived.Test.YthmpdfmdhfgaaaaHDg
import Derived.Test.YthmpdfmdhfgaaaaVN7
import Derived.Test.YthmpdfmdhfgaaaaRows
import Derived.Test.YthmpdfmdhfgaaaaChecked
import Derived.ProofKit
namespace Go.Proofs.Ythmpdfmdhfgaaaa
open Go Go.Proofs.Ythmpdfmdhfgaaaa.DL
open Go.ChangeShapes Go.WideShapes Go.ChangeAt Go.RowKit
set_option maxRecDepth 100000

namespace FnFills
def fillT (c : Conf) (z : Int) (q : Nat) : List Thing := (List.range q).map fun j : Nat => (⟨c.size + (j : Int) * z, z, 0⟩ : Thing)
def fillN (c : Conf) (z : Int) (q : Nat) : Node := ⟨1, 1, 0, 0, 0, 0, 0, 0, [1], 2, (q : Int) * z, fillT c z q, []⟩
theorem fillT_len (c : Conf) (z : Int) (q : Nat) : (fillT c z q).length = q := by simp [fillT]
theorem mul_bd {z : Int} (hz : 2 ≤ z) {j q : Nat} (h : j < q) : (j : Int) * z + z ≤ (q : Int) * z ∧ 0 ≤ (j : Int) * z := by
  have h1 : ((j : Int) + 1) * z ≤ (q : Int) * z := Int.mul_le_mul_of_nonneg_right (by omega) (by omega)
  rw [Int.add_mul, Int.one_mul] at h1
  exact ⟨h1, Int.mul_nonneg (by omega) (by omega)⟩
theorem q_le {z s : Int} (hz : 2 ≤ z) {q : Nat} (h : (q : Int) * z ≤ s) (hs : s ≤ 16) : q ≤ 8 := by
  have : (q : Int) * 2 ≤ (q : Int) * z := Int.mul_le_mul_of_nonneg_left hz (by omega)
  omega
section
variable {c : Conf} (hc : ConfG c) {z : Int} (hz : 2 ≤ z) (hz' : z ≤ c.size)
include hc hz
theorem fill_thing {q : Nat} (h : (q : Int) * z ≤ c.size) {j : Nat} (hj : j < q) : thingOk c ⟨c.size + (j : Int) * z, z, 0⟩ = true ∧ loC c ⟨c.size + (j : Int) * z, z, 0⟩ = 1 ∧ hiC c ⟨c.size + (j : Int) * z, z, 0⟩ = 1 := by
  obtain ⟨h1, h2⟩ := mul_bd hz hj
  have := thing_chunk hc.good (k := 1) (o := (j : Int) * z) (sz := z) (by omega) (by have := hc.chunks; omega) h2 (by omega) (by omega)
  rwa [Int.one_mul] at this
theorem fill_ok {q : Nat} (h : (q : Int) * z ≤ c.size) : nodeOk c (fillN c z q) = true := by
  have hs := hc.size
  have h8 := q_le hz h (by omega)
  have hch := hc.chunks
  have hsl := hc.slots
  have hgn := hc.gens
  have hq : 0 ≤ (q : Int) * z := Int.mul_nonneg (by omega) (by omega)
  refine nodeOk_of_live hc.good rfl (within_iff.2 (by show (1 : Int) ≤ 1 ∧ 1 ≤ c.gens; omega)) ?_
  unfold liveB chunksB
  have e1 : distB c [1] = true := by
    refine distB_iff.2 fun i hi => ?_
    have : i = 0 := by simp at hi; omega
    subst this
    refine ⟨within_iff.2 ?_, rfl⟩
    rw [wrap_id (n := c.chunks - 1) (by omega) (by omega)]
    show (0 : Int) ≤ 1 ∧ 1 ≤ c.chunks - 1
    omega
  have e2 : (fillT c z q).all (thingOk c) = true := by
    rw [List.all_eq_true]
    intro t ht
    obtain ⟨j, hj, rfl⟩ := List.mem_map.1 ht
    exact (fill_thing hc hz h (List.mem_range.1 hj)).1
  have e3 : has [1] (IntKind.i64.wrap (2 - 1)) = true := by decide
  have e4 : bytesB [] = true := rfl
  have e5 : within ((q : Int) * z) 0 c.size = true := within_iff.2 ⟨hq, h⟩
  have e6 : within 0 0 c.slots = true := within_iff.2 (by omega)
  show (decide ((0 : Int) ≤ 0) && (decide ((0 : Int) ≤ 0) && (within 0 0 c.slots && (within 0 0 c.slots && (within 0 0 c.slots && (within 0 0 c.slots && ((distB c [1] && (if (2 : Int) = 0 then decide ((q : Int) * z = 0) else has [1] (IntKind.i64.wrap (2 - 1)) && within ((q : Int) * z) 0 c.size)) &&
    (decide (((fillT c z q).length : Int) ≤ 12) && (decide ((([] : List Int).length : Int) ≤ 6) && ((fillT c z q).all (thingOk c) && bytesB []))))))))))  = true
  rw [e1, e2, e3, e4, e5, e6, fillT_len, if_neg (by decide), decide_eq_true (show ((q : Nat) : Int) ≤ 12 by omega)]
  rfl
theorem fill_al {q : Nat} (h : (q : Int) * z ≤ c.size) : alignUp ((q : Int) * z) 1 = (q : Int) * z := by
  have hs := hc.size
  have hq : 0 ≤ (q : Int) * z := Int.mul_nonneg (by omega) (by omega)
  unfold alignUp
  rw [if_pos (by rw [within_iff.2 (show 0 ≤ (q : Int) * z ∧ (q : Int) * z ≤ 1000000000 by omega)]; decide), wrap_id (n := (q : Int) * z + 1) (by omega) (by omega), wrap_id (n := (q : Int) * z + 1 - 1) (by omega) (by omega), Int.tdiv_one, wrap_id (n := (q : Int) * z + 1 - 1) (by omega) (by omega), Int.mul_one, wrap_id (by omega) (by omega)]
  omega
theorem fill_ins {q : Nat} (h : (q : Int) * z ≤ c.size) : insB c (fillN c z q) = true := by
  unfold insB
  rw [List.all_eq_true]
  intro t ht
  obtain ⟨j, hj, rfl⟩ := List.mem_map.1 ht
  obtain ⟨g1, g2, g3⟩ := fill_thing hc hz h (List.mem_range.1 hj)
  unfold inB
  rw [g1, g2, g3]
  rfl
include hz'
theorem fill_spot {q : Nat} (h : (q : Int) * z ≤ c.size) : spotB c (fillN c z q) z 1 = decide ((q : Int) * z + z ≤ c.size) := by
  have hs := hc.size
  have hq : 0 ≤ (q : Int) * z := Int.mul_nonneg (by omega) (by omega)
  unfold spotB mayB
  have e1 : alignUp (fillN c z q).bump 1 = (q : Int) * z := fill_al hc hz h
  have e2 : decide ((fillN c z q).cur = 0) = false := rfl
  rw [fill_ok hc hz h, within_iff.2 (show 1 ≤ z ∧ z ≤ c.size by omega), e1, e2, wrap_id (by omega) (by omega)]
  rfl
theorem fill_needs {q : Nat} (h : (q : Int) * z ≤ c.size) : needsB c (fillN c z q) z 1 = !decide ((q : Int) * z + z ≤ c.size) := by
  unfold needsB
  rw [fill_ok hc hz h, within_iff.2 (show 1 ≤ z ∧ z ≤ c.size by omega), fill_spot hc hz hz' h]
  rfl
theorem fill_putB {q : Nat} (h : (q : Int) * z ≤ c.size) : putSB c (fillN c z q) z 1 = decide ((q : Int) * z + z ≤ c.size) := by
  have hs := hc.size
  have h8 := q_le hz h (by omega)
  have e : ¬ (12 : Int) ≤ (fillN c z q).things.length := by show ¬ (12 : Int) ≤ (fillT c z q).length; rw [fillT_len]; omega
  unfold putSB
  rw [fill_spot hc hz hz' h, decide_eq_false e]
  simp
theorem fillN_ok {q : Nat} (h : (q : Int) * z ≤ c.size) : (fillN c z q).ok ∧ (fillN c z q).sz ≤ 1048576 := by
  have hs := hc.size
  have h8 := q_le hz h (by omega)
  have hq : 0 ≤ (q : Int) * z := Int.mul_nonneg (by omega) (by omega)
  have i0 : I64 0 := by unfold I64; omega
  have i1 : I64 1 := by unfold I64; omega
  refine ⟨⟨i1, i1, i0, i0, i0, i0, i0, i0, ⟨by show 1 ≤ M63; unfold M63; omega, fun x hx => ?_⟩, by show I64 2; unfold I64; omega, by show I64 ((q : Int) * z); unfold I64; omega, ⟨by show (fillT c z q).length ≤ M63; rw [fillT_len]; unfold M63; omega, fun t ht => ?_⟩, ⟨by show 0 ≤ M63; omega, fun x hx => by cases hx⟩⟩, ?_⟩
  · rw [List.mem_singleton.1 hx]; exact i1
  · obtain ⟨j, hj, rfl⟩ := List.mem_map.1 ht
    obtain ⟨g1, g2⟩ := mul_bd hz (List.mem_range.1 hj)
    refine ⟨?_, ?_, i0⟩ <;> simp only <;> unfold I64 <;> omega
  · show ((1 : Nat) : Int) + ((fillT c z q).length : Int) + ((0 : Nat) : Int) ≤ 1048576
    rw [fillT_len]; omega
theorem fill_put {q : Nat} (h : (q : Int) * z + z ≤ c.size) : putS c (fillN c z q) z 1 = fillN c z (q + 1) := by
  have hq : 0 ≤ (q : Int) * z := Int.mul_nonneg (by omega) (by omega)
  have hP := put_of (c := c) (fillN_ok hc hz hz' (q := q) (by omega)).1 (sz := z) (al := 1) (by rw [fill_putB hc hz hz' (by omega)]; exact decide_eq_true h)
  have e1 : alignUp (fillN c z q).bump 1 = (q : Int) * z := fill_al hc hz (by omega)
  rw [hP.node, e1]
  have e2 : ((fillN c z q).cur - 1) * c.size + (q : Int) * z = c.size + (q : Int) * z := by show (2 - 1) * c.size + _ = _; omega
  have e3 : fillT c z (q + 1) = fillT c z q ++ [⟨c.size + (q : Int) * z, z, 0⟩] := by simp [fillT, List.range_succ]
  have e4 : ((q + 1 : Nat) : Int) * z = (q : Int) * z + z := by rw [Int.natCast_add, Int.add_mul]; simp
  rw [e2]
  unfold fillN
  rw [e3, e4]
end
theorem fill_apart (c : Conf) {z : Int} (hz : 2 ≤ z) (q : Nat) : AllApart.allB (fillT c z q) = true := by
  refine AllApart.allB_iff.2 fun i hi j hj => ?_
  obtain ⟨g1, g2⟩ := mul_bd hz hj
  simp only [fillT, List.getElem_map, List.getElem_range, apart, Bool.or_eq_true, decide_eq_true_eq]
  right
  rw [if_neg (by omega)]
  simp only [decide_eq_true_eq]
  omega
theorem c_NodeNew1 : CallD Try.prog F_impl_NodeNew [iS 1] fun r _ => r = aS [iC 0, iC 1, iC 0, iC 0, iC 0, iC 0, iC 0, iC 0, .own (.sl 1 []), iC 0, iC 0, .own (.sl 3 []), .own (.sl 1 [])] := k_impl_NodeNew rfl
theorem c_law {v : Value} {a : List Int} (ha : a.length ≤ M63) (hb : ∀ x ∈ a, 0 ≤ x ∧ x ≤ 255) : CallD Try.prog F_laws_FnFills [codeS v a] fun r _ => r = bS true := by
  refine k_laws_FnFills ?_
  unfold vc_laws_FnFills
  refine ⟨_, c_big, condB_i (fun _ => rfl) fun hbig => ?_⟩
  have hal : a.length ≤ 1048576 := by simp only [decide_eq_false_iff_not] at hbig; omega
  obtain ⟨c, n, x, ⟨hc, -, -⟩, c1⟩ := c_DrawNewCur (v := v) ha
  obtain ⟨hat, c2⟩ := c_at (v := v) hal hb (i := 3) (by omega)
  have hs := hc.size
  have hch := hc.chunks
  have hgn := hc.gens
  have w1 : IntKind.i64.wrap (c.size - 1) = c.size - 1 := wrap_id (by omega) (by omega)
  have c3 : IntKind.i64.wrap (c.size - 1) ≠ 0 := by omega
  obtain ⟨t1, t2⟩ := tmod_in hat.1 (show 0 < IntKind.i64.wrap (c.size - 1) by omega)
  obtain ⟨z, hzd⟩ : ∃ z, z = IntKind.i64.wrap (2 + (atN a 3).tmod (IntKind.i64.wrap (c.size - 1))) := ⟨_, rfl⟩
  have hz : 2 ≤ z ∧ z ≤ c.size := by rw [hzd, wrap_id (by omega) (by omega)]; omega
  obtain ⟨hz1, hz2⟩ := hz
  have hq0 : ((0 : Nat) : Int) * z ≤ c.size := by omega
  obtain ⟨K, hK⟩ := Int.eq_ofNat_of_zero_le (Int.ediv_nonneg (show 0 ≤ c.size by omega) (show 0 ≤ z by omega))
  have hKd : IntKind.i64.wrap (c.size.tdiv z) = K := by
    rw [Int.tdiv_eq_ediv_of_nonneg (by omega), hK]
    have : (K : Int) ≤ c.size := by rw [← hK]; exact Int.ediv_le_self _ (by omega)
    exact wrap_id (by omega) (by omega)
  have hK1 : (K : Int) * z ≤ c.size := by rw [← hK]; exact Int.ediv_mul_le _ (by omega)
  have hK2 : c.size < (K : Int) * z + z := by
    have := Int.lt_ediv_add_one_mul_self c.size (show 0 < z by omega)
    rw [hK, Int.add_mul, Int.one_mul] at this
    exact this
  have hN0 : (⟨1, 1, 0, 0, 0, 0, 0, 0, [], 0, 0, [], []⟩ : Node).ok := by
    have i0 : I64 0 := by unfold I64; omega
    have i1 : I64 1 := by unfold I64; omega
    exact ⟨i1, i1, i0, i0, i0, i0, i0, i0, ⟨by show 0 ≤ M63; omega, fun x hx => by cases hx⟩, i0, i0, ⟨by show 0 ≤ M63; omega, fun x hx => by cases hx⟩, ⟨by show 0 ≤ M63; omega, fun x hx => by cases hx⟩⟩
  have hN1 : (⟨1, 1, 0, 0, 0, 0, 0, 0, [], 0, 0, [], []⟩ : Node).sz ≤ 1048576 := by show ((0 : Nat) : Int) + ((0 : Nat) : Int) + ((0 : Nat) : Int) ≤ 1048576; omega
  have d1 := c_NewCur c hN0 hN1 (k := 1) (by unfold I64; omega)
  have e1 : curB c ⟨1, 1, 0, 0, 0, 0, 0, 0, [], 0, 0, [], []⟩ 1 = true := by
    have h0 := fill_ok hc hz1 hq0
    have h1 : fillN c z 0 = ({ (⟨1, 1, 0, 0, 0, 0, 0, 0, [], 0, 0, [], []⟩ : Node) with chunks := [] ++ [1], cur := IntKind.i64.wrap (1 + 1), bump := 0 } : Node) := by
      unfold fillN
      have : IntKind.i64.wrap (1 + 1) = 2 := by decide
      rw [this]
      simp [fillT]
    rw [h1] at h0
    unfold curB
    rw [h0, within_iff.2 (show (0 : Int) ≤ 1 ∧ 1 ≤ IntKind.i64.wrap (c.chunks - 1) by rw [wrap_id (n := c.chunks - 1) (by omega) (by omega)]; omega)]
    rfl
  have e2 : curN c ⟨1, 1, 0, 0, 0, 0, 0, 0, [], 0, 0, [], []⟩ 1 = fillN c z 0 := by
    unfold curN
    rw [if_pos e1]
    unfold fillN
    have : IntKind.i64.wrap (1 + 1) = 2 := by decide
    rw [this]
    simp [fillT]
  rw [e1, e2] at d1
  obtain ⟨o1, o2⟩ := fillN_ok hc hz1 hz2 hq0
  have d2 := c_NeedsChunk c o1 o2 z 1
  have e3 : needsB c (fillN c z 0) z 1 = false := by rw [fill_needs hc hz1 hz2 hq0, decide_eq_true (show ((0 : Nat) : Int) * z + z ≤ c.size by omega)]; rfl
  rw [e3] at d2
  have d3 := c_NeedsChunk c hN0 hN1 z 1
  have e4 : needsB c ⟨1, 1, 0, 0, 0, 0, 0, 0, [], 0, 0, [], []⟩ z 1 = true := by
    have h1 : nodeOk c ⟨1, 1, 0, 0, 0, 0, 0, 0, [], 0, 0, [], []⟩ = true := by
      have hsl := hc.slots
      refine nodeOk_of_live hc.good rfl (within_iff.2 (show (1 : Int) ≤ 1 ∧ 1 ≤ c.gens by omega)) ?_
      have e6 : within 0 0 c.slots = true := within_iff.2 (by omega)
      show (decide ((0 : Int) ≤ 0) && (decide ((0 : Int) ≤ 0) && (within 0 0 c.slots && (within 0 0 c.slots && (within 0 0 c.slots && (within 0 0 c.slots && (true && true))))))) = true
      rw [e6]; rfl
    unfold needsB spotB mayB
    rw [h1, within_iff.2 (show 1 ≤ z ∧ z ≤ c.size by omega)]
    rfl
  rw [e4] at d3
  refine ⟨_, _, _, _, _, _, _, _, _, _, _, _, _, _, _, _, _, _, _, _, c1, _, _, _, _, _, _, _, _, _, _, _, _, _, c_NodeNew1, _, _, _, _, _, _, _, _, _, _, _, _, _, _, d1, _, c2, c3, ?_⟩
  rw [← hzd]
  refine condB_f rfl ⟨_, d2, condB_f rfl ⟨_, d3, condB_f rfl ?_⟩⟩
  refine ⟨fun n0 n1 n2 n3 n4 n5 n6 n7 es n8 n9 et eg i m => ∃ q : Nat, q ≤ K ∧ i = q ∧ m = K - q ∧ n0 = (fillN c z q).st ∧ n1 = (fillN c z q).gen ∧ n2 = (fillN c z q).ep ∧ n3 = (fillN c z q).up ∧ n4 = (fillN c z q).upEp ∧ n5 = (fillN c z q).first ∧ n6 = (fillN c z q).next ∧ n7 = (fillN c z q).prev ∧ es = ints (fillN c z q).chunks ∧ n8 = (fillN c z q).cur ∧ n9 = (fillN c z q).bump ∧ et = thgs (fillN c z q).things ∧ eg = ints (fillN c z q).tags,
    ⟨K, 0, Nat.zero_le _, rfl, rfl, rfl, rfl, rfl, rfl, rfl, rfl, rfl, rfl, rfl, rfl, rfl, rfl, rfl⟩, ?_⟩
  rintro n0 n1 n2 n3 n4 n5 n6 n7 es n8 n9 et eg i m ⟨q, hq, rfl, rfl, rfl, rfl, rfl, rfl, rfl, rfl, rfl, rfl, rfl, rfl, rfl, rfl, rfl⟩
  have hqz : (q : Int) * z ≤ c.size := by
    have : (q : Int) * z ≤ (K : Int) * z := Int.mul_le_mul_of_nonneg_right (by omega) (by omega)
    omega
  have h8 := q_le hz1 hqz (by omega)
  obtain ⟨p1, p2⟩ := fillN_ok hc hz1 hz2 hqz
  have f1 := c_PutSmall c p1 p2 z 1
  rw [fill_putB hc hz1 hz2 hqz] at f1
  refine ⟨by omega, condB_i (fun hlt => ?_) fun hge => ?_⟩
  · have hlt' : q < K := by rw [hKd] at hlt; have := of_decide_eq_true hlt; omega
    obtain ⟨b1, b2⟩ := mul_bd hz1 hlt'
    rw [decide_eq_true (show (q : Int) * z + z ≤ c.size by omega), fill_put hc hz1 hz2 (by omega)] at f1
    have e5 : ((q + 1 : Nat) : Int) * z = (q : Int) * z + z := by rw [Int.natCast_add, Int.add_mul]; simp
    obtain ⟨p3, p4⟩ := fillN_ok hc hz1 hz2 (q := q + 1) (by omega)
    have f2 := c_LooseIn c p3 p4
    have e6 : looseIn c (fillN c z (q + 1)) = IntKind.i64.wrap (c.size - IntKind.i64.wrap (IntKind.i64.wrap ((q : Int) + 1) * z)) := by
      unfold looseIn
      have h1 : ¬ (fillN c z (q + 1)).cur = 0 := by show ¬ (2 : Int) = 0; omega
      have h2 : (fillN c z (q + 1)).bump = (q : Int) * z + z := e5
      have h3 : ((q : Int) + 1) * z = (q : Int) * z + z := by rw [Int.add_mul, Int.one_mul]
      rw [if_neg h1, if_pos (fill_ok hc hz1 (by omega)), h2, wrap_id (n := (q : Int) + 1) (by omega) (by omega), h3, wrap_id (n := (q : Int) * z + z) (by omega) (by omega)]
    refine ⟨_, _, _, _, _, _, _, _, _, _, _, _, _, _, f1, condB_f rfl ⟨_, f2, condB_f (by rw [decide_eq_true e6]; rfl) ?_⟩⟩
    exact ⟨⟨rfl, rfl⟩, K - (q + 1), by omega, q + 1, by omega, by rw [wrap_id (by omega) (by omega)]; omega, rfl, rfl, rfl, rfl, rfl, rfl, rfl, rfl, rfl, rfl, rfl, rfl, rfl, rfl⟩
  · have hqK : q = K := by rw [hKd] at hge; have := of_decide_eq_false hge; omega
    subst hqK
    rw [decide_eq_false (show ¬ (q : Int) * z + z ≤ c.size by omega)] at f1
    have e7 : putS c (fillN c z q) z 1 = fillN c z q := by
      unfold putS
      rw [fill_putB hc hz1 hz2 hqz, decide_eq_false (show ¬ (q : Int) * z + z ≤ c.size by omega)]
      rfl
    rw [e7] at f1
    have f2 := c_NeedsChunk c p1 p2 z 1
    rw [fill_needs hc hz1 hz2 hqz, decide_eq_false (show ¬ (q : Int) * z + z ≤ c.size by omega)] at f2
    have hth : (fillN c z q).things.length ≤ 1048576 := by show (fillT c z q).length ≤ 1048576; rw [fillT_len]; omega
    have f3 := AllApart.c_impl (l := (fillN c z q).things) hth p1.2.2.2.2.2.2.2.2.2.2.2.1.2
    have e8 : AllApart.allB (fillN c z q).things = true := fill_apart c hz1 q
    rw [e8] at f3
    have f4 := c_InChunks c p1 p2
    rw [fill_ins hc hz1 hqz] at f4
    have e9 : nI (DV.sl 3 (thgs (fillN c z q).things)).n = IntKind.i64.wrap (c.size.tdiv z) := by
      rw [hKd, n_things]
      show ((fillT c z q).length : Int) = q
      rw [fillT_len]
    exact ⟨_, _, _, _, _, _, _, _, _, _, _, _, _, _, f1, condB_t rfl ⟨_, f2, condB_t rfl ⟨by omega, condB_t (decide_eq_true e9) ⟨_, f3, condB_t rfl ⟨_, f4, rfl⟩⟩⟩⟩⟩

theorem lifted (os : Os) (started : os.Started) (H : Type) (enc : TypeId × Value → H) :
    ReturnsInHanded {} Try.checked os F_laws_FnFills .any (Rows.fnFillsSpec.pre6 enc Try.prog Try.f11 Rows.fnFillsRow.domain false) (Rows.fnFillsSpec.post enc Try.prog Try.f11 false true false false) := by
  refine returnsInHanded_of_change (C := Try.checked) own started (by kernel_rfl) Try.func11
    (ChangeSpec.witness6 (enc := enc) (C := Try.checked) false ⟨#[], #[.slice none 0 0], []⟩ 8 (by kernel_rfl) (by kernel_rfl) (by kernel_rfl) (by kernel_rfl)) ?_
  intro W base args ds gs before hval0 hW hcnd _
  refine law_row (bs := [false]) (bt := 4) laidOut shOk rfl (by kernel_rfl) (by kernel_rfl) (by kernel_rfl) (fun ds h => ?_) (by kernel_rfl) (by kernel_rfl) ?_ hW hval0
  · match ds, h with
    | [_], _ => rfl
  · have e : Try.f11.params.toList = [22] := by kernel_rfl
    rw [e]
    intro ds1 es1 he1 w1
    have e22 : sh 22 = some [.sl [.int .u8]] := by kernel_rfl
    cases e22.symm.trans he1
    obtain ⟨d1, r1, rfl, k1, j1⟩ := cons_inv w1
    cases nil_inv j1
    obtain ⟨code, rfl, hcode, hcode'⟩ := byts_inv k1
    exact callD_of_vl fun v => c_law hcode hcode'
end FnFills
theorem fnFills_holds : Rows.FnFillsSaid :=
  OpenClaim.holds_of_wide F_laws_FnFills Try.f11 rfl rfl rfl rfl rfl rfl rfl ⟨rfl, rfl, rfl, rfl, rfl⟩ rfl rfl rfl rfl rfl (by kernel_rfl) Try.func11 (by kernel_rfl)
    (of_decide_eq_true (by kernel_rfl)) (by unfold Func.isWrapper; first | (rw [if_pos (by decide +kernel)]; kernel_rfl) | (rw [if_neg (by decide +kernel)]; exact ⟨rfl, rfl⟩))
    (fun os started H enc _ => FnFills.lifted os started H enc)
#print axioms fnFills_holds
end Go.Proofs.Ythmpdfmdhfgaaaa
