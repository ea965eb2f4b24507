/- Contracts of small functions: places and depths of handles. -/
import Derived.Test.YthmpdfmdhfgaaaaHQ
import Derived.Test.YthmpdfmdhfgaaaaVHRS
namespace Go.Proofs.Ythmpdfmdhfgaaaa
open Go Go.Proofs.Ythmpdfmdhfgaaaa.DL
set_option maxRecDepth 100000

def placeN (l : List Node) (h : Handle) : Int := if slotB l h.slot then (if (l.getD h.slot.toNat zeroN).st = 1 ∧ (l.getD h.slot.toNat zeroN).gen = h.gen then h.slot else -1) else -1
theorem placeN_I64 {l : List Node} {h : Handle} (hh : h.ok) : I64 (placeN l h) := by
  unfold placeN
  split
  · split
    · exact hh.1
    · unfold I64; omega
  · unfold I64; omega
theorem c_DeepOf {l : List Node} (hl : l.length ≤ 1048576) {k : Int} (hk : I64 k) : CallD Try.prog F_impl_DeepOf [rNs l, iS k] fun r _ => r = iS (rise l l.length k).length := by
  refine k_impl_DeepOf ?_
  unfold vc_impl_DeepOf
  exact ⟨_, c_Rise hl hk, iS_eq (by simp only [nI, n_ints])⟩
theorem c_DeepOfS {l : List Node} (hl : l.length ≤ 1048576) {k : Int} (hk : I64 k) : CallD Try.prog F_spec_DeepOf [rNs l, iS k] fun r _ => r = iS (rise l l.length k).length := by
  refine k_spec_DeepOf ?_
  unfold vc_spec_DeepOf
  exact ⟨_, c_RiseS hl hk, iS_eq (by simp only [nI, n_ints])⟩
def walkN (w : World') (h : Handle) : Int := (rise w.l w.l.length (placeN w.l h)).length
def nodeAt (l : List Node) (k : Int) : Node := l.getD k.toNat zeroN
theorem nodeAt_eq {l : List Node} {k : Int} (h : slotB l k = true) : ∃ hi : k.toNat < l.length, nodeAt l k = l[k.toNat] := by
  obtain ⟨q1, q2⟩ := slotB_iff.1 h
  exact ⟨by omega, getD_node (by omega)⟩
theorem rise_at (l : List Node) : ∀ (f : Nat) (k : Int), (∀ x ∈ rise l f k, slotB l x = true) ∧ ∀ (i : Nat), i + 1 < (rise l f k).length → (rise l f k).getD (i + 1) 0 = IntKind.i64.wrap ((nodeAt l ((rise l f k).getD i 0)).up - 1)
  | 0, k => ⟨fun x hx => (by simp [rise] at hx), fun i h => (by simp [rise] at h)⟩
  | f + 1, k => by
    by_cases hs : slotB l k = true
    · have e : rise l (f + 1) k = k :: rise l f (IntKind.i64.wrap ((nodeAt l k).up - 1)) := by
        conv => lhs; unfold rise
        rw [if_pos hs]; rfl
      obtain ⟨h1, h2⟩ := rise_at l f (IntKind.i64.wrap ((nodeAt l k).up - 1))
      rw [e]
      refine ⟨fun x hx => ?_, fun i h => ?_⟩
      · rcases List.mem_cons.1 hx with rfl | hx
        · exact hs
        · exact h1 x hx
      · cases i with
        | zero =>
          simp only [List.getD_cons_succ, List.getD_cons_zero]
          cases f with
          | zero => simp [rise] at h
          | succ f =>
            have hs2 : slotB l (IntKind.i64.wrap ((nodeAt l k).up - 1)) = true := by
              cases g : slotB l (IntKind.i64.wrap ((nodeAt l k).up - 1)) with
              | true => rfl
              | false => rw [rise_out g] at h; simp at h
            have e2 : rise l (f + 1) (IntKind.i64.wrap ((nodeAt l k).up - 1)) = IntKind.i64.wrap ((nodeAt l k).up - 1) :: rise l f (IntKind.i64.wrap ((nodeAt l (IntKind.i64.wrap ((nodeAt l k).up - 1))).up - 1)) := by
              conv => lhs; unfold rise
              rw [if_pos hs2]; rfl
            rw [e2]; rfl
        | succ i =>
          simp only [List.getD_cons_succ]
          exact h2 i (by simpa using h)
    · have : slotB l k = false := by simpa using hs
      rw [rise_out this]
      exact ⟨fun x hx => (by cases hx), fun i h => (by simp at h)⟩
/-- Way i of a slot's way up lives, and fits to what is above it. -/
def stepB (l : List Node) (way : List Int) (i : Nat) : Bool := decide ((nodeAt l (way.getD i 0)).st = 1) && (if i + 1 < way.length then decide ((nodeAt l (way.getD i 0)).upEp = (nodeAt l (way.getD (i + 1) 0)).ep) else true)
def wayB (l : List Node) (way : List Int) : Bool := (List.range way.length).all (stepB l way) && (decide (0 < way.length) && decide ((nodeAt l (way.getD (way.length - 1) 0)).up = 0))
def aliveB (l : List Node) (k : Int) : Bool := wayB l (rise l l.length k)
theorem wayB_false {l : List Node} {way : List Int} {i : Nat} (hi : i < way.length) (h : stepB l way i = false) : wayB l way = false := by
  have : (List.range way.length).all (stepB l way) = false := by
    cases e : (List.range way.length).all (stepB l way) with
    | false => rfl
    | true => have := List.all_eq_true.1 e i (List.mem_range.2 hi); rw [h] at this; cases this
  unfold wayB; rw [this]; rfl
theorem wayB_all {l : List Node} {way : List Int} (h : ∀ i, i < way.length → stepB l way i = true) : wayB l way = (decide (0 < way.length) && decide ((nodeAt l (way.getD (way.length - 1) 0)).up = 0)) := by
  have : (List.range way.length).all (stepB l way) = true := List.all_eq_true.2 fun i hi => h i (List.mem_range.1 hi)
  unfold wayB; rw [this]; rfl
theorem c_l9In {l : List Node} (hl : l.length ≤ M63) (hok : ∀ n ∈ l, n.ok) {k : Int} (hk : slotB l k = true) : CallD Try.prog F_spec_l9In [rNs l, iS k] fun r _ =>
    r = bS (slotB l (IntKind.i64.wrap ((nodeAt l k).up - 1)) && (decide ((nodeAt l (IntKind.i64.wrap ((nodeAt l k).up - 1))).st = 1) && decide ((nodeAt l (IntKind.i64.wrap ((nodeAt l k).up - 1))).ep = (nodeAt l k).upEp))) := by
  obtain ⟨q1, q2⟩ := slotB_iff.1 hk
  obtain ⟨hi, e⟩ := nodeAt_eq hk
  have hup := (hok _ (List.getElem_mem hi)).2.2.2.1
  unfold M63 at hl
  refine k_spec_l9In ?_
  unfold vc_spec_l9In
  simp only [nI, n_nodes, drop_nodes hi, List.drop_zero, List.drop_succ_cons, hdD_cons, isI_iV, asI_iV]
  rw [e]
  have es : slotB l (l[k.toNat].up - 1) = slotB l (IntKind.i64.wrap (l[k.toNat].up - 1)) := by
    unfold I64 at hup
    rw [Bool.eq_iff_iff, slotB_iff, slotB_iff, wrapI]
    split <;> omega
  have c := c_l9Place (l := l) l[k.toNat].up
  rw [es] at c
  generalize IntKind.i64.wrap (l[k.toNat].up - 1) = u at *
  refine ⟨q1, q2, by simp, trivial, _, c, fun g => ?_, fun g => bS_eq ?_⟩
  · obtain ⟨p1, p2⟩ := slotB_iff.1 g
    obtain ⟨hj, e2⟩ := nodeAt_eq g
    rw [e2]
    simp only [drop_nodes hj, List.drop_zero, List.drop_succ_cons, hdD_cons, isI_iV, asI_iV]
    refine ⟨p1, p2, by simp, trivial, fun g1 => ⟨p1, p2, by simp, trivial, q1, q2, by simp, trivial, fun g2 => bS_eq ?_, fun g2 => bS_eq ?_⟩, fun g1 => bS_eq ?_⟩
    · rw [g, g1, g2]; rfl
    · rw [g2]; simp
    · rw [g1]; simp
  · rw [g]; rfl
theorem c_AliveS {l : List Node} (hl : l.length ≤ 1048576) (hok : ∀ n ∈ l, n.ok) {k : Int} (hk : I64 k) : CallD Try.prog F_spec_Alive [rNs l, iS k] fun r _ => r = bS (aliveB l k) := by
  have hM : l.length ≤ M63 := by unfold M63; omega
  refine k_spec_Alive ?_
  unfold vc_spec_Alive aliveB
  have hlen := rise_len l l.length k
  obtain ⟨hsl, hnx⟩ := rise_at l l.length k
  refine ⟨_, c_RiseS hl hk, ?_⟩
  generalize rise l l.length k = way at *
  have slot : ∀ i (hi : i < way.length), slotB l way[i] = true := fun i hi => hsl _ (List.getElem_mem hi)
  simp only [nI, n_ints, n_nodes]
  refine ⟨fun i m => ∃ q : Nat, i = q ∧ q ≤ way.length ∧ m = way.length - q ∧ ∀ i, i < q → (decide ((nodeAt l (way.getD i 0)).st = 1) = true ∧ (i + 1 < way.length → decide ((nodeAt l (way.getD i 0)).upEp = (nodeAt l (way.getD (i + 1) 0)).ep) = true)), ⟨way.length, 0, rfl, Nat.zero_le _, rfl, fun j hj => by omega⟩, ?_⟩
  rintro i m ⟨q, rfl, hq, rfl, ht⟩
  have w1 : IntKind.i64.wrap ((q : Int) + 1) = ((q + 1 : Nat) : Int) := by rw [wrap_id] <;> omega
  rw [w1]
  have place : ∀ j, j < way.length → placeOk (oneC (CV.own (DV.sl 1 (ints way)))) [j] := fun j hj => ⟨by rw [es_sl, ints_length]; exact hj, trivial⟩
  have get : ∀ j (hj : j < way.length), (DV.sl 1 (ints way)).getP [j] = iV way[j] := fun j hj => by
    show (ints way).getD j dfl = _
    rw [getD_ints hj, getD_eq hj]
  have sB : ∀ i, i < way.length → (decide ((nodeAt l (way.getD i 0)).st = 1) = true ∧ (i + 1 < way.length → decide ((nodeAt l (way.getD i 0)).upEp = (nodeAt l (way.getD (i + 1) 0)).ep) = true)) → stepB l way i = true := fun i hi h => by
    unfold stepB
    rw [h.1]
    split
    · rename_i hh; rw [h.2 hh]; rfl
    · rfl
  simp only [Int.toNat_natCast, Nat.mul_one, decide_eq_true_eq (p := (q : Int) < way.length), decide_eq_false_iff_not (p := (q : Int) < way.length), decide_eq_true_eq (p := ((q + 1 : Nat) : Int) < way.length), decide_eq_false_iff_not (p := ((q + 1 : Nat) : Int) < way.length)]
  refine ⟨fun h1 => ?_, fun h1 => ?_⟩
  · have ha : q < way.length := by omega
    obtain ⟨p1, p2⟩ := slotB_iff.1 (slot q ha)
    obtain ⟨hj, e⟩ := nodeAt_eq (slot q ha)
    simp only [get q ha, isI_iV, asI_iV, drop_nodes hj, List.drop_zero, hdD_cons]
    have gq : way.getD q 0 = way[q] := getD_eq ha
    refine ⟨by omega, by omega, place q ha, trivial, p1, p2, by simp, trivial, fun h2 => bS_eq ?_, fun h2 => ⟨fun h3 => ?_, fun h3 => ⟨⟨trivial, trivial⟩, way.length - (q + 1), by omega, q + 1, rfl, by omega, rfl, fun j hj' => ?_⟩⟩⟩
    · rw [wayB_false ha]
      unfold stepB
      rw [gq, e]
      simp at h2
      simp [h2]
    · have hb : q + 1 < way.length := by omega
      have hx := hnx q hb
      have gq1 : way.getD (q + 1) 0 = way[q + 1] := getD_eq hb
      rw [gq, gq1] at hx
      have c := c_l9In hM hok (slot q ha)
      rw [← hx, slot (q + 1) hb] at c
      refine ⟨by omega, by omega, place q ha, trivial, _, c, fun h4 => ⟨⟨trivial, trivial⟩, way.length - (q + 1), by omega, q + 1, rfl, by omega, rfl, fun j hj' => ?_⟩, fun h4 => bS_eq ?_⟩
      · by_cases ej : j = q
        · subst ej
          simp only [Bool.true_and, Bool.and_eq_true] at h4
          refine ⟨?_, fun _ => ?_⟩
          · rw [gq, e]; simpa using h2
          · rw [gq, gq1]
            simp only [decide_eq_true_eq] at h4 ⊢
            exact h4.2.symm
        · exact ht j (by omega)
      · simp only [Bool.true_and] at h4
        cases e1 : decide ((nodeAt l way[q + 1]).st = 1) with
        | false =>
          rw [wayB_false hb]
          unfold stepB
          rw [gq1, e1]; rfl
        | true =>
          rw [e1, Bool.true_and] at h4
          rw [wayB_false ha]
          unfold stepB
          rw [if_pos hb, gq, gq1]
          have : decide ((nodeAt l way[q]).upEp = (nodeAt l way[q + 1]).ep) = false := by
            simp only [decide_eq_false_iff_not] at h4 ⊢
            exact fun h => h4 h.symm
          rw [this, Bool.and_false]
    · by_cases ej : j = q
      · subst ej
        refine ⟨?_, fun h => by omega⟩
        rw [gq, e]; simpa using h2
      · exact ht j (by omega)
  · have : q = way.length := by omega
    subst this
    rw [wayB_all fun i hi => sB i hi (ht i hi)]
    simp only [decide_eq_true_eq (p := (0 : Int) < way.length), decide_eq_false_iff_not (p := (0 : Int) < way.length)]
    refine ⟨fun h2 => ?_, fun h2 => bS_eq ?_⟩
    · have hb : way.length - 1 < way.length := by omega
      have w2 : IntKind.i64.wrap ((way.length : Int) - 1) = ((way.length - 1 : Nat) : Int) := by rw [wrap_id] <;> omega
      obtain ⟨p1, p2⟩ := slotB_iff.1 (slot _ hb)
      obtain ⟨hj, e⟩ := nodeAt_eq (slot _ hb)
      rw [w2]
      simp only [Int.toNat_natCast, get _ hb, isI_iV, asI_iV, drop_nodes hj, List.drop_zero, List.drop_succ_cons, hdD_cons]
      have g1 : way.getD (way.length - 1) 0 = way[way.length - 1] := getD_eq hb
      have g2 : decide (0 < way.length) = true := by simp; omega
      rw [g1, e, g2, Bool.true_and]
      exact ⟨by omega, by omega, place _ hb, trivial, p1, p2, by simp, trivial, fun h3 => bS_eq h3.symm, fun h3 => bS_eq h3.symm⟩
    · have g2 : decide (0 < way.length) = false := by rw [decide_eq_false_iff_not]; omega
      rw [g2]; rfl
theorem c_Alive {l : List Node} (hl : l.length ≤ 1048576) {k : Int} (hk : I64 k) : CallD Try.prog F_impl_Alive [rNs l, iS k] fun r _ => r = bS (aliveB l k) := by
  refine k_impl_Alive ?_
  unfold vc_impl_Alive aliveB
  have hlen := rise_len l l.length k
  obtain ⟨hsl, -⟩ := rise_at l l.length k
  refine ⟨_, c_Rise hl hk, ?_⟩
  generalize rise l l.length k = way at *
  have slot : ∀ i (hi : i < way.length), slotB l way[i] = true := fun i hi => hsl _ (List.getElem_mem hi)
  simp only [nI, n_ints, n_nodes]
  refine ⟨fun i m => ∃ q : Nat, i = q ∧ q ≤ way.length ∧ m = way.length - q ∧ ∀ i, i < q → (decide ((nodeAt l (way.getD i 0)).st = 1) = true ∧ (i + 1 < way.length → decide ((nodeAt l (way.getD i 0)).upEp = (nodeAt l (way.getD (i + 1) 0)).ep) = true)), ⟨way.length, 0, rfl, Nat.zero_le _, rfl, fun j hj => by omega⟩, ?_⟩
  rintro i m ⟨q, rfl, hq, rfl, ht⟩
  have w1 : IntKind.i64.wrap ((q : Int) + 1) = ((q + 1 : Nat) : Int) := by rw [wrap_id] <;> omega
  rw [w1]
  have place : ∀ j, j < way.length → placeOk (oneC (CV.own (DV.sl 1 (ints way)))) [j] := fun j hj => ⟨by rw [es_sl, ints_length]; exact hj, trivial⟩
  have get : ∀ j (hj : j < way.length), (DV.sl 1 (ints way)).getP [j] = iV way[j] := fun j hj => by
    show (ints way).getD j dfl = _
    rw [getD_ints hj, getD_eq hj]
  have sB : ∀ i, i < way.length → (decide ((nodeAt l (way.getD i 0)).st = 1) = true ∧ (i + 1 < way.length → decide ((nodeAt l (way.getD i 0)).upEp = (nodeAt l (way.getD (i + 1) 0)).ep) = true)) → stepB l way i = true := fun i hi h => by
    unfold stepB
    rw [h.1]
    split
    · rename_i hh; rw [h.2 hh]; rfl
    · rfl
  simp only [Int.toNat_natCast, Nat.mul_one, decide_eq_true_eq (p := (q : Int) < way.length), decide_eq_false_iff_not (p := (q : Int) < way.length), decide_eq_true_eq (p := ((q + 1 : Nat) : Int) < way.length), decide_eq_false_iff_not (p := ((q + 1 : Nat) : Int) < way.length)]
  refine ⟨fun h1 => ?_, fun h1 => ?_⟩
  · have ha : q < way.length := by omega
    obtain ⟨p1, p2⟩ := slotB_iff.1 (slot q ha)
    obtain ⟨hj, e⟩ := nodeAt_eq (slot q ha)
    simp only [get q ha, isI_iV, asI_iV, drop_nodes hj, List.drop_zero, List.drop_succ_cons, hdD_cons]
    have gq : way.getD q 0 = way[q] := getD_eq ha
    refine ⟨by omega, by omega, place q ha, trivial, p1, p2, by simp, trivial, fun h2 => bS_eq ?_, fun h2 => ⟨fun h3 => ?_, fun h3 => ⟨⟨trivial, trivial, trivial, trivial⟩, way.length - (q + 1), by omega, q + 1, rfl, by omega, rfl, fun j hj' => ?_⟩⟩⟩
    · rw [wayB_false ha]
      unfold stepB
      rw [gq, e]
      simp at h2
      simp [h2]
    · have hb : q + 1 < way.length := by omega
      obtain ⟨p3, p4⟩ := slotB_iff.1 (slot _ hb)
      obtain ⟨hj2, e2⟩ := nodeAt_eq (slot _ hb)
      have gq1 : way.getD (q + 1) 0 = way[q + 1] := getD_eq hb
      simp only [get (q + 1) hb, isI_iV, asI_iV, drop_nodes hj2, List.drop_zero, List.drop_succ_cons, hdD_cons]
      refine ⟨p1, p2, by simp, trivial, by omega, by omega, place _ hb, trivial, p3, p4, by simp, trivial, fun h4 => bS_eq ?_, fun h4 => ⟨⟨trivial, trivial, trivial, trivial⟩, way.length - (q + 1), by omega, q + 1, rfl, by omega, rfl, fun j hj' => ?_⟩⟩
      · rw [wayB_false ha]
        unfold stepB
        rw [if_pos hb, gq, gq1, e, e2]
        have : decide (l[way[q].toNat].upEp = l[way[q + 1].toNat].ep) = false := by simpa using h4
        rw [this, Bool.and_false]
      · by_cases ej : j = q
        · subst ej
          refine ⟨?_, fun _ => ?_⟩
          · rw [gq, e]; simpa using h2
          · rw [gq, gq1, e, e2]; simpa using h4
        · exact ht j (by omega)
    · by_cases ej : j = q
      · subst ej
        refine ⟨?_, fun h => by omega⟩
        rw [gq, e]; simpa using h2
      · exact ht j (by omega)
  · have : q = way.length := by omega
    subst this
    rw [wayB_all fun i hi => sB i hi (ht i hi)]
    simp only [decide_eq_true_eq (p := (0 : Int) < way.length), decide_eq_false_iff_not (p := (0 : Int) < way.length)]
    refine ⟨fun h2 => ?_, fun h2 => bS_eq ?_⟩
    · have hb : way.length - 1 < way.length := by omega
      have w2 : IntKind.i64.wrap ((way.length : Int) - 1) = ((way.length - 1 : Nat) : Int) := by rw [wrap_id] <;> omega
      obtain ⟨p1, p2⟩ := slotB_iff.1 (slot _ hb)
      obtain ⟨hj, e⟩ := nodeAt_eq (slot _ hb)
      rw [w2]
      simp only [Int.toNat_natCast, get _ hb, isI_iV, asI_iV, drop_nodes hj, List.drop_zero, List.drop_succ_cons, hdD_cons]
      have g1 : way.getD (way.length - 1) 0 = way[way.length - 1] := getD_eq hb
      have g2 : decide (0 < way.length) = true := by simp; omega
      rw [g1, e, g2, Bool.true_and]
      exact ⟨by omega, by omega, place _ hb, trivial, p1, p2, by simp, trivial, fun h3 => bS_eq h3.symm, fun h3 => bS_eq h3.symm⟩
    · have g2 : decide (0 < way.length) = false := by rw [decide_eq_false_iff_not]; omega
      rw [g2]; rfl
def roomB (w : World') (k : Nat) : Bool := decide ((nodeAt w.l k).st = 0) || (decide ((nodeAt w.l k).gen < w.c.gens) && (!aliveB w.l k && !decide ((nodeAt w.l k).st = 3)))
def roomN (w : World') : Int := ((List.range w.l.length).filter (roomB w)).length
theorem room_step {w : World'} {k : Nat} : ((List.range (k + 1)).filter (roomB w)).length = ((List.range k).filter (roomB w)).length + if roomB w k then 1 else 0 := by
  rw [List.range_succ, List.filter_append, List.length_append]
  congr 1
  cases h : roomB w k <;> simp [h]
theorem room_le {w : World'} (k : Nat) : ((List.range k).filter (roomB w)).length ≤ k := by
  have := List.length_filter_le (roomB w) (List.range k)
  simpa using this
end Go.Proofs.Ythmpdfmdhfgaaaa
