/- Contracts of small functions: rooms found by handles; what they own. -/
import Derived.Test.YtghopnjkgelbkaaHS
namespace Go.Proofs.Ytghopnjkgelbkaa
open Go Go.Proofs.Ytghopnjkgelbkaa.DL
set_option maxRecDepth 100000

def handleOk (h : Handle) : Bool := decide (0 ≤ h.slot) && decide (1 ≤ h.gen)
theorem c_HandleOk (h : Handle) : CallD Try.prog F_impl_HandleOk [handleS h] fun r _ => r = bS (handleOk h) := by
  refine k_impl_HandleOk ?_
  unfold vc_impl_HandleOk handleOk
  exact ⟨fun g => ⟨fun g1 => bS_eq (by rw [g, g1]; rfl), fun g1 => bS_eq (by rw [g, g1]; rfl)⟩, fun g => bS_eq (by rw [g]; rfl)⟩
theorem c_HandleOkS (h : Handle) : CallD Try.prog F_spec_HandleOk [handleS h] fun r _ => r = bS (handleOk h) := by
  refine k_spec_HandleOk ?_
  unfold vc_spec_HandleOk handleOk
  exact ⟨fun g => ⟨fun g1 => bS_eq (by rw [g, g1]; rfl), fun g1 => bS_eq (by rw [g, g1]; rfl)⟩, fun g => bS_eq (by rw [g]; rfl)⟩
def refOk (r : Ref) : Bool := handleOk r.h && (decide (0 ≤ r.ep) && decide (0 ≤ r.no))
theorem c_RefOk (r : Ref) : CallD Try.prog F_impl_RefOk [refS r] fun x _ => x = bS (refOk r) := by
  refine k_impl_RefOk ?_
  unfold vc_impl_RefOk refOk
  exact ⟨_, c_HandleOk r.h, fun g => ⟨fun g1 => ⟨fun g2 => bS_eq (by rw [g, g1, g2]; rfl), fun g2 => bS_eq (by rw [g, g1, g2]; rfl)⟩, fun g1 => bS_eq (by rw [g, g1]; rfl)⟩, fun g => bS_eq (by rw [g]; rfl)⟩
theorem c_RefOkS (r : Ref) : CallD Try.prog F_spec_RefOk [refS r] fun x _ => x = bS (refOk r) := by
  refine k_spec_RefOk ?_
  unfold vc_spec_RefOk refOk
  exact ⟨_, c_HandleOkS r.h, fun g => ⟨fun g1 => ⟨fun g2 => bS_eq (by rw [g, g1, g2]; rfl), fun g2 => bS_eq (by rw [g, g1, g2]; rfl)⟩, fun g1 => bS_eq (by rw [g, g1]; rfl)⟩, fun g => bS_eq (by rw [g]; rfl)⟩
theorem placeN_slot {l : List Node} {h : Handle} (g : decide (placeN l h < 0) = false) : slotB l (placeN l h) = true := by
  have g : ¬ placeN l h < 0 := by simpa using g
  unfold placeN at g ⊢
  split
  · split
    · assumption
    · rename_i h1 h2; rw [if_pos h1, if_neg h2] at g; omega
  · rename_i h1; rw [if_neg h1] at g; omega
def findB (w : World') (h : Handle) : Bool := handleOk h && (!decide (placeN w.l h < 0) && aliveB w.l (placeN w.l h))
def findK (w : World') (h : Handle) : Int := if findB w h then placeN w.l h else -1
def findC (w : World') (h : Handle) : Int := if findB w h then 0 else if handleOk h then 2 else 1
abbrev tFind (w : World') (h : Handle) : SV := .tup [.cell (iC (findK w h)), .cell (iC (findC w h))]
theorem find_eq {w : World'} {h : Handle} {a b : Int} (h1 : a = findK w h) (h2 : b = findC w h) : SV.tup [RV.cell (iC a), RV.cell (iC b)] = tFind w h := by rw [h1, h2]
theorem find_slot {w : World'} {h : Handle} (g : (!decide (findC w h = 0)) = false) : slotB w.l (findK w h) = true := by
  have g : findC w h = 0 := by simpa using g
  unfold findC at g
  split at g
  · rename_i hb
    unfold findK
    rw [if_pos hb]
    unfold findB at hb
    simp only [Bool.and_eq_true, Bool.not_eq_true'] at hb
    exact placeN_slot hb.2.1
  · split at g <;> omega
theorem findK_I64 {w : World'} {h : Handle} (hh : h.ok) : I64 (findK w h) := by
  unfold findK
  split
  · exact placeN_I64 hh
  · unfold I64; omega
theorem c_FindRoom {w : World'} (hl : w.l.length ≤ 1048576) {h : Handle} (hh : h.ok) : CallD Try.prog F_impl_FindRoom [rWorld w, handleS h] fun r _ => r = tFind w h := by
  refine k_impl_FindRoom ?_
  unfold vc_impl_FindRoom
  refine ⟨_, c_HandleOk h, fun g => ⟨_, c_PlaceOf (by unfold M63; omega) h, fun g1 => find_eq ?_ ?_, fun g1 => ⟨_, c_Alive hl (placeN_I64 hh), fun g2 => find_eq ?_ ?_, fun g2 => find_eq ?_ ?_⟩⟩, fun g => find_eq ?_ ?_⟩ <;> simp [findK, findC, findB, *]
theorem c_FindRoomS {w : World'} (hl : w.l.length ≤ 1048576) (hok : ∀ n ∈ w.l, n.ok) {h : Handle} (hh : h.ok) : CallD Try.prog F_spec_FindRoom [rWorld w, handleS h] fun r _ => r = tFind w h := by
  refine k_spec_FindRoom ?_
  unfold vc_spec_FindRoom
  refine ⟨_, c_HandleOkS h, fun g => ⟨_, c_PlaceOfS (by unfold M63; omega) h, fun g1 => find_eq ?_ ?_, fun g1 => ⟨_, c_AliveS hl hok (placeN_I64 hh), fun g2 => find_eq ?_ ?_, fun g2 => find_eq ?_ ?_⟩⟩, fun g => find_eq ?_ ?_⟩ <;> simp [findK, findC, findB, *]
def deepN (w : World') (h : Handle) : Int := if findC w h = 0 then (rise w.l w.l.length (findK w h)).length else 0
theorem c_DeepOfRoom {w : World'} (hl : w.l.length ≤ 1048576) {h : Handle} (hh : h.ok) : CallD Try.prog F_impl_DeepOfRoom [rWorld w, handleS h] fun r _ => r = iS (deepN w h) := by
  refine k_impl_DeepOfRoom ?_
  unfold vc_impl_DeepOfRoom deepN
  refine ⟨_, _, c_FindRoom hl hh, fun g => iS_eq ?_, fun g => ⟨_, c_DeepOf hl (findK_I64 hh), iS_eq ?_⟩⟩
  · rw [if_neg (by simpa using g)]
  · rw [if_pos (by simpa using g)]
theorem c_DeepOfRoomS {w : World'} (hl : w.l.length ≤ 1048576) (hok : ∀ n ∈ w.l, n.ok) {h : Handle} (hh : h.ok) : CallD Try.prog F_spec_DeepOfRoom [rWorld w, handleS h] fun r _ => r = iS (deepN w h) := by
  refine k_spec_DeepOfRoom ?_
  unfold vc_spec_DeepOfRoom deepN
  refine ⟨_, _, c_FindRoomS hl hok hh, fun g => iS_eq ?_, fun g => ⟨_, c_DeepOfS hl (findK_I64 hh), iS_eq ?_⟩⟩
  · rw [if_neg (by simpa using g)]
  · rw [if_pos (by simpa using g)]
def handleAt (l : List Node) (k : Int) : Handle := if slotB l k then ⟨k, (nodeAt l k).gen⟩ else ⟨0, 0⟩
theorem handleS_eq {a b : Int} {h : Handle} (e : h = ⟨a, b⟩) : aS [iC a, iC b] = handleS h := by rw [e]
theorem c_HandleAt {l : List Node} (hl : l.length ≤ M63) (k : Int) : CallD Try.prog F_impl_HandleAt [rNs l, iS k] fun r _ => r = handleS (handleAt l k) := by
  refine k_impl_HandleAt ?_
  unfold vc_impl_HandleAt
  refine ⟨_, c_isSlot hl k, fun g => ?_, fun g => handleS_eq (by unfold handleAt; rw [g]; rfl)⟩
  obtain ⟨q1, q2⟩ := slotB_iff.1 g
  obtain ⟨hi, e⟩ := nodeAt_eq g
  simp only [nI, n_nodes, drop_nodes hi, List.drop_zero, List.drop_succ_cons, hdD_cons, isI_iV, asI_iV]
  exact ⟨q1, q2, by simp, trivial, handleS_eq (by unfold handleAt; rw [if_pos g, e])⟩
theorem c_HandleAtS {l : List Node} (hl : l.length ≤ M63) (k : Int) : CallD Try.prog F_spec_HandleAt [rNs l, iS k] fun r _ => r = handleS (handleAt l k) := by
  unfold M63 at hl
  refine k_spec_HandleAt ?_
  unfold vc_spec_HandleAt
  have e : within k 0 ((l.length : Int) - 1) = slotB l k := by
    rw [Bool.eq_iff_iff, within_iff, slotB_iff]; omega
  have c := c_l1In k 0 ((l.length : Int) - 1)
  rw [e] at c
  simp only [nI, n_nodes]
  rw [wrap_id (n := (l.length : Int) - 1) (by omega) (by omega)]
  refine ⟨_, c, fun g => ?_, fun g => handleS_eq (by unfold handleAt; rw [g]; rfl)⟩
  obtain ⟨q1, q2⟩ := slotB_iff.1 g
  obtain ⟨hi, e⟩ := nodeAt_eq g
  simp only [drop_nodes hi, List.drop_zero, List.drop_succ_cons, hdD_cons, isI_iV, asI_iV]
  exact ⟨q1, q2, by simp, trivial, handleS_eq (by unfold handleAt; rw [if_pos g, e])⟩
def upB (w : World') (h : Handle) : Bool := decide (findC w h = 0) && !decide ((nodeAt w.l (findK w h)).up = 0)
def upH (w : World') (h : Handle) : Handle := if upB w h then handleAt w.l (IntKind.i64.wrap ((nodeAt w.l (findK w h)).up - 1)) else ⟨0, 0⟩
abbrev tUp (w : World') (h : Handle) : SV := .tup [.agg [iC (upH w h).slot, iC (upH w h).gen], .cell (bC (upB w h))]
theorem up_no {w : World'} {h : Handle} (g : upB w h = false) : SV.tup [RV.agg [iC 0, iC 0], RV.cell (bC false)] = tUp w h := by
  simp only [tUp, upH, g, Bool.false_eq_true, if_false]
theorem up_yes {w : World'} {h : Handle} (g : upB w h = true) {x : Handle} (e : x = handleAt w.l (IntKind.i64.wrap ((nodeAt w.l (findK w h)).up - 1))) : SV.tup [RV.agg [iC x.slot, iC x.gen], RV.cell (bC true)] = tUp w h := by
  simp only [tUp, upH, g, if_true, e]
theorem c_UpOf {w : World'} (hl : w.l.length ≤ 1048576) {h : Handle} (hh : h.ok) : CallD Try.prog F_impl_UpOf [rWorld w, handleS h] fun r _ => r = tUp w h := by
  refine k_impl_UpOf ?_
  unfold vc_impl_UpOf
  refine ⟨_, _, c_FindRoom hl hh, fun g => up_no ?_, fun g => ?_⟩
  · unfold upB; simp at g; simp [g]
  have hs := find_slot g
  obtain ⟨q1, q2⟩ := slotB_iff.1 hs
  obtain ⟨hi, e⟩ := nodeAt_eq hs
  simp only [nI, n_nodes, drop_nodes hi, List.drop_zero, List.drop_succ_cons, hdD_cons, isI_iV, asI_iV]
  rw [← e]
  refine ⟨q1, q2, by simp, trivial, fun g1 => up_no ?_, fun g1 => ⟨q1, q2, by simp, trivial, _, _, c_HandleAt (by unfold M63; omega) _, up_yes ?_ rfl⟩⟩
  · unfold upB; rw [g1]; simp
  · unfold upB; rw [g1]; simp at g; simp [g]
theorem c_UpOfS {w : World'} (hl : w.l.length ≤ 1048576) (hok : ∀ n ∈ w.l, n.ok) {h : Handle} (hh : h.ok) : CallD Try.prog F_spec_UpOf [rWorld w, handleS h] fun r _ => r = tUp w h := by
  refine k_spec_UpOf ?_
  unfold vc_spec_UpOf
  refine ⟨_, _, c_FindRoomS hl hok hh, fun g => up_no ?_, fun g => ?_⟩
  · unfold upB; simp at g; simp [g]
  have hs := find_slot g
  obtain ⟨q1, q2⟩ := slotB_iff.1 hs
  obtain ⟨hi, e⟩ := nodeAt_eq hs
  simp only [nI, n_nodes, drop_nodes hi, List.drop_zero, List.drop_succ_cons, hdD_cons, isI_iV, asI_iV]
  rw [← e]
  refine ⟨q1, q2, by simp, trivial, fun g1 => up_no ?_, fun g1 => ⟨q1, q2, by simp, trivial, _, _, c_HandleAtS (by unfold M63; omega) _, up_yes ?_ rfl⟩⟩
  · unfold upB; rw [g1]; simp
  · unfold upB; rw [g1]; simp at g; simp [g]
def roomsL (l : List Node) (k : Nat) : List Int := ((List.range k).filter fun i : Nat => aliveB l (i : Int)).map fun i : Nat => (i : Int)
theorem rooms_step {l : List Node} {k : Nat} : roomsL l (k + 1) = roomsL l k ++ if aliveB l (k : Int) then [(k : Int)] else [] := by
  unfold roomsL
  rw [List.range_succ, List.filter_append, List.map_append]
  congr 1
  cases h : aliveB l (k : Int) <;> simp [h]
theorem rooms_le (l : List Node) (k : Nat) : (roomsL l k).length ≤ k := by
  have := List.length_filter_le (fun i : Nat => aliveB l (i : Int)) (List.range k)
  simpa [roomsL] using this
theorem c_RoomsIn {w : World'} (hl : w.l.length ≤ 1048576) : CallD Try.prog F_impl_RoomsIn [rWorld w] fun r _ => r = oI (roomsL w.l w.l.length) := by
  refine k_impl_RoomsIn ?_
  unfold vc_impl_RoomsIn
  simp only [nI, n_nodes]
  refine ⟨fun es i m => ∃ k : Nat, i = k ∧ k ≤ w.l.length ∧ m = w.l.length - k ∧ es = ints (roomsL w.l k), ⟨_, 0, rfl, Nat.zero_le _, rfl, rfl⟩, ?_⟩
  rintro es i m ⟨k, rfl, hk, rfl, rfl⟩
  have hle := rooms_le w.l k
  have w1 : IntKind.i64.wrap ((k : Int) + 1) = ((k + 1 : Nat) : Int) := by rw [wrap_id] <;> omega
  rw [w1]
  simp only [n_one, ints_length, List.length_singleton, decide_eq_true_eq (p := (k : Int) < w.l.length), decide_eq_false_iff_not (p := (k : Int) < w.l.length), ints_snoc]
  refine ⟨fun h1 => ⟨_, c_Alive hl (by unfold I64; omega), fun g => ⟨by omega, by omega, ⟨trivial, trivial⟩, w.l.length - (k + 1), by omega, k + 1, rfl, by omega, rfl, ?_⟩, fun g => ⟨⟨trivial, trivial⟩, w.l.length - (k + 1), by omega, k + 1, rfl, by omega, rfl, ?_⟩⟩, fun h1 => ?_⟩
  · rw [rooms_step, if_pos g]
  · rw [rooms_step, g]; simp
  · have : k = w.l.length := by omega
    subst this; rfl
theorem c_RoomsInS {w : World'} (hl : w.l.length ≤ 1048576) (hok : ∀ n ∈ w.l, n.ok) : CallD Try.prog F_spec_RoomsIn [rWorld w] fun r _ => r = oI (roomsL w.l w.l.length) := by
  refine k_spec_RoomsIn ?_
  unfold vc_spec_RoomsIn
  simp only [nI, n_nodes]
  refine ⟨fun es i m => ∃ k : Nat, i = k ∧ k ≤ w.l.length ∧ m = w.l.length - k ∧ es = ints (roomsL w.l k), ⟨_, 0, rfl, Nat.zero_le _, rfl, rfl⟩, ?_⟩
  rintro es i m ⟨k, rfl, hk, rfl, rfl⟩
  have hle := rooms_le w.l k
  have w1 : IntKind.i64.wrap ((k : Int) + 1) = ((k + 1 : Nat) : Int) := by rw [wrap_id] <;> omega
  rw [w1]
  simp only [n_one, ints_length, List.length_singleton, decide_eq_true_eq (p := (k : Int) < w.l.length), decide_eq_false_iff_not (p := (k : Int) < w.l.length), ints_snoc]
  refine ⟨fun h1 => ⟨_, c_AliveS hl hok (by unfold I64; omega), fun g => ⟨by omega, by omega, trivial, w.l.length - (k + 1), by omega, k + 1, rfl, by omega, rfl, ?_⟩, fun g => ⟨trivial, w.l.length - (k + 1), by omega, k + 1, rfl, by omega, rfl, ?_⟩⟩, fun h1 => ?_⟩
  · rw [rooms_step, if_pos g]
  · rw [rooms_step, g]; simp
  · have : k = w.l.length := by omega
    subst this; rfl
def ownedL (p : Pool) (s : Int) (k : Nat) : List Int := ((List.range k).filter fun i : Nat => decide (p.st.getD i 0 = 1) && decide (p.own.getD i 0 = s)).map fun i : Nat => (i : Int)
theorem owned_step {p : Pool} {s : Int} {k : Nat} : ownedL p s (k + 1) = ownedL p s k ++ if (decide (p.st.getD k 0 = 1) && decide (p.own.getD k 0 = s)) then [(k : Int)] else [] := by
  unfold ownedL
  rw [List.range_succ, List.filter_append, List.map_append]
  congr 1
  rw [List.filter_cons, List.filter_nil]
  split <;> rfl
theorem owned_le (p : Pool) (s : Int) (k : Nat) : (ownedL p s k).length ≤ k := by
  have := List.length_filter_le (fun i : Nat => decide (p.st.getD i 0 = 1) && decide (p.own.getD i 0 = s)) (List.range k)
  simpa [ownedL] using this
def poolN (p : Pool) : Nat := min p.st.length p.own.length
theorem c_OwnedBy {p : Pool} (h1 : p.st.length ≤ 1048576) (_ : p.own.length ≤ 1048576) (s : Int) : CallD Try.prog F_impl_OwnedBy [rPool p, iS s] fun r _ => r = oI (ownedL p s (poolN p)) := by
  refine k_impl_OwnedBy ?_
  unfold vc_impl_OwnedBy
  simp only [nI, n_ints, Bool.false_eq_true, if_false]
  have em : (if (p.own.length : Int) < p.st.length then (p.own.length : Int) else p.st.length) = ((poolN p : Nat) : Int) := by unfold poolN; split <;> omega
  simp only [em]
  have hM : poolN p ≤ p.st.length ∧ poolN p ≤ p.own.length := by unfold poolN; omega
  refine ⟨fun es i m => ∃ k : Nat, i = k ∧ k ≤ poolN p ∧ m = poolN p - k ∧ es = ints (ownedL p s k), ⟨_, 0, rfl, Nat.zero_le _, rfl, rfl⟩, ?_⟩
  rintro es i m ⟨k, rfl, hk, rfl, rfl⟩
  have hle := owned_le p s k
  have w1 : IntKind.i64.wrap ((k : Int) + 1) = ((k + 1 : Nat) : Int) := by rw [wrap_id] <;> omega
  rw [w1]
  simp only [Int.toNat_natCast, Nat.mul_one, n_one, ints_length, List.length_singleton, decide_eq_true_eq (p := (k : Int) < (poolN p : Nat)), decide_eq_false_iff_not (p := (k : Int) < (poolN p : Nat)), ints_snoc]
  refine ⟨fun g0 => ?_, fun g0 => ?_⟩
  · have ha : k < p.st.length := by omega
    have hb : k < p.own.length := by omega
    simp only [hd_ints ha, hd_ints hb, isI_iV, asI_iV]
    refine ⟨by omega, by omega, by simp [ints]; omega, trivial, fun g => ⟨by omega, by omega, by simp [ints]; omega, trivial,
      fun g' => ⟨by omega, by omega, ⟨trivial, trivial, trivial⟩, poolN p - (k + 1), by omega, k + 1, rfl, by omega, rfl, ?_⟩, fun g' => ⟨⟨trivial, trivial, trivial⟩, poolN p - (k + 1), by omega, k + 1, rfl, by omega, rfl, ?_⟩⟩,
      fun g => ⟨⟨trivial, trivial, trivial⟩, poolN p - (k + 1), by omega, k + 1, rfl, by omega, rfl, ?_⟩⟩
    · rw [owned_step, g, g']; rfl
    · rw [owned_step, g']; simp
    · rw [owned_step, g]; simp
  · have : k = poolN p := by omega
    subst this; rfl
theorem c_OwnedByS {p : Pool} (h1 : p.st.length ≤ 1048576) (_ : p.own.length ≤ 1048576) (s : Int) : CallD Try.prog F_spec_OwnedBy [rPool p, iS s] fun r _ => r = oI (ownedL p s (poolN p)) := by
  refine k_spec_OwnedBy ?_
  unfold vc_spec_OwnedBy
  simp only [nI, n_ints]
  have hM : poolN p ≤ p.st.length ∧ poolN p ≤ p.own.length ∧ (poolN p = p.st.length ∨ poolN p = p.own.length) := by unfold poolN; omega
  refine ⟨fun es i m => ∃ k : Nat, i = k ∧ k ≤ poolN p ∧ m = poolN p - k ∧ es = ints (ownedL p s k), ⟨_, 0, rfl, Nat.zero_le _, rfl, rfl⟩, ?_⟩
  rintro es i m ⟨k, rfl, hk, rfl, rfl⟩
  have hle := owned_le p s k
  have w1 : IntKind.i64.wrap ((k : Int) + 1) = ((k + 1 : Nat) : Int) := by rw [wrap_id] <;> omega
  rw [w1]
  simp only [Int.toNat_natCast, Nat.mul_one, n_one, ints_length, List.length_singleton, decide_eq_true_eq (p := (k : Int) < p.st.length), decide_eq_false_iff_not (p := (k : Int) < p.st.length),
    decide_eq_true_eq (p := (k : Int) < p.own.length), decide_eq_false_iff_not (p := (k : Int) < p.own.length), ints_snoc]
  have out : ¬ k < poolN p → oneC (CV.own (DV.sl 1 (ints (ownedL p s k)))) = oI (ownedL p s (poolN p)) := fun h => by
    have : k = poolN p := by omega
    subst this; rfl
  refine ⟨fun g0 => ⟨fun g1 => ?_, fun g1 => out (by omega)⟩, fun g0 => out (by omega)⟩
  have ha : k < p.st.length := by omega
  have hb : k < p.own.length := by omega
  simp only [hd_ints ha, hd_ints hb, isI_iV, asI_iV]
  refine ⟨by omega, by omega, by simp [ints]; omega, trivial, fun g => ⟨by omega, by omega, by simp [ints]; omega, trivial,
    fun g' => ⟨by omega, by omega, ⟨trivial, trivial⟩, poolN p - (k + 1), by omega, k + 1, rfl, by omega, rfl, ?_⟩, fun g' => ⟨⟨trivial, trivial⟩, poolN p - (k + 1), by omega, k + 1, rfl, by omega, rfl, ?_⟩⟩,
    fun g => ⟨⟨trivial, trivial⟩, poolN p - (k + 1), by omega, k + 1, rfl, by omega, rfl, ?_⟩⟩
  · rw [owned_step, g, g']; rfl
  · rw [owned_step, g']; simp
  · rw [owned_step, g]; simp
def sumW (f : Nat → Int) : Nat → Int
  | 0 => 0
  | k + 1 => IntKind.i64.wrap (sumW f k + f k)
def chunksN (w : World') : Int := sumW (fun i => (ownedL w.p ((roomsL w.l w.l.length).getD i 0) (poolN w.p)).length) (roomsL w.l w.l.length).length
theorem c_ChunksIn {w : World'} (hl : w.l.length ≤ 1048576) (h1 : w.p.st.length ≤ 1048576) (h2 : w.p.own.length ≤ 1048576) : CallD Try.prog F_impl_ChunksIn [rWorld w] fun r _ => r = iS (chunksN w) := by
  refine k_impl_ChunksIn ?_
  unfold vc_impl_ChunksIn chunksN
  have hle := rooms_le w.l w.l.length
  refine ⟨_, c_RoomsIn hl, ?_⟩
  generalize roomsL w.l w.l.length = rs at *
  simp only [nI, n_ints]
  refine ⟨fun n i m => ∃ k : Nat, i = k ∧ k ≤ rs.length ∧ m = rs.length - k ∧ n = sumW (fun i => (ownedL w.p (rs.getD i 0) (poolN w.p)).length) k, ⟨_, 0, rfl, Nat.zero_le _, rfl, rfl⟩, ?_⟩
  rintro n i m ⟨k, rfl, hk, rfl, rfl⟩
  have w1 : IntKind.i64.wrap ((k : Int) + 1) = ((k + 1 : Nat) : Int) := by rw [wrap_id] <;> omega
  rw [w1]
  simp only [Int.toNat_natCast, Nat.mul_one, decide_eq_true_eq, decide_eq_false_iff_not]
  refine ⟨fun g => ?_, fun g => iS_eq ?_⟩
  · have ha : k < rs.length := by omega
    have e : (DV.sl 1 (ints rs)).getP [k] = iV (rs.getD k 0) := getD_ints ha
    simp only [e, isI_iV, asI_iV]
    exact ⟨by omega, by omega, ⟨by rw [es_sl, ints_length]; exact ha, trivial⟩, trivial, _, c_OwnedBy h1 h2 _, ⟨trivial, trivial, trivial⟩, rs.length - (k + 1), by omega, k + 1, rfl, by omega, rfl, by rw [n_ints]; rfl⟩
  · have : k = rs.length := by omega
    subst this; rfl
theorem c_ChunksInS {w : World'} (hl : w.l.length ≤ 1048576) (hok : ∀ n ∈ w.l, n.ok) (h1 : w.p.st.length ≤ 1048576) (h2 : w.p.own.length ≤ 1048576) : CallD Try.prog F_spec_ChunksIn [rWorld w] fun r _ => r = iS (chunksN w) := by
  refine k_spec_ChunksIn ?_
  unfold vc_spec_ChunksIn chunksN
  have hle := rooms_le w.l w.l.length
  refine ⟨_, c_RoomsInS hl hok, ?_⟩
  generalize roomsL w.l w.l.length = rs at *
  simp only [nI, n_ints]
  refine ⟨fun n i m => ∃ k : Nat, i = k ∧ k ≤ rs.length ∧ m = rs.length - k ∧ n = sumW (fun i => (ownedL w.p (rs.getD i 0) (poolN w.p)).length) k, ⟨_, 0, rfl, Nat.zero_le _, rfl, rfl⟩, ?_⟩
  rintro n i m ⟨k, rfl, hk, rfl, rfl⟩
  have w1 : IntKind.i64.wrap ((k : Int) + 1) = ((k + 1 : Nat) : Int) := by rw [wrap_id] <;> omega
  rw [w1]
  simp only [Int.toNat_natCast, Nat.mul_one, decide_eq_true_eq, decide_eq_false_iff_not]
  refine ⟨fun g => ?_, fun g => iS_eq ?_⟩
  · have ha : k < rs.length := by omega
    have e : (DV.sl 1 (ints rs)).getP [k] = iV (rs.getD k 0) := getD_ints ha
    simp only [e, isI_iV, asI_iV]
    exact ⟨by omega, by omega, ⟨by rw [es_sl, ints_length]; exact ha, trivial⟩, trivial, _, c_OwnedByS h1 h2 _, ⟨trivial, trivial⟩, rs.length - (k + 1), by omega, k + 1, rfl, by omega, rfl, by rw [n_ints]; rfl⟩
  · have : k = rs.length := by omega
    subst this; rfl
def fitsB (w : World') (n : Int) : Bool := decide (0 ≤ n) && (decide (n ≤ w.c.chunks) && decide (chunksN w ≤ IntKind.i64.wrap (w.c.chunks - n)))
theorem c_FitsMore {w : World'} (hl : w.l.length ≤ 1048576) (h1 : w.p.st.length ≤ 1048576) (h2 : w.p.own.length ≤ 1048576) (n : Int) : CallD Try.prog F_impl_FitsMore [rWorld w, iS n] fun r _ => r = bS (fitsB w n) := by
  refine k_impl_FitsMore ?_
  unfold vc_impl_FitsMore fitsB
  exact ⟨fun g => ⟨fun g1 => ⟨_, c_ChunksIn hl h1 h2, fun g2 => bS_eq (by rw [g, g1, g2]; rfl), fun g2 => bS_eq (by rw [g, g1, g2]; rfl)⟩, fun g1 => bS_eq (by rw [g, g1]; rfl)⟩, fun g => bS_eq (by rw [g]; rfl)⟩
theorem c_FitsMoreS {w : World'} (hl : w.l.length ≤ 1048576) (hok : ∀ n ∈ w.l, n.ok) (h1 : w.p.st.length ≤ 1048576) (h2 : w.p.own.length ≤ 1048576) (n : Int) : CallD Try.prog F_spec_FitsMore [rWorld w, iS n] fun r _ => r = bS (fitsB w n) := by
  refine k_spec_FitsMore ?_
  unfold vc_spec_FitsMore fitsB
  exact ⟨fun g => ⟨fun g1 => ⟨_, c_ChunksInS hl hok h1 h2, fun g2 => bS_eq (by rw [g, g1, g2]; rfl), fun g2 => bS_eq (by rw [g, g1, g2]; rfl)⟩, fun g1 => bS_eq (by rw [g, g1]; rfl)⟩, fun g => bS_eq (by rw [g]; rfl)⟩
def thereB (n : Node) (r : Ref) : Bool := decide (n.st = 1) && (decide (n.ep = r.ep) && within r.no 0 (IntKind.i64.wrap (n.things.length - 1)))
def thingR (n : Node) (r : Ref) : Thing := if thereB n r then n.things.getD r.no.toNat ⟨0, 0, 0⟩ else ⟨0, 0, 0⟩
abbrev tThing (n : Node) (r : Ref) : SV := .tup [.agg [iC (thingR n r).pos, iC (thingR n r).len, iC (thingR n r).run], .cell (bC (thereB n r))]
theorem thing_no {n : Node} {r : Ref} (h : thereB n r = false) : SV.tup [RV.agg [iC 0, iC 0, iC 0], RV.cell (bC false)] = tThing n r := by
  simp only [tThing, thingR, h, Bool.false_eq_true, if_false]
theorem thing_yes {n : Node} {r : Ref} (h : thereB n r = true) (hi : r.no.toNat < n.things.length) : SV.tup [RV.agg [iC n.things[r.no.toNat].pos, iC n.things[r.no.toNat].len, iC n.things[r.no.toNat].run], RV.cell (bC true)] = tThing n r := by
  have e : n.things.getD r.no.toNat ⟨0, 0, 0⟩ = n.things[r.no.toNat] := by simp [List.getD_eq_getElem?_getD, hi]
  simp only [tThing, thingR, h, if_true, e]
theorem c_ThingOf {n : Node} {r : Ref} (hl : n.things.length ≤ M63) : CallD Try.prog F_impl_ThingOf [rNode n, refS r] fun x _ => x = tThing n r := by
  refine k_impl_ThingOf ?_
  unfold vc_impl_ThingOf
  unfold M63 at hl
  simp only [nI, n_things]
  refine ⟨fun g => thing_no ?_, fun g1 => ⟨fun g => thing_no ?_, fun g2 => ⟨_, c_within _ _ _, fun g3 => ?_, fun g => thing_no ?_⟩⟩⟩
  · have : decide (n.st = 1) = false := by simpa using g
    simp only [thereB, this, Bool.false_and]
  · have : decide (n.ep = r.ep) = false := by simpa using g
    simp only [thereB, this, Bool.false_and, Bool.and_false]
  · have e : thereB n r = true := by
      have e1 : decide (n.st = 1) = true := by simpa using g1
      have e2 : decide (n.ep = r.ep) = true := by simpa using g2
      simp only [thereB, e1, e2, g3, Bool.and_self]
    have g4 := g3
    simp only [within, Bool.and_eq_true, decide_eq_true_eq, wrap_id (n := (n.things.length : Int) - 1) (by omega) (by omega)] at g4
    have hi : r.no.toNat < n.things.length := by omega
    simp only [drop_things hi, hdD_cons, List.tail_cons, isI_iV, asI_iV]
    exact ⟨by omega, by omega, by simp, trivial, trivial, trivial, thing_yes e hi⟩
  · simp only [thereB, g, Bool.and_false]
theorem c_ThingOfS {n : Node} {r : Ref} (hl : n.things.length ≤ M63) : CallD Try.prog F_spec_ThingOf [rNode n, refS r] fun x _ => x = tThing n r := by
  refine k_spec_ThingOf ?_
  unfold vc_spec_ThingOf
  unfold M63 at hl
  simp only [nI, n_things]
  refine ⟨fun g => thing_no ?_, fun g1 => ⟨fun g => thing_no ?_, fun g2 => ⟨_, c_l1In _ _ _, fun g3 => ?_, fun g => thing_no ?_⟩⟩⟩
  · have : decide (n.st = 1) = false := by simpa using g
    simp only [thereB, this, Bool.false_and]
  · have : decide (n.ep = r.ep) = false := by simpa using g
    simp only [thereB, this, Bool.false_and, Bool.and_false]
  · have e : thereB n r = true := by
      have e1 : decide (n.st = 1) = true := by simpa using g1
      have e2 : decide (n.ep = r.ep) = true := by simpa using g2
      simp only [thereB, e1, e2, g3, Bool.and_self]
    have g4 := g3
    simp only [within, Bool.and_eq_true, decide_eq_true_eq, wrap_id (n := (n.things.length : Int) - 1) (by omega) (by omega)] at g4
    have hi : r.no.toNat < n.things.length := by omega
    simp only [drop_things hi, hdD_cons, List.tail_cons, isI_iV, asI_iV]
    exact ⟨by omega, by omega, by simp, trivial, trivial, trivial, thing_yes e hi⟩
  · simp only [thereB, g, Bool.and_false]
def ftB (w : World') (r : Ref) : Bool := refOk r && (decide (findC w r.h = 0) && thereB (nodeAt w.l (findK w r.h)) r)
def ftK (w : World') (r : Ref) : Int := if ftB w r then findK w r.h else -1
def ftT (w : World') (r : Ref) : Thing := if ftB w r then thingR (nodeAt w.l (findK w r.h)) r else ⟨0, 0, 0⟩
def ftC (w : World') (r : Ref) : Int := if refOk r then (if findC w r.h = 0 then (if thereB (nodeAt w.l (findK w r.h)) r then 0 else 2) else findC w r.h) else 1
abbrev tFT (w : World') (r : Ref) : SV := .tup [.cell (iC (ftK w r)), .agg [iC (ftT w r).pos, iC (ftT w r).len, iC (ftT w r).run], .cell (iC (ftC w r))]
theorem ft_no {w : World'} {r : Ref} {c : Int} (h : ftB w r = false) (hc : c = ftC w r) : SV.tup [RV.cell (iC (-1)), RV.agg [iC 0, iC 0, iC 0], RV.cell (iC c)] = tFT w r := by
  simp only [tFT, ftK, ftT, h, hc, Bool.false_eq_true, if_false]
theorem ft_yes {w : World'} {r : Ref} (h : ftB w r = true) {k : Int} {t : Thing} (hk : k = findK w r.h) (ht : t = thingR (nodeAt w.l (findK w r.h)) r) (hc : (0 : Int) = ftC w r) : SV.tup [RV.cell (iC k), RV.agg [iC t.pos, iC t.len, iC t.run], RV.cell (iC 0)] = tFT w r := by
  simp only [tFT, ftK, ftT, h, if_true, hk, ht, ← hc]
theorem c_FindThing {w : World'} (hl : w.l.length ≤ 1048576) (hok : ∀ n ∈ w.l, n.ok) {r : Ref} (hr : r.ok) : CallD Try.prog F_impl_FindThing [rWorld w, refS r] fun x _ => x = tFT w r := by
  refine k_impl_FindThing ?_
  unfold vc_impl_FindThing
  refine ⟨_, c_RefOk r, fun g => ⟨_, _, c_FindRoom hl hr.1, fun g1 => ft_no ?_ ?_, fun g1 => ?_⟩, fun g => ft_no ?_ ?_⟩
  · simp at g1; simp [ftB, g1]
  · simp at g1; simp [ftC, g, g1]
  · have hs := find_slot g1
    obtain ⟨q1, q2⟩ := slotB_iff.1 hs
    obtain ⟨hi, e⟩ := nodeAt_eq hs
    have hn := (hok _ (List.getElem_mem hi)).2.2.2.2.2.2.2.2.2.2.2.1.1
    simp only [nI, n_nodes, drop_nodes hi, List.tail_cons, hdD_cons, isI_iV, asI_iV, isL_sl, es_sl]
    have c := c_ThingOf (r := r) hn
    simp only [← e] at *
    refine ⟨q1, q2, by simp, trivial, trivial, trivial, trivial, trivial, trivial, trivial, trivial, trivial, trivial, trivial, trivial, trivial, _, _, _, _, c, fun g2 => ft_yes ?_ rfl rfl ?_, fun g2 => ft_no ?_ ?_⟩ <;> simp at g1 <;> simp [ftB, ftC, g, g1, g2]
  · simp [ftB, g]
  · simp [ftC, g]
theorem c_FindThingS {w : World'} (hl : w.l.length ≤ 1048576) (hok : ∀ n ∈ w.l, n.ok) {r : Ref} (hr : r.ok) : CallD Try.prog F_spec_FindThing [rWorld w, refS r] fun x _ => x = tFT w r := by
  refine k_spec_FindThing ?_
  unfold vc_spec_FindThing
  refine ⟨_, c_RefOkS r, fun g => ⟨_, _, c_FindRoomS hl hok hr.1, fun g1 => ft_no ?_ ?_, fun g1 => ?_⟩, fun g => ft_no ?_ ?_⟩
  · simp at g1; simp [ftB, g1]
  · simp at g1; simp [ftC, g, g1]
  · have hs := find_slot g1
    obtain ⟨q1, q2⟩ := slotB_iff.1 hs
    obtain ⟨hi, e⟩ := nodeAt_eq hs
    have hn := (hok _ (List.getElem_mem hi)).2.2.2.2.2.2.2.2.2.2.2.1.1
    simp only [nI, n_nodes, drop_nodes hi, List.tail_cons, hdD_cons, isI_iV, asI_iV, isL_sl, es_sl]
    have c := c_ThingOfS (r := r) hn
    simp only [← e] at *
    refine ⟨q1, q2, by simp, trivial, trivial, trivial, trivial, trivial, trivial, trivial, trivial, trivial, trivial, trivial, trivial, trivial, _, _, _, _, c, fun g2 => ft_yes ?_ rfl rfl ?_, fun g2 => ft_no ?_ ?_⟩ <;> simp at g1 <;> simp [ftB, ftC, g, g1, g2]
  · simp [ftB, g]
  · simp [ftC, g]
end Go.Proofs.Ytghopnjkgelbkaa
