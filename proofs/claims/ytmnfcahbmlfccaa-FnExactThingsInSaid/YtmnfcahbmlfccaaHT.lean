/- Contracts of small functions: rooms found by handles; what they own. -/
import Derived.Test.YtmnfcahbmlfccaaHRS
import Derived.Test.YtmnfcahbmlfccaaVHT
namespace Go.Proofs.Ytmnfcahbmlfccaa
open Go Go.Proofs.Ytmnfcahbmlfccaa.DL
set_option maxRecDepth 100000

def handleOk (h : Handle) : Bool := decide (0 ≤ h.slot) && decide (1 ≤ h.gen)
theorem c_HandleOk (h : Handle) : CallD Try.prog F_impl_HandleOk [handleS h] fun r _ => r = bS (handleOk h) := by
  refine k_impl_HandleOk ?_
  unfold vc_impl_HandleOk handleOk
  exact ⟨fun g => ⟨fun g1 => bS_eq (by rw [g, g1]; rfl), fun g1 => bS_eq (by rw [g, g1]; rfl)⟩, fun g => bS_eq (by rw [g]; rfl)⟩
theorem c_HandleOkS (h : Handle) : CallD Try.prog F_spec_HandleOk [handleS h] fun r _ => r = bS (handleOk h) := by
  refine k_spec_HandleOk ?_
  unfold vc_spec_HandleOk handleOk
  exact ⟨fun g => ⟨fun g1 => bS_eq (by rw [g, g1]; rfl), fun g1 => bS_eq (by rw [g, g1]; rfl)⟩, fun g => bS_eq (by rw [g]; rfl)⟩
def refOk (r : Ref) : Bool := handleOk r.h && (decide (0 ≤ r.ep) && decide (0 ≤ r.no))
theorem placeN_slot {l : List Node} {h : Handle} (g : decide (placeN l h < 0) = false) : slotB l (placeN l h) = true := by
  have g : ¬ placeN l h < 0 := by simpa using g
  unfold placeN at g ⊢
  split
  · split
    · assumption
    · rename_i h1 h2; rw [if_pos h1, if_neg h2] at g; omega
  · rename_i h1; rw [if_neg h1] at g; omega
def findB (w : World') (h : Handle) : Bool := handleOk h && (!decide (placeN w.l h < 0) && aliveB w.l (placeN w.l h))
def findK (w : World') (h : Handle) : Int := if findB w h then placeN w.l h else -1
def findC (w : World') (h : Handle) : Int := if findB w h then 0 else if handleOk h then 2 else 1
abbrev tFind (w : World') (h : Handle) : SV := .tup [.cell (iC (findK w h)), .cell (iC (findC w h))]
theorem find_eq {w : World'} {h : Handle} {a b : Int} (h1 : a = findK w h) (h2 : b = findC w h) : SV.tup [RV.cell (iC a), RV.cell (iC b)] = tFind w h := by rw [h1, h2]
theorem find_slot {w : World'} {h : Handle} (g : (!decide (findC w h = 0)) = false) : slotB w.l (findK w h) = true := by
  have g : findC w h = 0 := by simpa using g
  unfold findC at g
  split at g
  · rename_i hb
    unfold findK
    rw [if_pos hb]
    unfold findB at hb
    simp only [Bool.and_eq_true, Bool.not_eq_true'] at hb
    exact placeN_slot hb.2.1
  · split at g <;> omega
theorem findK_I64 {w : World'} {h : Handle} (hh : h.ok) : I64 (findK w h) := by
  unfold findK
  split
  · exact placeN_I64 hh
  · unfold I64; omega
theorem c_FindRoom {w : World'} (hl : w.l.length ≤ 1048576) {h : Handle} (hh : h.ok) : CallD Try.prog F_impl_FindRoom [rWorld w, handleS h] fun r _ => r = tFind w h := by
  refine k_impl_FindRoom ?_
  unfold vc_impl_FindRoom
  refine ⟨_, c_HandleOk h, fun g => ⟨_, c_PlaceOf (by unfold M63; omega) h, fun g1 => find_eq ?_ ?_, fun g1 => ⟨_, c_Alive hl (placeN_I64 hh), fun g2 => find_eq ?_ ?_, fun g2 => find_eq ?_ ?_⟩⟩, fun g => find_eq ?_ ?_⟩ <;> simp [findK, findC, findB, *]
theorem c_FindRoomS {w : World'} (hl : w.l.length ≤ 1048576) (hok : ∀ n ∈ w.l, n.ok) {h : Handle} (hh : h.ok) : CallD Try.prog F_spec_FindRoom [rWorld w, handleS h] fun r _ => r = tFind w h := by
  refine k_spec_FindRoom ?_
  unfold vc_spec_FindRoom
  refine ⟨_, c_HandleOkS h, fun g => ⟨_, c_PlaceOfS (by unfold M63; omega) h, fun g1 => find_eq ?_ ?_, fun g1 => ⟨_, c_AliveS hl hok (placeN_I64 hh), fun g2 => find_eq ?_ ?_, fun g2 => find_eq ?_ ?_⟩⟩, fun g => find_eq ?_ ?_⟩ <;> simp [findK, findC, findB, *]
def deepN (w : World') (h : Handle) : Int := if findC w h = 0 then (rise w.l w.l.length (findK w h)).length else 0
def handleAt (l : List Node) (k : Int) : Handle := if slotB l k then ⟨k, (nodeAt l k).gen⟩ else ⟨0, 0⟩
theorem handleS_eq {a b : Int} {h : Handle} (e : h = ⟨a, b⟩) : aS [iC a, iC b] = handleS h := by rw [e]
def upB (w : World') (h : Handle) : Bool := decide (findC w h = 0) && !decide ((nodeAt w.l (findK w h)).up = 0)
def upH (w : World') (h : Handle) : Handle := if upB w h then handleAt w.l (IntKind.i64.wrap ((nodeAt w.l (findK w h)).up - 1)) else ⟨0, 0⟩
abbrev tUp (w : World') (h : Handle) : SV := .tup [.agg [iC (upH w h).slot, iC (upH w h).gen], .cell (bC (upB w h))]
theorem up_no {w : World'} {h : Handle} (g : upB w h = false) : SV.tup [RV.agg [iC 0, iC 0], RV.cell (bC false)] = tUp w h := by
  simp only [tUp, upH, g, Bool.false_eq_true, if_false]
theorem up_yes {w : World'} {h : Handle} (g : upB w h = true) {x : Handle} (e : x = handleAt w.l (IntKind.i64.wrap ((nodeAt w.l (findK w h)).up - 1))) : SV.tup [RV.agg [iC x.slot, iC x.gen], RV.cell (bC true)] = tUp w h := by
  simp only [tUp, upH, g, if_true, e]
def roomsL (l : List Node) (k : Nat) : List Int := ((List.range k).filter fun i : Nat => aliveB l (i : Int)).map fun i : Nat => (i : Int)
theorem rooms_step {l : List Node} {k : Nat} : roomsL l (k + 1) = roomsL l k ++ if aliveB l (k : Int) then [(k : Int)] else [] := by
  unfold roomsL
  rw [List.range_succ, List.filter_append, List.map_append]
  congr 1
  cases h : aliveB l (k : Int) <;> simp [h]
theorem rooms_le (l : List Node) (k : Nat) : (roomsL l k).length ≤ k := by
  have := List.length_filter_le (fun i : Nat => aliveB l (i : Int)) (List.range k)
  simpa [roomsL] using this
theorem c_RoomsIn {w : World'} (hl : w.l.length ≤ 1048576) : CallD Try.prog F_impl_RoomsIn [rWorld w] fun r _ => r = oI (roomsL w.l w.l.length) := by
  refine k_impl_RoomsIn ?_
  unfold vc_impl_RoomsIn
  simp only [nI, n_nodes]
  refine ⟨fun es i m => ∃ k : Nat, i = k ∧ k ≤ w.l.length ∧ m = w.l.length - k ∧ es = ints (roomsL w.l k), ⟨_, 0, rfl, Nat.zero_le _, rfl, rfl⟩, ?_⟩
  rintro es i m ⟨k, rfl, hk, rfl, rfl⟩
  have hle := rooms_le w.l k
  have w1 : IntKind.i64.wrap ((k : Int) + 1) = ((k + 1 : Nat) : Int) := by rw [wrap_id] <;> omega
  rw [w1]
  simp only [n_one, ints_length, List.length_singleton, decide_eq_true_eq (p := (k : Int) < w.l.length), decide_eq_false_iff_not (p := (k : Int) < w.l.length), ints_snoc]
  refine ⟨fun h1 => ⟨_, c_Alive hl (by unfold I64; omega), fun g => ⟨by omega, by omega, ⟨trivial, trivial⟩, w.l.length - (k + 1), by omega, k + 1, rfl, by omega, rfl, ?_⟩, fun g => ⟨⟨trivial, trivial⟩, w.l.length - (k + 1), by omega, k + 1, rfl, by omega, rfl, ?_⟩⟩, fun h1 => ?_⟩
  · rw [rooms_step, if_pos g]
  · rw [rooms_step, g]; simp
  · have : k = w.l.length := by omega
    subst this; rfl
theorem c_RoomsInS {w : World'} (hl : w.l.length ≤ 1048576) (hok : ∀ n ∈ w.l, n.ok) : CallD Try.prog F_spec_RoomsIn [rWorld w] fun r _ => r = oI (roomsL w.l w.l.length) := by
  refine k_spec_RoomsIn ?_
  unfold vc_spec_RoomsIn
  simp only [nI, n_nodes]
  refine ⟨fun es i m => ∃ k : Nat, i = k ∧ k ≤ w.l.length ∧ m = w.l.length - k ∧ es = ints (roomsL w.l k), ⟨_, 0, rfl, Nat.zero_le _, rfl, rfl⟩, ?_⟩
  rintro es i m ⟨k, rfl, hk, rfl, rfl⟩
  have hle := rooms_le w.l k
  have w1 : IntKind.i64.wrap ((k : Int) + 1) = ((k + 1 : Nat) : Int) := by rw [wrap_id] <;> omega
  rw [w1]
  simp only [n_one, ints_length, List.length_singleton, decide_eq_true_eq (p := (k : Int) < w.l.length), decide_eq_false_iff_not (p := (k : Int) < w.l.length), ints_snoc]
  refine ⟨fun h1 => ⟨_, c_AliveS hl hok (by unfold I64; omega), fun g => ⟨by omega, by omega, trivial, w.l.length - (k + 1), by omega, k + 1, rfl, by omega, rfl, ?_⟩, fun g => ⟨trivial, w.l.length - (k + 1), by omega, k + 1, rfl, by omega, rfl, ?_⟩⟩, fun h1 => ?_⟩
  · rw [rooms_step, if_pos g]
  · rw [rooms_step, g]; simp
  · have : k = w.l.length := by omega
    subst this; rfl
def ownedL (p : Pool) (s : Int) (k : Nat) : List Int := ((List.range k).filter fun i : Nat => decide (p.st.getD i 0 = 1) && decide (p.own.getD i 0 = s)).map fun i : Nat => (i : Int)
theorem owned_step {p : Pool} {s : Int} {k : Nat} : ownedL p s (k + 1) = ownedL p s k ++ if (decide (p.st.getD k 0 = 1) && decide (p.own.getD k 0 = s)) then [(k : Int)] else [] := by
  unfold ownedL
  rw [List.range_succ, List.filter_append, List.map_append]
  congr 1
  rw [List.filter_cons, List.filter_nil]
  split <;> rfl
theorem owned_le (p : Pool) (s : Int) (k : Nat) : (ownedL p s k).length ≤ k := by
  have := List.length_filter_le (fun i : Nat => decide (p.st.getD i 0 = 1) && decide (p.own.getD i 0 = s)) (List.range k)
  simpa [ownedL] using this
def poolN (p : Pool) : Nat := min p.st.length p.own.length
def sumW (f : Nat → Int) : Nat → Int
  | 0 => 0
  | k + 1 => IntKind.i64.wrap (sumW f k + f k)
def chunksN (w : World') : Int := sumW (fun i => (ownedL w.p ((roomsL w.l w.l.length).getD i 0) (poolN w.p)).length) (roomsL w.l w.l.length).length
def fitsB (w : World') (n : Int) : Bool := decide (0 ≤ n) && (decide (n ≤ w.c.chunks) && decide (chunksN w ≤ IntKind.i64.wrap (w.c.chunks - n)))
def thereB (n : Node) (r : Ref) : Bool := decide (n.st = 1) && (decide (n.ep = r.ep) && within r.no 0 (IntKind.i64.wrap (n.things.length - 1)))
def thingR (n : Node) (r : Ref) : Thing := if thereB n r then n.things.getD r.no.toNat ⟨0, 0, 0⟩ else ⟨0, 0, 0⟩
abbrev tThing (n : Node) (r : Ref) : SV := .tup [.agg [iC (thingR n r).pos, iC (thingR n r).len, iC (thingR n r).run], .cell (bC (thereB n r))]
theorem thing_no {n : Node} {r : Ref} (h : thereB n r = false) : SV.tup [RV.agg [iC 0, iC 0, iC 0], RV.cell (bC false)] = tThing n r := by
  simp only [tThing, thingR, h, Bool.false_eq_true, if_false]
theorem thing_yes {n : Node} {r : Ref} (h : thereB n r = true) (hi : r.no.toNat < n.things.length) : SV.tup [RV.agg [iC n.things[r.no.toNat].pos, iC n.things[r.no.toNat].len, iC n.things[r.no.toNat].run], RV.cell (bC true)] = tThing n r := by
  have e : n.things.getD r.no.toNat ⟨0, 0, 0⟩ = n.things[r.no.toNat] := by simp [List.getD_eq_getElem?_getD, hi]
  simp only [tThing, thingR, h, if_true, e]
def ftB (w : World') (r : Ref) : Bool := refOk r && (decide (findC w r.h = 0) && thereB (nodeAt w.l (findK w r.h)) r)
def ftK (w : World') (r : Ref) : Int := if ftB w r then findK w r.h else -1
def ftT (w : World') (r : Ref) : Thing := if ftB w r then thingR (nodeAt w.l (findK w r.h)) r else ⟨0, 0, 0⟩
def ftC (w : World') (r : Ref) : Int := if refOk r then (if findC w r.h = 0 then (if thereB (nodeAt w.l (findK w r.h)) r then 0 else 2) else findC w r.h) else 1
abbrev tFT (w : World') (r : Ref) : SV := .tup [.cell (iC (ftK w r)), .agg [iC (ftT w r).pos, iC (ftT w r).len, iC (ftT w r).run], .cell (iC (ftC w r))]
theorem ft_no {w : World'} {r : Ref} {c : Int} (h : ftB w r = false) (hc : c = ftC w r) : SV.tup [RV.cell (iC (-1)), RV.agg [iC 0, iC 0, iC 0], RV.cell (iC c)] = tFT w r := by
  simp only [tFT, ftK, ftT, h, hc, Bool.false_eq_true, if_false]
theorem ft_yes {w : World'} {r : Ref} (h : ftB w r = true) {k : Int} {t : Thing} (hk : k = findK w r.h) (ht : t = thingR (nodeAt w.l (findK w r.h)) r) (hc : (0 : Int) = ftC w r) : SV.tup [RV.cell (iC k), RV.agg [iC t.pos, iC t.len, iC t.run], RV.cell (iC 0)] = tFT w r := by
  simp only [tFT, ftK, ftT, h, if_true, hk, ht, ← hc]
end Go.Proofs.Ytmnfcahbmlfccaa
