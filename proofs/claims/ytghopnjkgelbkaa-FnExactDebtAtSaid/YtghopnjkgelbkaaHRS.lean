/- Contracts of small functions: places and depths of handles. -/
import Derived.Test.YtghopnjkgelbkaaHQ
namespace Go.Proofs.Ytghopnjkgelbkaa
open Go Go.Proofs.Ytghopnjkgelbkaa.DL
set_option maxRecDepth 100000

def placeN (l : List Node) (h : Handle) : Int := if slotB l h.slot then (if (l.getD h.slot.toNat zeroN).st = 1 ∧ (l.getD h.slot.toNat zeroN).gen = h.gen then h.slot else -1) else -1
theorem placeN_I64 {l : List Node} {h : Handle} (hh : h.ok) : I64 (placeN l h) := by
  unfold placeN
  split
  · split
    · exact hh.1
    · unfold I64; omega
  · unfold I64; omega
def walkN (w : World') (h : Handle) : Int := (rise w.l w.l.length (placeN w.l h)).length
def nodeAt (l : List Node) (k : Int) : Node := l.getD k.toNat zeroN
theorem nodeAt_eq {l : List Node} {k : Int} (h : slotB l k = true) : ∃ hi : k.toNat < l.length, nodeAt l k = l[k.toNat] := by
  obtain ⟨q1, q2⟩ := slotB_iff.1 h
  exact ⟨by omega, getD_node (by omega)⟩
theorem rise_at (l : List Node) : ∀ (f : Nat) (k : Int), (∀ x ∈ rise l f k, slotB l x = true) ∧ ∀ (i : Nat), i + 1 < (rise l f k).length → (rise l f k).getD (i + 1) 0 = IntKind.i64.wrap ((nodeAt l ((rise l f k).getD i 0)).up - 1)
  | 0, k => ⟨fun x hx => (by simp [rise] at hx), fun i h => (by simp [rise] at h)⟩
  | f + 1, k => by
    by_cases hs : slotB l k = true
    · have e : rise l (f + 1) k = k :: rise l f (IntKind.i64.wrap ((nodeAt l k).up - 1)) := by
        conv => lhs; unfold rise
        rw [if_pos hs]; rfl
      obtain ⟨h1, h2⟩ := rise_at l f (IntKind.i64.wrap ((nodeAt l k).up - 1))
      rw [e]
      refine ⟨fun x hx => ?_, fun i h => ?_⟩
      · rcases List.mem_cons.1 hx with rfl | hx
        · exact hs
        · exact h1 x hx
      · cases i with
        | zero =>
          simp only [List.getD_cons_succ, List.getD_cons_zero]
          cases f with
          | zero => simp [rise] at h
          | succ f =>
            have hs2 : slotB l (IntKind.i64.wrap ((nodeAt l k).up - 1)) = true := by
              cases g : slotB l (IntKind.i64.wrap ((nodeAt l k).up - 1)) with
              | true => rfl
              | false => rw [rise_out g] at h; simp at h
            have e2 : rise l (f + 1) (IntKind.i64.wrap ((nodeAt l k).up - 1)) = IntKind.i64.wrap ((nodeAt l k).up - 1) :: rise l f (IntKind.i64.wrap ((nodeAt l (IntKind.i64.wrap ((nodeAt l k).up - 1))).up - 1)) := by
              conv => lhs; unfold rise
              rw [if_pos hs2]; rfl
            rw [e2]; rfl
        | succ i =>
          simp only [List.getD_cons_succ]
          exact h2 i (by simpa using h)
    · have : slotB l k = false := by simpa using hs
      rw [rise_out this]
      exact ⟨fun x hx => (by cases hx), fun i h => (by simp at h)⟩
/-- Way i of a slot's way up lives, and fits to what is above it. -/
def stepB (l : List Node) (way : List Int) (i : Nat) : Bool := decide ((nodeAt l (way.getD i 0)).st = 1) && (if i + 1 < way.length then decide ((nodeAt l (way.getD i 0)).upEp = (nodeAt l (way.getD (i + 1) 0)).ep) else true)
def wayB (l : List Node) (way : List Int) : Bool := (List.range way.length).all (stepB l way) && (decide (0 < way.length) && decide ((nodeAt l (way.getD (way.length - 1) 0)).up = 0))
def aliveB (l : List Node) (k : Int) : Bool := wayB l (rise l l.length k)
theorem wayB_false {l : List Node} {way : List Int} {i : Nat} (hi : i < way.length) (h : stepB l way i = false) : wayB l way = false := by
  have : (List.range way.length).all (stepB l way) = false := by
    cases e : (List.range way.length).all (stepB l way) with
    | false => rfl
    | true => have := List.all_eq_true.1 e i (List.mem_range.2 hi); rw [h] at this; cases this
  unfold wayB; rw [this]; rfl
theorem wayB_all {l : List Node} {way : List Int} (h : ∀ i, i < way.length → stepB l way i = true) : wayB l way = (decide (0 < way.length) && decide ((nodeAt l (way.getD (way.length - 1) 0)).up = 0)) := by
  have : (List.range way.length).all (stepB l way) = true := List.all_eq_true.2 fun i hi => h i (List.mem_range.1 hi)
  unfold wayB; rw [this]; rfl
def roomB (w : World') (k : Nat) : Bool := decide ((nodeAt w.l k).st = 0) || (decide ((nodeAt w.l k).gen < w.c.gens) && (!aliveB w.l k && !decide ((nodeAt w.l k).st = 3)))
def roomN (w : World') : Int := ((List.range w.l.length).filter (roomB w)).length
theorem room_step {w : World'} {k : Nat} : ((List.range (k + 1)).filter (roomB w)).length = ((List.range k).filter (roomB w)).length + if roomB w k then 1 else 0 := by
  rw [List.range_succ, List.filter_append, List.length_append]
  congr 1
  cases h : roomB w k <;> simp [h]
theorem room_le {w : World'} (k : Nat) : ((List.range k).filter (roomB w)).length ≤ k := by
  have := List.length_filter_le (roomB w) (List.range k)
  simpa using this
end Go.Proofs.Ytghopnjkgelbkaa
