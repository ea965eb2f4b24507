/- Trees of rooms: what holds when a new room is linked. -/
import Derived.Test.YthmpdfmdhfgaaaaHTd
import Derived.Test.YthmpdfmdhfgaaaaHTr
import Derived.Test.YthmpdfmdhfgaaaaHU
import Derived.Test.YthmpdfmdhfgaaaaHPb
namespace Go.Proofs.Ythmpdfmdhfgaaaa
open Go Go.Proofs.Ythmpdfmdhfgaaaa.DL
set_option maxRecDepth 100000

theorem upd_at {l : List Node} {k j : Nat} {f : Node → Node} : (upd l k f).getD j zeroN = if j = k ∧ k < l.length then f (l.getD j zeroN) else l.getD j zeroN := by
  unfold upd
  rw [List.getD_eq_getElem?_getD, List.getElem?_set]
  by_cases h : k = j
  · subst h
    by_cases hk : k < l.length
    · simp [hk]
    · simp [hk]
  · rw [if_neg h, if_neg fun g => h g.1.symm, List.getD_eq_getElem?_getD]
theorem ext_getD {l m : List Node} (hl : l.length = m.length) (h : ∀ j < l.length, l.getD j zeroN = m.getD j zeroN) : l = m := by
  apply List.ext_getElem hl
  intro i h1 h2
  have := h i h1
  rwa [getD_node h1, getD_node h2] at this
/-- A room's links, read as propositions. -/
structure LinkP (l : List Node) (m : Int) : Prop where
  f : (nodeAt l m).first ≠ 0 → slotB l ((nodeAt l m).first - 1) = true ∧ (nodeAt l ((nodeAt l m).first - 1)).st = 1 ∧ (nodeAt l ((nodeAt l m).first - 1)).prev = 0 ∧ (nodeAt l ((nodeAt l m).first - 1)).up = m + 1 ∧ (nodeAt l ((nodeAt l m).first - 1)).upEp = (nodeAt l m).ep
  n : (nodeAt l m).next ≠ 0 → slotB l ((nodeAt l m).next - 1) = true ∧ (nodeAt l ((nodeAt l m).next - 1)).st = 1 ∧ (nodeAt l ((nodeAt l m).next - 1)).prev = m + 1 ∧ (nodeAt l ((nodeAt l m).next - 1)).up = (nodeAt l m).up ∧ (nodeAt l ((nodeAt l m).next - 1)).upEp = (nodeAt l m).upEp
  p : (nodeAt l m).prev ≠ 0 → slotB l ((nodeAt l m).prev - 1) = true ∧ (nodeAt l ((nodeAt l m).prev - 1)).st = 1 ∧ (nodeAt l ((nodeAt l m).prev - 1)).next = m + 1
  u : (nodeAt l m).up ≠ 0 → slotB l ((nodeAt l m).up - 1) = true
  c : (nodeAt l m).prev = 0 → slotB l ((nodeAt l m).up - 1) = true → (nodeAt l ((nodeAt l m).up - 1)).st = 1 → (nodeAt l ((nodeAt l m).up - 1)).ep = (nodeAt l m).upEp → (nodeAt l ((nodeAt l m).up - 1)).first = m + 1
/-- Numbers so small that nothing wraps. -/
structure Sm (n : Node) : Prop where
  up : -1 ≤ n.up ∧ n.up ≤ 9
  first : 0 ≤ n.first ∧ n.first ≤ 9
  next : 0 ≤ n.next ∧ n.next ≤ 9
  prev : 0 ≤ n.prev ∧ n.prev ≤ 9
theorem N1.sm {N : Nat} {n : Node} (h : N1 N n) : Sm n := ⟨h.up, by have := h.first; omega, by have := h.next; omega, by have := h.prev; omega⟩
theorem sm_zero : Sm zeroN := by unfold zeroN; constructor <;> simp only <;> omega
theorem inUp_iff {l : List Node} {k : Int} (h : Sm (nodeAt l k)) : inUpB l k = true ↔ slotB l ((nodeAt l k).up - 1) = true ∧ (nodeAt l ((nodeAt l k).up - 1)).st = 1 ∧ (nodeAt l ((nodeAt l k).up - 1)).ep = (nodeAt l k).upEp := by
  unfold inUpB
  have := h.up
  rw [wrap_id (n := (nodeAt l k).up - 1) (by omega) (by omega)]
  simp only [Bool.and_eq_true, decide_eq_true_eq]
theorem link_iff {l : List Node} {m : Int} (hm : 0 ≤ m ∧ m ≤ 100) (h : Sm (nodeAt l m)) : linkB l m = true ↔ LinkP l m := by
  have hI := inUp_iff h
  obtain ⟨s1, s2, s3, s4⟩ := h
  unfold linkB oneB lvB
  rw [wrap_id (n := (nodeAt l m).up - 1) (by omega) (by omega), wrap_id (n := (nodeAt l m).first - 1) (by omega) (by omega), wrap_id (n := (nodeAt l m).next - 1) (by omega) (by omega), wrap_id (n := (nodeAt l m).prev - 1) (by omega) (by omega), wrap_id (n := m + 1) (by omega) (by omega)]
  simp only [Bool.and_eq_true, Bool.or_eq_true, decide_eq_true_eq, Bool.not_eq_true', decide_eq_false_iff_not]
  constructor
  · rintro ⟨h1, h2, h3, h4, h5, h6, h7, h8⟩
    refine ⟨fun e => ?_, fun e => ?_, fun e => ?_, fun e => ?_, fun e e1 e2 e3 => ?_⟩
    · obtain ⟨a1, a2⟩ := h1.resolve_left e
      obtain ⟨b1, b2, b3⟩ := h5.resolve_left e
      exact ⟨a1, a2, b1, b2, b3⟩
    · obtain ⟨a1, a2⟩ := h2.resolve_left e
      obtain ⟨b1, b2, b3⟩ := h6.resolve_left e
      exact ⟨a1, a2, b1, b2, b3⟩
    · obtain ⟨a1, a2⟩ := h3.resolve_left e
      exact ⟨a1, a2, h7.resolve_left e⟩
    · exact h4.resolve_left e
    · rcases h8 with h8 | h8 | h8
      · exact absurd e h8
      · rw [hI.2 ⟨e1, e2, e3⟩] at h8; cases h8
      · exact h8
  · rintro ⟨h1, h2, h3, h4, h5⟩
    refine ⟨?_, ?_, ?_, ?_, ?_, ?_, ?_, ?_⟩
    · by_cases e : (nodeAt l m).first = 0
      · exact Or.inl e
      · exact Or.inr ⟨(h1 e).1, (h1 e).2.1⟩
    · by_cases e : (nodeAt l m).next = 0
      · exact Or.inl e
      · exact Or.inr ⟨(h2 e).1, (h2 e).2.1⟩
    · by_cases e : (nodeAt l m).prev = 0
      · exact Or.inl e
      · exact Or.inr ⟨(h3 e).1, (h3 e).2.1⟩
    · by_cases e : (nodeAt l m).up = 0
      · exact Or.inl e
      · exact Or.inr (h4 e)
    · by_cases e : (nodeAt l m).first = 0
      · exact Or.inl e
      · exact Or.inr (h1 e).2.2
    · by_cases e : (nodeAt l m).next = 0
      · exact Or.inl e
      · exact Or.inr (h2 e).2.2
    · by_cases e : (nodeAt l m).prev = 0
      · exact Or.inl e
      · exact Or.inr (h3 e).2.2
    · by_cases e : (nodeAt l m).prev = 0
      · refine Or.inr ?_
        cases g : inUpB l m with
        | false => exact Or.inl rfl
        | true =>
          obtain ⟨g1, g2, g3⟩ := hI.1 g
          exact Or.inr (h5 e g1 g2 g3)
      · exact Or.inl e
theorem tree_iff {l : List Node} : treeB l = true ↔ ∀ k : Nat, k < l.length → (nodeAt l k).st = 1 → linkB l k = true ∧ tailB l k = true := by
  unfold treeB goodB
  simp only [List.all_eq_true, List.mem_range, Bool.or_eq_true, Bool.and_eq_true, Bool.not_eq_true', decide_eq_false_iff_not]
  constructor
  · intro h k hk e
    exact (h k hk).resolve_left fun g => g e
  · intro h k hk
    by_cases e : (nodeAt l k).st = 1
    · exact Or.inr (h k hk e)
    · exact Or.inl e
theorem rise_step {l : List Node} {f : Nat} {k : Int} (h : slotB l k = true) : rise l (f + 1) k = k :: rise l f (IntKind.i64.wrap ((nodeAt l k).up - 1)) := by
  conv => lhs; unfold rise
  rw [if_pos h]; rfl
theorem kids_step {l : List Node} {f : Nat} {k : Int} (h : slotB l k = true) : kids l (f + 1) k = k :: kids l f (IntKind.i64.wrap ((nodeAt l k).next - 1)) := by
  conv => lhs; unfold kids
  rw [if_pos h]; rfl
theorem rise_take (l : List Node) : ∀ (f : Nat) (k : Int), rise l f k = (rise l (f + 1) k).take f
  | 0, k => by simp [rise]
  | f + 1, k => by
    cases h : slotB l k with
    | true => rw [rise_step h, rise_step h, List.take_succ_cons, ← rise_take l f]
    | false => rw [rise_out h, rise_out h]; rfl
theorem kids_take (l : List Node) : ∀ (f : Nat) (k : Int), kids l f k = (kids l (f + 1) k).take f
  | 0, k => by simp [kids]
  | f + 1, k => by
    cases h : slotB l k with
    | true => rw [kids_step h, kids_step h, List.take_succ_cons, ← kids_take l f]
    | false => rw [kids_out h, kids_out h]; rfl
theorem pigeon : ∀ (n : Nat) (l : List Int), l.Nodup → (∀ x ∈ l, 0 ≤ x ∧ x < n) → l.length ≤ n
  | 0, l, _, h => by
    cases l with
    | nil => exact Nat.le_refl _
    | cons x l => have := h x List.mem_cons_self; omega
  | n + 1, l, hn, h => by
    by_cases hm : (n : Int) ∈ l
    · have h1 := pigeon n (l.erase (n : Int)) (hn.erase _) fun x hx => by
        obtain ⟨h2, h3⟩ := (hn.mem_erase_iff).1 hx
        have := h x h3
        omega
      rw [List.length_erase_of_mem hm] at h1
      omega
    · have := pigeon n l hn fun x hx => by
        have h1 := h x hx
        have : x ≠ n := fun e => hm (e ▸ hx)
        omega
      omega
def it (g : Int → Int) : Nat → Int → Int
  | 0, k => k
  | i + 1, k => it g i (g k)
theorem it_succ (g : Int → Int) : ∀ (i : Nat) (k : Int), it g (i + 1) k = g (it g i k)
  | 0, _ => rfl
  | i + 1, k => it_succ g i (g k)
theorem kids_full {l : List Node} : ∀ (f : Nat) (k : Int), (kids l f k).length = f → ∀ i < f, slotB l (it (fun k => IntKind.i64.wrap ((nodeAt l k).next - 1)) i k) = true
  | 0, _, _, i, hi => by omega
  | f + 1, k, h, i, hi => by
    cases hs : slotB l k with
    | false => rw [kids_out hs] at h; simp at h
    | true =>
      rw [kids_step hs, List.length_cons] at h
      cases i with
      | zero => exact hs
      | succ i =>
        have h2 : (kids l f (IntKind.i64.wrap ((nodeAt l k).next - 1))).length = f := by omega
        exact kids_full f _ h2 i (by omega)
end Go.Proofs.Ythmpdfmdhfgaaaa
