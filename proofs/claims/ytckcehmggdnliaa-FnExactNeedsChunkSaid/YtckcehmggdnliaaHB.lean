/- Contracts of small functions: lists of things, slices' helpers. -/
import Derived.Test.YtckcehmggdnliaaHA
namespace Go.Proofs.Ytckcehmggdnliaa
open Go Go.Proofs.Ytckcehmggdnliaa.DL

theorem set3 {x y z a b c : DV} {r : List DV} : ∀ p : List DV, (((p ++ a :: b :: c :: r).set p.length x).set (p.length + 1) y).set (p.length + 1 + 1) z = p ++ x :: y :: z :: r
  | [] => rfl
  | q :: p => by simp
theorem things_split {l : List Thing} {k : Nat} (h : k < l.length) : thgs l = thgs (l.take k) ++ iV l[k].pos :: iV l[k].len :: iV l[k].run :: thgs (l.drop (k + 1)) := by
  have e : l = l.take k ++ l[k] :: l.drop (k + 1) := by rw [List.getElem_cons_drop, List.take_append_drop]
  have e2 : thgs l = thgs (l.take k ++ l[k] :: l.drop (k + 1)) := by rw [← e]
  rw [e2]
  unfold thgs flat
  rw [List.flatMap_append, List.flatMap_cons]
  rfl
theorem set_things {l : List Thing} {k : Nat} (h : k < l.length) (t : Thing) : (((thgs l).set (k * 3) (iV t.pos)).set (k * 3 + 1) (iV t.len)).set (k * 3 + 1 + 1) (iV t.run) = thgs (l.set k t) := by
  have hl : (thgs (l.take k)).length = k * 3 := by rw [things_length, List.length_take]; congr 1; omega
  rw [things_split h, ← hl, set3, List.set_eq_take_append_cons_drop, if_pos h]
  simp [thgs, flat, Thing.enc]
theorem zero_things (n : Nat) : (List.replicate n [iV 0, iV 0, iV 0]).flatten = thgs (List.replicate n ⟨0, 0, 0⟩) := by
  simp only [thgs, flat, List.flatMap, List.map_replicate]
  rfl
theorem take_things (l : List Thing) (k : Nat) : (thgs l).take (k * 3) = thgs (l.take k) := flat_takeAll Thing.enc_len k l
theorem drop0 {α : Type} (l : List α) (n : Nat) : l.drop (Int.toNat 0 * n) = l := by simp
theorem take_rep_step {α : Type} {l : List α} {z : α} {k : Nat} (h : k < l.length) : (l.take k ++ List.replicate (l.length - k) z).set k l[k] = l.take (k + 1) ++ List.replicate (l.length - (k + 1)) z := by
  apply List.ext_getElem
  · simp; omega
  · intro i h1 h2
    simp only [List.length_set, List.length_append, List.length_take, List.length_replicate] at h1
    rw [List.getElem_set]
    split
    · rename_i e; subst e
      rw [List.getElem_append_left (by simp; omega)]
      simp
    · rename_i e
      by_cases hi : i < k
      · rw [List.getElem_append_left (by simp; omega), List.getElem_append_left (by simp; omega)]
        simp
      · rw [List.getElem_append_right (by simp; omega), List.getElem_append_right (by simp; omega)]
        simp
theorem take_next {α : Type} {a b : List α} {k : Nat} (ha : k < a.length) (hb : k < b.length) (h : a.take k = b.take k) (e : a[k] = b[k]) : a.take (k + 1) = b.take (k + 1) := by
  rw [List.take_succ_eq_append_getElem ha, List.take_succ_eq_append_getElem hb, h, e]
theorem Thing.eq_iff (x y : Thing) : x = y ↔ x.pos = y.pos ∧ x.len = y.len ∧ x.run = y.run := by
  constructor
  · rintro rfl; exact ⟨rfl, rfl, rfl⟩
  · cases x; cases y; rintro ⟨h1, h2, h3⟩; simp_all
instance : DecidableEq Thing := fun x y => decidable_of_iff _ (Thing.eq_iff x y).symm

theorem c_toThing (t : Thing) : CallD Try.prog F_laws_toThing [thingS t] fun r _ => r = thingS t := k_laws_toThing rfl
theorem c_eqThing (t u : Thing) : CallD Try.prog F_laws_eqThing [thingS t, thingS u] fun r _ => r = bS (decide (t = u)) := by
  refine k_laws_eqThing ?_
  unfold vc_laws_eqThing
  refine ⟨fun h => bS_eq ?_, fun h => ⟨fun h2 => bS_eq ?_, fun h2 => ⟨fun h3 => bS_eq ?_, fun h3 => bS_eq ?_⟩⟩⟩ <;> simp_all [Thing.eq_iff]
theorem c_szThingS {l : List Thing} {n : Int} (hl : l.length ≤ M63) (h0 : 0 ≤ n) (hn : n ≤ 1048576) : CallD Try.prog F_laws_szThingS [rTh l, iS n] fun r _ => r = iS (if (l.length : Int) ≤ n then n - l.length else -1) := by
  refine k_laws_szThingS ?_
  unfold vc_laws_szThingS
  unfold M63 at hl
  simp only [nI, n_things, wrap_id (n := n - l.length) (by omega) (by omega), decide_eq_true_eq, decide_eq_false_iff_not]
  refine ⟨fun h1 => iS_eq ?_, fun h1 => iS_eq ?_⟩
  · rw [if_neg (by omega)]
  · rw [if_pos (by omega)]
theorem c_toThingS {l : List Thing} (h : l.length ≤ 1048576) : CallD Try.prog F_laws_toThingS [rTh l] fun r _ => r = oTh l := by
  refine k_laws_toThingS ?_
  unfold vc_laws_toThingS
  simp only [nI, n_things, es_sl, Int.toNat_natCast, zero_things]
  refine ⟨trivial, by omega, by omega, by omega, by omega, fun es i m => ∃ k : Nat, i = k ∧ k ≤ l.length ∧ m = l.length - k ∧ es = thgs (l.take k ++ List.replicate (l.length - k) ⟨0, 0, 0⟩), ⟨l.length, 0, rfl, Nat.zero_le _, rfl, by simp⟩, ?_⟩
  rintro es i m ⟨k, rfl, hk, rfl, rfl⟩
  simp only [Int.toNat_natCast, decide_eq_true_eq, decide_eq_false_iff_not, n_things, things_length]
  refine ⟨fun h1 => ?_, fun h1 => ?_⟩
  · have hk' : k < l.length := by omega
    have hlen : (l.take k ++ List.replicate (l.length - k) (⟨0, 0, 0⟩ : Thing)).length = l.length := by simp; omega
    simp only [drop_things hk', hdD_cons, List.tail_cons, isI_iV, asI_iV, wrap_id (n := (k : Int) + 1) (by omega) (by omega)]
    refine ⟨by omega, by omega, by simp, trivial, trivial, trivial, _, _, _, c_toThing l[k], by omega, by omega, trivial, by rw [hlen]; simp; omega, trivial, l.length - (k + 1), by omega, k + 1, by omega, by omega, rfl, ?_⟩
    rw [set_things (by omega), take_rep_step hk']
  · have : k = l.length := by omega
    subst this
    simp
theorem c_eqThingS {a b : List Thing} (ha : a.length ≤ M63) : CallD Try.prog F_laws_eqThingS [rTh a, rTh b] fun r _ => r = bS (decide (a = b)) := by
  refine k_laws_eqThingS ?_
  unfold vc_laws_eqThingS
  unfold M63 at ha
  simp only [nI, n_things]
  refine ⟨fun h1 => bS_eq ?_, fun h1 => ?_⟩
  · have : a.length ≠ b.length := by simp at h1; omega
    have : a ≠ b := fun e => this (by rw [e])
    simp [this]
  · have hl : a.length = b.length := by simp at h1; omega
    refine ⟨fun i m => ∃ k : Nat, i = k ∧ k ≤ a.length ∧ m = a.length - k ∧ a.take k = b.take k, ⟨a.length, 0, rfl, Nat.zero_le _, rfl, rfl⟩, ?_⟩
    rintro i m ⟨k, rfl, hk, rfl, ht⟩
    simp only [Int.toNat_natCast, decide_eq_true_eq, decide_eq_false_iff_not]
    refine ⟨fun h1 => ?_, fun h1 => bS_eq ?_⟩
    · have ha' : k < a.length := by omega
      have hb' : k < b.length := by omega
      simp only [drop_things ha', drop_things hb', hdD_cons, List.tail_cons, isI_iV, asI_iV, wrap_id (n := (k : Int) + 1) (by omega) (by omega)]
      refine ⟨by omega, by omega, by simp, trivial, trivial, trivial, by omega, by omega, by simp, trivial, trivial, trivial, _, c_eqThing a[k] b[k], fun h2 => ⟨⟨trivial, trivial⟩, a.length - (k + 1), by omega, k + 1, by omega, by omega, rfl, take_next ha' hb' ht (by simpa using h2)⟩, fun h2 => bS_eq ?_⟩
      have : a ≠ b := fun e => by subst e; simp at h2
      simp [this]
    · have : k = a.length := by omega
      subst this
      rw [List.take_length, hl, List.take_length] at ht
      simp [ht]

/-- The first place where p holds; -1, if there is none. -/
def idx {α : Type} (p : α → Bool) (l : List α) : Int := if l.any p then (l.findIdx p : Nat) else -1
theorem idx_at {α : Type} {p : α → Bool} {l : List α} {k : Nat} (hk : k < l.length) (h : p l[k] = true) (hb : ∀ j (hj : j < k), p (l[j]'(by omega)) = false) : idx p l = k := by
  unfold idx
  rw [if_pos (List.any_eq_true.2 ⟨_, List.getElem_mem hk, h⟩), (List.findIdx_eq hk).2 ⟨h, hb⟩]
theorem idx_none {α : Type} {p : α → Bool} {l : List α} (hb : ∀ j (hj : j < l.length), p l[j] = false) : idx p l = -1 := by
  unfold idx
  have : l.any p = false := by
    rw [List.any_eq_false]
    intro x hx
    obtain ⟨j, hj, rfl⟩ := List.mem_iff_getElem.1 hx
    simp [hb j hj]
  rw [this]; rfl
theorem idx_any {α : Type} (p : α → Bool) (l : List α) : decide (0 ≤ idx p l) = l.any p := by
  unfold idx
  cases h : l.any p <;> simp
theorem c_IndexThing {l : List Thing} (hl : l.length ≤ M63) {g : FuncId} {caps : List (List DV)} {p : Thing → Bool} (hg : ∀ t ∈ l, CallD Try.prog g (thingS t :: caps.map SV.rptr) fun r _ => r = bS (p t)) :
    CallD Try.prog F_slices_IndexFunc_impl_Thing [rTh l, .cloR g caps] fun r _ => r = iS (idx p l) := by
  refine k_slices_IndexFunc_impl_Thing ?_
  unfold vc_slices_IndexFunc_impl_Thing
  unfold M63 at hl
  simp only [nI, n_things]
  refine ⟨fun i m => ∃ k : Nat, i = k ∧ k ≤ l.length ∧ m = l.length - k ∧ ∀ j (hj : j < l.length), j < k → p l[j] = false, ⟨l.length, 0, rfl, Nat.zero_le _, rfl, fun j hj h => by omega⟩, ?_⟩
  rintro i m ⟨k, rfl, hk, rfl, ht⟩
  simp only [Int.toNat_natCast, decide_eq_true_eq, decide_eq_false_iff_not]
  refine ⟨fun h1 => ?_, fun h1 => iS_eq ?_⟩
  · have ha' : k < l.length := by omega
    simp only [drop_things ha', hdD_cons, List.tail_cons, isI_iV, asI_iV, wrap_id (n := (k : Int) + 1) (by omega) (by omega)]
    refine ⟨by omega, by omega, by simp, trivial, trivial, trivial, _, hg l[k] (List.getElem_mem ha'), fun h2 => iS_eq ?_, fun h2 => ⟨⟨trivial, trivial, trivial⟩, l.length - (k + 1), by omega, k + 1, by omega, by omega, rfl, fun j hj hjk => ?_⟩⟩
    · exact (idx_at ha' h2 fun j hj => ht j (by omega) hj).symm
    · by_cases e : j = k
      · subst e; exact h2
      · exact ht j hj (by omega)
  · exact (idx_none fun j hj => ht j hj (by omega)).symm
theorem c_ContainsThing {l : List Thing} (hl : l.length ≤ M63) {g : FuncId} {caps : List (List DV)} {p : Thing → Bool} (hg : ∀ t ∈ l, CallD Try.prog g (thingS t :: caps.map SV.rptr) fun r _ => r = bS (p t)) :
    CallD Try.prog F_slices_ContainsFunc_impl_Thing [rTh l, .cloR g caps] fun r _ => r = bS (l.any p) := by
  refine k_slices_ContainsFunc_impl_Thing ?_
  unfold vc_slices_ContainsFunc_impl_Thing
  refine ⟨_, c_IndexThing hl hg, fun h => bS_eq ?_, fun h => bS_eq ?_⟩
  · rw [← idx_any, h]
  · rw [← idx_any, h]

def apart (a b : Thing) : Bool := decide (a.len < 1) || decide (b.len < 1) || (if a.pos ≤ b.pos then decide (a.len ≤ b.pos - a.pos) else decide (b.len ≤ a.pos - b.pos))
theorem apart_symm (a b : Thing) : apart a b = apart b a := by
  rw [Bool.eq_iff_iff]
  simp only [apart, Bool.or_eq_true, decide_eq_true_eq]
  split <;> split <;> simp only [decide_eq_true_eq] <;> omega
end Go.Proofs.Ytckcehmggdnliaa
