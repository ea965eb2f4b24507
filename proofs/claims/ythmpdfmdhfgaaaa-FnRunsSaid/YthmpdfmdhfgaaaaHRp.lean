/- Runs of free chunks: plain facts. -/
import Derived.Test.YthmpdfmdhfgaaaaD2
namespace Go.Proofs.Ythmpdfmdhfgaaaa
open Go Go.Proofs.Ythmpdfmdhfgaaaa.DL
set_option maxRecDepth 100000

def enc2 (p : Int × Int) : List DV := [iV p.1, iV p.2]
theorem enc2_len (p : Int × Int) : (enc2 p).length = 2 := rfl
def prs (l : List (Int × Int)) : List DV := flat enc2 l
theorem prs_length (l : List (Int × Int)) : (prs l).length = l.length * 2 := flat_length enc2_len l
theorem n_prs (l : List (Int × Int)) : (DV.sl 2 (prs l)).n = l.length := flat_n enc2_len l (by omega)
theorem prs_app (a b : List (Int × Int)) : prs (a ++ b) = prs a ++ prs b := (flat_app enc2 a b).symm
/-- How many free ones end ahead of k. -/
def tl (st : List Int) : Nat → Nat
  | 0 => 0
  | k + 1 => if st.getD k 0 = 0 then tl st k + 1 else 0
def curR (st : List Int) (k : Nat) : List (Int × Int) := if tl st k = 0 then [] else [(((k - tl st k : Nat) : Int), ((tl st k : Nat) : Int))]
def dnR (st : List Int) : Nat → List (Int × Int)
  | 0 => []
  | k + 1 => if st.getD k 0 = 0 then dnR st k else dnR st k ++ curR st k
/-- The runs among the first k. -/
def rnR (st : List Int) (k : Nat) : List (Int × Int) := dnR st k ++ curR st k
theorem tl_le (st : List Int) : ∀ k, tl st k ≤ k
  | 0 => Nat.le_refl _
  | k + 1 => by
    have := tl_le st k
    unfold tl
    split <;> omega
theorem rnR_free {st : List Int} {k : Nat} (h : st.getD k 0 = 0) : rnR st (k + 1) = dnR st k ++ [(((k - tl st k : Nat) : Int), ((tl st k + 1 : Nat) : Int))] := by
  unfold rnR curR
  have e1 : tl st (k + 1) = tl st k + 1 := by rw [tl, if_pos h]
  have e2 : dnR st (k + 1) = dnR st k := by rw [dnR, if_pos h]
  rw [e1, e2, if_neg (by omega), Nat.add_sub_add_right]
theorem rnR_not {st : List Int} {k : Nat} (h : ¬ st.getD k 0 = 0) : rnR st (k + 1) = rnR st k := by
  have e1 : tl st (k + 1) = 0 := by rw [tl, if_neg h]
  have e2 : dnR st (k + 1) = dnR st k ++ curR st k := by rw [dnR, if_neg h]
  have e3 : curR st (k + 1) = [] := by unfold curR; rw [if_pos e1]
  unfold rnR
  rw [e2, e3, List.append_nil]
theorem cur_mem {st : List Int} {k : Nat} {p : Int × Int} (h : p ∈ curR st k) : 0 ≤ p.1 ∧ 1 ≤ p.2 ∧ p.1 + p.2 = k := by
  unfold curR at h
  have := tl_le st k
  split at h
  · cases h
  · rw [List.mem_singleton.1 h]
    simp only
    omega
theorem dn_mem {st : List Int} : ∀ {k : Nat} {p : Int × Int}, p ∈ dnR st k → 0 ≤ p.1 ∧ 1 ≤ p.2 ∧ p.1 + p.2 < k
  | 0, p, h => by cases h
  | k + 1, p, h => by
    unfold dnR at h
    split at h
    · have := dn_mem h; omega
    · rcases List.mem_append.1 h with h | h
      · have := dn_mem h; omega
      · have := cur_mem h; omega
theorem rn_mem {st : List Int} {k : Nat} {p : Int × Int} (h : p ∈ rnR st k) : 0 ≤ p.1 ∧ 1 ≤ p.2 ∧ p.1 + p.2 ≤ k := by
  rcases List.mem_append.1 h with h | h
  · have := dn_mem h; omega
  · have := cur_mem h; omega
theorem cur_one (st : List Int) (k : Nat) : (curR st k).length ≤ 1 := by
  unfold curR; split <;> simp
theorem rn_len {st : List Int} : ∀ k, (rnR st k).length ≤ k
  | 0 => by simp [rnR, dnR, curR, tl]
  | k + 1 => by
    have := rn_len (st := st) k
    by_cases h : st.getD k 0 = 0
    · rw [rnR_free h]
      unfold rnR at this
      simp only [List.length_append, List.length_singleton] at this ⊢
      omega
    · rw [rnR_not h]; omega
theorem rn_zero (st : List Int) : rnR st 0 = [] := rfl
theorem lens_done {st : List Int} {k : Nat} (h : tl st k = 0) : rnR st k = dnR st k := by
  unfold rnR curR
  rw [if_pos h, List.append_nil]
/-- m free ones, from b on. -/
def okR (st : List Int) (m k b : Nat) : Prop := b + m ≤ k ∧ ∀ j, b ≤ j → j < b + m → st.getD j 0 = 0
theorem tl_iff {st : List Int} : ∀ {k m : Nat}, m ≤ tl st k ↔ m ≤ k ∧ ∀ j, k - m ≤ j → j < k → st.getD j 0 = 0
  | 0, m => by
    unfold tl
    exact ⟨fun h => ⟨h, fun j _ h2 => (by omega)⟩, fun h => h.1⟩
  | k + 1, 0 => ⟨fun _ => ⟨by omega, fun j h1 h2 => (by omega)⟩, fun _ => Nat.zero_le _⟩
  | k + 1, m + 1 => by
    unfold tl
    by_cases h : st.getD k 0 = 0
    · rw [if_pos h, Nat.add_le_add_iff_right, tl_iff (k := k) (m := m)]
      refine ⟨fun ⟨h1, h2⟩ => ⟨by omega, fun j h3 h4 => ?_⟩, fun ⟨h1, h2⟩ => ⟨by omega, fun j h3 h4 => h2 j (by omega) (by omega)⟩⟩
      by_cases e : j = k
      · rw [e]; exact h
      · exact h2 j (by omega) (by omega)
    · rw [if_neg h]
      exact ⟨fun h1 => (by omega), fun ⟨h1, h2⟩ => absurd (h2 k (by omega) (by omega)) h⟩
/-- Where m free ones begin first among the first k. -/
def frsG (st : List Int) (m : Nat) : Nat → Option Nat
  | 0 => none
  | k + 1 => match frsG st m k with
    | some a => some a
    | none => if m ≤ tl st (k + 1) then some (k + 1 - m) else none
theorem frs_spec {st : List Int} {m : Nat} (hm : 1 ≤ m) : ∀ k, (∀ a, frsG st m k = some a → okR st m k a ∧ ∀ b < a, ¬ okR st m k b) ∧ (frsG st m k = none → ∀ b, ¬ okR st m k b)
  | 0 => ⟨fun a h => (by cases h), fun _ b h => (by have := h.1; omega)⟩
  | k + 1 => by
    obtain ⟨i1, i2⟩ := frs_spec hm k
    have e : frsG st m (k + 1) = match frsG st m k with
      | some a => some a
      | none => if m ≤ tl st (k + 1) then some (k + 1 - m) else none := rfl
    cases hg : frsG st m k with
    | some a =>
      rw [hg] at e
      obtain ⟨⟨h1, h2⟩, h3⟩ := i1 a hg
      refine ⟨fun a' h => ?_, fun h => (by rw [e] at h; cases h)⟩
      rw [e] at h
      cases h
      exact ⟨⟨by omega, h2⟩, fun b hb h4 => h3 b hb ⟨by omega, h4.2⟩⟩
    | none =>
      rw [hg] at e
      have hn := i2 hg
      simp only at e
      by_cases ht : m ≤ tl st (k + 1)
      · rw [if_pos ht] at e
        obtain ⟨t1, t2⟩ := tl_iff.1 ht
        refine ⟨fun a h => ?_, fun h => (by rw [e] at h; cases h)⟩
        rw [e] at h
        cases h
        exact ⟨⟨by omega, fun j h1 h2 => t2 j h1 (by omega)⟩, fun b hb h4 => hn b ⟨by omega, h4.2⟩⟩
      · rw [if_neg ht] at e
        refine ⟨fun a h => (by rw [e] at h; cases h), fun _ b hb => ?_⟩
        by_cases hl : b + m ≤ k
        · exact hn b ⟨hl, hb.2⟩
        · have := hb.1
          exact ht (tl_iff.2 ⟨by omega, fun j h1 h2 => hb.2 j (by omega) (by omega)⟩)
theorem find_app {α : Type} (p : α → Bool) (a b : List α) : (a ++ b).find? p = match a.find? p with
    | some x => some x
    | none => b.find? p := by
  rw [List.find?_append]
  cases a.find? p <;> rfl
/-- The first run that is long enough begins where so many free ones begin first. -/
theorem first_eq {st : List Int} {m : Nat} (hm : 1 ≤ m) : ∀ k, ((rnR st k).find? fun p => decide ((m : Int) ≤ p.2)).map (·.1) = (frsG st m k).map fun a : Nat => (a : Int)
  | 0 => rfl
  | k + 1 => by
    have ih := first_eq (st := st) hm k
    have ht := tl_le st k
    have e : frsG st m (k + 1) = match frsG st m k with
      | some a => some a
      | none => if m ≤ tl st (k + 1) then some (k + 1 - m) else none := rfl
    by_cases h : st.getD k 0 = 0
    · have e1 : tl st (k + 1) = tl st k + 1 := by rw [tl, if_pos h]
      rw [rnR_free h, find_app]
      unfold rnR at ih
      rw [find_app] at ih
      cases hd : (dnR st k).find? fun p => decide ((m : Int) ≤ p.2) with
      | some x =>
        rw [hd] at ih
        cases hg : frsG st m k with
        | none => rw [hg] at ih; cases ih
        | some a => rw [hg] at ih e; rw [e]; exact ih
      | none =>
        rw [hd] at ih
        simp only at ih
        by_cases hc : m ≤ tl st k
        · have h0 : ¬ tl st k = 0 := by omega
          unfold curR at ih
          rw [if_neg h0, List.find?_cons_of_pos (by simp only [decide_eq_true_eq]; omega)] at ih
          cases hg : frsG st m k with
          | none => rw [hg] at ih; cases ih
          | some a =>
            rw [hg] at ih e
            rw [e, List.find?_cons_of_pos (by simp only [decide_eq_true_eq]; omega)]
            exact ih
        · have hn : (curR st k).find? (fun p => decide ((m : Int) ≤ p.2)) = none := by
            unfold curR
            split
            · rfl
            · rw [List.find?_cons_of_neg (by simp only [decide_eq_true_eq]; omega)]; rfl
          rw [hn] at ih
          cases hg : frsG st m k with
          | some a => rw [hg] at ih; cases ih
          | none =>
            rw [hg] at e
            simp only at e
            rw [e, e1]
            by_cases h1 : m ≤ tl st k + 1
            · rw [if_pos h1, List.find?_cons_of_pos (by simp only [decide_eq_true_eq]; omega)]
              have : k + 1 - m = k - tl st k := by omega
              rw [this]; rfl
            · rw [if_neg h1, List.find?_cons_of_neg (by simp only [decide_eq_true_eq]; omega)]; rfl
    · have e1 : tl st (k + 1) = 0 := by rw [tl, if_neg h]
      rw [rnR_not h, ih, e, e1, if_neg (by omega)]
      cases frsG st m k <;> rfl
def mxL (l : List Int) : Int := l.foldl (fun a b => if a < b then b else a) 0
theorem mx_ge {m : Int} : ∀ (l : List Int) (a : Int), m ≤ l.foldl (fun a b => if a < b then b else a) a ↔ m ≤ a ∨ ∃ x ∈ l, m ≤ x
  | [], a => by simp
  | x :: l, a => by
    rw [List.foldl_cons, mx_ge l]
    simp only [List.mem_cons, exists_eq_or_imp]
    split
    · constructor
      · rintro (h | h)
        · exact .inr (.inl h)
        · exact .inr (.inr h)
      · rintro (h | h | h)
        · exact .inl (by omega)
        · exact .inl h
        · exact .inr h
    · constructor
      · rintro (h | h)
        · exact .inl h
        · exact .inr (.inr h)
      · rintro (h | h | h)
        · exact .inl h
        · exact .inl (by omega)
        · exact .inr h
theorem sum_len {st : List Int} : ∀ k, k ≤ st.length → ((rnR st k).map (·.2)).sum = (((st.take k).count 0 : Nat) : Int)
  | 0, _ => rfl
  | k + 1, hk => by
    have ih := sum_len (st := st) k (by omega)
    have hg : st.getD k 0 = st[k] := by rw [List.getD_eq_getElem?_getD, List.getElem?_eq_getElem (by omega)]; rfl
    rw [List.take_succ_eq_append_getElem (by omega), List.count_append, List.count_singleton]
    by_cases h : st.getD k 0 = 0
    · rw [rnR_free h]
      unfold rnR at ih
      rw [List.map_append, List.sum_append] at ih ⊢
      rw [← hg, h]
      unfold curR at ih
      split at ih
      · rename_i h0
        rw [h0]
        simp at ih ⊢
        omega
      · simp at ih ⊢
        omega
    · rw [rnR_not h, ih]
      rw [← hg, if_neg (by rw [beq_iff_eq]; exact h), Nat.add_zero]
end Go.Proofs.Ythmpdfmdhfgaaaa
