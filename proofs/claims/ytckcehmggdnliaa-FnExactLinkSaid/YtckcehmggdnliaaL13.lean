/- The data level, part 13: stores. -/
import Derived.Test.YtckcehmggdnliaaL12
namespace Go.Proofs.Ytckcehmggdnliaa.DL
open Go Go.RowKit

section
variable {P : Program} {tb : Tb} {φ : Option Nat → List Nat} {w0 w w' : World} {F0 : List Nat} {sl : Sl} {fx : SV} {ts : Array Value} {fv : Value} {ds : List Deferred}

def landed (φ : Option Nat → List Nat) (s : Nat) (ψ' : List Nat) : Option Nat → List Nat := fun t => if t = some s then ψ' else if t = none then [] else φ t

theorem landed_kept (h : RelW φ w0 F0 sl fx ts fv w) {s : Nat} {ψ' : List Nat} (hx : Ext (φ (some s)) w w') (hψ : ∀ b ∈ ψ', b ∈ φ (some s) ∨ b ∈ φ none) {t : Option Nat} (ht : t ≠ some s) {R : List Nat}
    (hR : ∀ r ∈ R, r ≠ s) : Kept w φ (valAt ts) w' (landed φ s ψ') (valAt ts) (φ t) R := by
  refine ⟨hx.size, fun b hb => hx.block b (h.lt t b hb).1 (h.dj t (some s) ht b hb), fun r hr => ⟨rfl, by simp [landed, hR r hr], fun b hb => hx.block b (h.lt _ b hb).1 (h.dj (some r) (some s) (by simpa using hR r hr) b hb)⟩,
    fun b hb hf => ⟨hx.block b hb (hf (some s)), fun t ht => ?_⟩⟩
  unfold landed at ht
  split at ht
  · rcases hψ b ht with h' | h'
    · exact hf _ h'
    · exact hf _ h'
  · split at ht
    · cases ht
    · exact hf _ ht

/-- Slot s is written through, what was in flight comes to it. -/
theorem RelW.write (h : RelW φ w0 F0 sl fx ts fv w) (s : Nat) (hs : s < sl.length) {x' : SV} {ψ' : List Nat} {keep : SV → SV} (hx : Ext (φ (some s)) w w') (hnd : ψ'.Nodup)
    (hψ : ∀ b ∈ ψ', b ∈ φ (some s) ∨ b ∈ φ none) (hrel : SlotRel w' (landed φ s ψ') (valAt ts) (valAt ts s) ψ' x') (hk0 : ∀ y, s ∉ y.roots → keep y = y)
    (hk1 : ∀ t y, t ≠ s → sl[t]? = some y → s ∈ y.roots → SlotRel w' (landed φ s ψ') (valAt ts) (valAt ts t) (φ (some t)) (keep y)) :
    RelW (landed φ s ψ') w0 F0 ((sl.map keep).set s x') .und ts undef w' := by
  let H := (List.range sl.length).filter fun t => decide (s ∈ (gt sl t).roots)
  have hH : ∀ t, t ∈ H ↔ ∃ y, sl[t]? = some y ∧ s ∈ y.roots := fun t => by
    simp only [H, List.mem_filter, List.mem_range, decide_eq_true_eq]
    constructor
    · rintro ⟨h1, h2⟩
      refine ⟨sl[t], List.getElem?_eq_getElem h1, ?_⟩
      simpa [gt, List.getD, List.getElem?_eq_getElem h1] using h2
    · rintro ⟨y, h1, h2⟩
      have hl := (List.getElem?_eq_some_iff.1 h1).1
      refine ⟨hl, ?_⟩
      simpa [gt, List.getD, h1] using h2
  let M : List (Option Nat) := some s :: none :: H.map some
  have hM : ∀ t, t ∈ M ↔ t = some s ∨ t = none ∨ ∃ k ∈ H, t = some k := fun t => by
    simp only [M, List.mem_cons, List.mem_map]
    constructor
    · rintro (h | h | ⟨k, h1, h2⟩)
      · exact .inl h
      · exact .inr (.inl h)
      · exact .inr (.inr ⟨k, h1, h2.symm⟩)
    · rintro (h | h | ⟨k, h1, h2⟩)
      · exact .inl h
      · exact .inr (.inl h)
      · exact .inr (.inr ⟨k, h1, h2.symm⟩)
  have e_s : landed φ s ψ' (some s) = ψ' := by simp [landed]
  have e_n : landed φ s ψ' none = [] := by simp [landed]
  have e_t : ∀ t, t ≠ some s → t ≠ none → landed φ s ψ' t = φ t := fun t h1 h2 => by simp [landed, h1, h2]
  have hget : ∀ t, t ≠ s → ((sl.map keep).set s x')[t]? = (sl[t]?).map keep := fun t ht => by rw [List.getElem?_set_ne (Ne.symm ht), List.getElem?_map]
  refine h.update M (by simp [h.len]) (hx.mono fun b hb _ => List.mem_flatMap.2 ⟨some s, (hM _).2 (.inl rfl), hb⟩) (fun t ht => ?_) (fun m hm b hb => ?_) (fun m hm => ?_) (fun m hm m' hm' hne b hb hb' => ?_)
    (fun t ht => ?_) (fun t ht => ?_) (fun m hm x hx' => ?_)
  · exact e_t t (fun e => ht ((hM t).2 (.inl e))) (fun e => ht ((hM t).2 (.inr (.inl e))))
  · by_cases e1 : m = some s
    · subst e1
      rw [e_s] at hb
      rcases hψ b hb with h' | h'
      · exact ⟨Nat.lt_of_lt_of_le (h.lt _ b h').1 hx.size, .inl ⟨_, hm, h'⟩⟩
      · exact ⟨Nat.lt_of_lt_of_le (h.lt _ b h').1 hx.size, .inl ⟨none, (hM _).2 (.inr (.inl rfl)), h'⟩⟩
    · by_cases e2 : m = none
      · subst e2; rw [e_n] at hb; cases hb
      · rw [e_t m e1 e2] at hb
        exact ⟨Nat.lt_of_lt_of_le (h.lt _ b hb).1 hx.size, .inl ⟨m, hm, hb⟩⟩
  · by_cases e1 : m = some s
    · subst e1; rw [e_s]; exact hnd
    · by_cases e2 : m = none
      · subst e2; rw [e_n]; exact .nil
      · rw [e_t m e1 e2]; exact h.nd m
  · have aux : ∀ m', m' ≠ some s → ∀ b ∈ ψ', b ∉ landed φ s ψ' m' := fun m' e b hb hb' => by
      by_cases e2 : m' = none
      · subst e2; rw [e_n] at hb'; cases hb'
      · rw [e_t m' e e2] at hb'
        rcases hψ b hb with h' | h'
        · exact h.dj _ _ (Ne.symm e) b h' hb'
        · exact h.dj _ _ (Ne.symm e2) b h' hb'
    by_cases e1 : m = some s
    · subst e1
      rw [e_s] at hb
      exact aux m' (Ne.symm hne) b hb hb'
    · by_cases e1' : m' = some s
      · subst e1'
        rw [e_s] at hb'
        exact aux m e1 b hb' hb
      · by_cases e2 : m = none
        · subst e2; rw [e_n] at hb; cases hb
        · by_cases e2' : m' = none
          · subst e2'; rw [e_n] at hb'; cases hb'
          · rw [e_t m e1 e2] at hb
            rw [e_t m' e1' e2'] at hb'
            exact h.dj m m' hne b hb hb'
  · cases t with
    | none => exact absurd ((hM none).2 (.inr (.inl rfl))) ht
    | some t => rfl
  · cases t with
    | none => exact absurd ((hM none).2 (.inr (.inl rfl))) ht
    | some t =>
      have hts : t ≠ s := fun e => ht ((hM _).2 (.inl (by rw [e])))
      have hnr : ∀ y, sl[t]? = some y → s ∉ y.roots := fun y hy hr => ht ((hM _).2 (.inr (.inr ⟨t, (hH t).2 ⟨y, hy, hr⟩, rfl⟩)))
      refine ⟨?_, fun y hy => .inr ?_⟩
      · simp only [sget]
        rw [hget t hts]
        cases hy : sl[t]? with
        | none => rfl
        | some y => simp [hk0 y (hnr y hy)]
      · simp only [vget]
        rw [e_t (some t) (by simpa using hts) (by simp)]
        exact (h.slot (some t) y hy).kept (landed_kept h hx hψ (by simpa using hts) fun r hr e => hnr y hy (e ▸ hr))
  · rcases (hM m).1 hm with e | e | ⟨k, hk, e⟩
    · subst e
      simp only [sget] at hx'
      rw [List.getElem?_set_self (by simpa using hs)] at hx'
      cases hx'
      rw [e_s]
      exact hrel
    · subst e; cases hx'; exact rfl
    · subst e
      obtain ⟨y, hy, hr⟩ := (hH k).1 hk
      by_cases ek : k = s
      · subst ek
        simp only [sget] at hx'
        rw [List.getElem?_set_self (by simpa using hs)] at hx'
        cases hx'
        rw [e_s]
        exact hrel
      · simp only [sget] at hx'
        rw [hget k ek, hy] at hx'
        cases hx'
        rw [e_t (some k) (by simpa using ek) (by simp)]
        exact hk1 k y ek hy hr

end

end Go.Proofs.Ytckcehmggdnliaa.DL
