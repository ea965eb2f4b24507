/- The data level, part 19: regions whose operations may run in more than one order: a segment between two cuts. -/
import Derived.Test.YtckcehmggdnliaaL18
import Derived.Deep.LoopGhost
namespace Go.Proofs.Ytckcehmggdnliaa.DL
open Go Go.RowKit

theorem maskTab_pre : ∀ (os : List Oper) (tab : List Nat), ∃ r, maskTab os tab = tab ++ r ∧ r.length = os.length
  | [], tab => ⟨[], by simp [maskTab], rfl⟩
  | o :: os, tab => by
    obtain ⟨r, h, hl⟩ := maskTab_pre os (tab ++ [maskOf tab (afters o)])
    exact ⟨maskOf tab (afters o) :: r, by simp [maskTab, h], by simp [hl]⟩

theorem maskOf_bit {tab : List Nat} {b : Nat} : ∀ js : List Nat, (maskOf tab js).testBit b = true ↔ ∃ j ∈ js, b = j ∨ (tab.getD j 0).testBit b = true
  | [] => by simp [maskOf]
  | j :: js => by
    simp only [maskOf, Nat.testBit_or, Bool.or_eq_true, maskOf_bit js, List.mem_cons, exists_eq_or_imp, Nat.testBit_two_pow, decide_eq_true_eq]
    constructor
    · rintro ((h | h) | h)
      · exact .inl (.inl h.symm)
      · exact .inl (.inr h)
      · exact .inr h
    · rintro ((h | h) | h)
      · exact .inl (.inl h.symm)
      · exact .inl (.inr h)
      · exact .inr h

theorem getD_pre {tab r : List Nat} {j : Nat} (h : j < tab.length) : (tab ++ r).getD j 0 = tab.getD j 0 := by simp [List.getElem?_append_left h]

theorem mask_spec : ∀ (os : List Oper) (tab : List Nat) (i : Nat) (o : Oper), os[i]? = some o → ∃ pre : List Nat, pre.length = tab.length + i ∧ (∃ r, maskTab os tab = pre ++ r) ∧
    (maskTab os tab).getD (tab.length + i) 0 = maskOf pre (afters o)
  | [], _, i, o, h => by simp at h
  | o' :: os, tab, 0, o, h => by
    simp only [List.getElem?_cons_zero, Option.some.injEq] at h
    subst h
    obtain ⟨r, hr, -⟩ := maskTab_pre os (tab ++ [maskOf tab (afters o')])
    exact ⟨tab, rfl, ⟨maskOf tab (afters o') :: r, by simp [maskTab, hr]⟩, by simp [maskTab, hr]⟩
  | o' :: os, tab, i + 1, o, h => by
    simp only [List.getElem?_cons_succ] at h
    obtain ⟨pre, h1, h2, h3⟩ := mask_spec os (tab ++ [maskOf tab (afters o')]) i o h
    refine ⟨pre, by simp at h1; omega, h2, ?_⟩
    have : tab.length + (i + 1) = (tab ++ [maskOf tab (afters o')]).length + i := by simp; omega
    rw [this]
    exact h3

/-- The masks of a region: what they are, and that they look back. -/
structure Masks (ops : Array Oper) (tab : List Nat) : Prop where
  len : tab.length = ops.size
  here : ∀ k o, ops[k]? = some o → ∀ j ∈ afters o, (tab.getD k 0).testBit j = true
  bit : ∀ k o b, ops[k]? = some o → (tab.getD k 0).testBit b = true → ∃ j ∈ afters o, b = j ∨ (tab.getD j 0).testBit b = true
  back : ∀ k b, (tab.getD k 0).testBit b = true → b < k

theorem backB_spec : ∀ (tab : List Nat) (k i : Nat) (m : Nat), backB tab k = true → tab[i]? = some m → m < 2 ^ (k + i)
  | [], _, _, _, _, h => by simp at h
  | x :: xs, k, 0, m, hb, h => by
    simp only [List.getElem?_cons_zero, Option.some.injEq] at h
    subst h
    simp only [backB, Bool.and_eq_true] at hb
    exact Nat.le_of_ble_eq_true hb.1
  | x :: xs, k, i + 1, m, hb, h => by
    simp only [backB, Bool.and_eq_true] at hb
    have := backB_spec xs (k + 1) i m hb.2 (by simpa using h)
    have e : k + 1 + i = k + (i + 1) := by omega
    rwa [e] at this

theorem masks {ops : Array Oper} (hb : backB (maskTab ops.toList []) 0 = true) : Masks ops (maskTab ops.toList []) := by
  have spec : ∀ k o, ops[k]? = some o → ∃ pre : List Nat, pre.length = k ∧ (∃ r, maskTab ops.toList [] = pre ++ r) ∧ (maskTab ops.toList []).getD k 0 = maskOf pre (afters o) := fun k o h => by
    obtain ⟨pre, h1, h2, h3⟩ := mask_spec ops.toList [] k o (by simpa using h)
    exact ⟨pre, by simpa using h1, h2, by simpa using h3⟩
  refine ⟨?_, fun k o h j hj => ?_, fun k o b h hb' => ?_, fun k b hb' => ?_⟩
  · obtain ⟨r, h, hl⟩ := maskTab_pre ops.toList []
    rw [h]; simpa using hl
  · obtain ⟨pre, h1, h2, h3⟩ := spec k o h
    rw [h3, maskOf_bit]
    exact ⟨j, hj, .inl rfl⟩
  · obtain ⟨pre, h1, ⟨r, h2⟩, h3⟩ := spec k o h
    rw [h3, maskOf_bit] at hb'
    obtain ⟨j, hj, h4⟩ := hb'
    refine ⟨j, hj, h4.imp id fun h5 => ?_⟩
    rw [h2]
    by_cases hlt : j < pre.length
    · rw [getD_pre hlt]; exact h5
    · have : pre.getD j 0 = 0 := by simp [List.getElem?_eq_none (Nat.le_of_not_lt hlt)]
      rw [this] at h5
      simp at h5
  · cases hk : (maskTab ops.toList [])[k]? with
    | none => simp [hk] at hb'
    | some m =>
      have := backB_spec _ 0 k m hb hk
      simp only [List.getD_eq_getElem?_getD, hk, Option.getD_some] at hb'
      rcases Nat.lt_or_ge b k with h | h
      · exact h
      · have : m < 2 ^ b := Nat.lt_of_lt_of_le this (Nat.pow_le_pow_right (by omega) (by omega))
        rw [Nat.testBit_lt_two_pow this] at hb'
        cases hb'

theorem cutB_spec {tab : List Nat} {e k b : Nat} (h : cutB tab e = true) (hk : e ≤ k) (hl : k < tab.length) (hb : b < e) : (tab.getD k 0).testBit b = true := by
  have hm : tab[k]'hl ∈ tab.drop e := by
    rw [List.mem_iff_getElem]
    exact ⟨k - e, by rw [List.length_drop]; omega, by rw [List.getElem_drop]; congr 1; omega⟩
  have h1 := List.all_eq_true.1 h _ hm
  have h2 : tab[k]'hl &&& (2 ^ e - 1) = 2 ^ e - 1 := by simpa using h1
  have h3 := congrArg (fun m => m.testBit b) h2
  simp only [Nat.testBit_and, Nat.testBit_two_pow_sub_one, hb, decide_true, Bool.and_true] at h3
  simpa [List.getD_eq_getElem?_getD, List.getElem?_eq_getElem hl] using h3

section
variable {P : Program} {ops : Array Oper} {tab : List Nat} {Q : Exit → Act → World → Prop}

def at' (listed : Array Bool) (j : Nat) : Bool := listed.getD j false
def cnt (ops : Array Oper) (listed : Array Bool) : Nat := ((List.range ops.size).filter fun j => !at' listed j).length
def upd (L : Nat → Bool) (k : Nat) : Nat → Bool := fun j => if j = k then true else L j

theorem at_set {listed : Array Bool} {k : Nat} (hk : k < listed.size) : at' (listed.setIfInBounds k true) = upd (at' listed) k := by
  funext j
  unfold at' upd
  split
  · rename_i e; subst e; simp [hk]
  · rename_i e; rw [getD_set_ne false (fun e' => e e'.symm)]

theorem cnt_set {listed : Array Bool} {k : Nat} (hs : listed.size = ops.size) (hk : k < ops.size) (hu : at' listed k = false) : cnt ops (listed.setIfInBounds k true) < cnt ops listed := by
  unfold cnt
  rw [at_set (by omega)]
  have : ((List.range ops.size).filter fun j => !upd (at' listed) k j) = ((List.range ops.size).filter fun j => !at' listed j).filter fun j => j ≠ k := by
    rw [List.filter_filter]
    congr 1
    funext j
    unfold upd
    by_cases e : j = k <;> simp [e]
  rw [this]
  refine List.length_filter_lt_length_iff_exists.2 ⟨k, List.mem_filter.2 ⟨List.mem_range.2 hk, by simp [hu]⟩, by simp⟩

/-- A segment [c, c + n): what is kept (S) of the operations that have run, and what each step asks. -/
theorem seg_abs (hM : Masks ops tab) {c n : Nat} (hn : c + n ≤ ops.size) (hcut : cutB tab (c + n) = true) (S : (Nat → Bool) → Act → World → Prop)
    (hS : ∀ L L' a w, (∀ j, c ≤ j → j < c + n → L j = L' j) → S L a w → S L' a w)
    (step : ∀ k o L a w K, c ≤ k → k < c + n → ops[k]? = some o → L k = false → (∀ j, L j = true → ∀ b, (tab.getD j 0).testBit b = true → L b = true) →
      (∀ b, (tab.getD k 0).testBit b = true → L b = true) → S L a w → (∀ a' w', S (upd L k) a' w' → K a' w') → wpOp P ops Q k K a w)
    (next : ∀ fuel listed a w, listed.size = ops.size → (∀ j < ops.size, at' listed j = decide (j < c + n)) → cnt ops listed ≤ fuel → S (fun j => decide (j < c + n)) a w → wpAny P .any ops Q fuel listed a w) :
    ∀ (fuel : Nat) (listed : Array Bool) (a : Act) (w : World), listed.size = ops.size → (∀ j < c, at' listed j = true) → (∀ j, c + n ≤ j → at' listed j = false) →
      (∀ j, at' listed j = true → ∀ b, (tab.getD j 0).testBit b = true → at' listed b = true) → cnt ops listed ≤ fuel → S (at' listed) a w → wpAny P .any ops Q fuel listed a w := by
  intro fuel
  induction fuel with
  | zero =>
    intro listed a w hs h1 h2 hcl hcnt h
    refine next 0 listed a w hs (fun j hj => ?_) hcnt (hS _ _ a w (fun j hj1 hj2 => ?_) h)
    · have : at' listed j = true := by
        unfold cnt at hcnt
        have : ((List.range ops.size).filter fun j => !at' listed j) = [] := List.length_eq_zero_iff.1 (by omega)
        simpa using List.filter_eq_nil_iff.1 this j (List.mem_range.2 hj)
      rw [this]
      symm
      rw [decide_eq_true_eq]
      rcases Nat.lt_or_ge j (c + n) with h' | h'
      · exact h'
      · rw [h2 j h'] at this; cases this
    · unfold cnt at hcnt
      have : ((List.range ops.size).filter fun j => !at' listed j) = [] := List.length_eq_zero_iff.1 (by omega)
      have := List.filter_eq_nil_iff.1 this j (List.mem_range.2 (by omega))
      simp only [Bool.not_eq_true', Bool.not_eq_false] at this
      rw [this]; simp [hj2]
  | succ fuel ih =>
    intro listed a w hs h1 h2 hcl hcnt h
    by_cases hall : ∀ j, c ≤ j → j < c + n → at' listed j = true
    · refine next (fuel + 1) listed a w hs (fun j hj => ?_) hcnt (hS _ _ a w (fun j hj1 hj2 => ?_) h)
      · rcases Nat.lt_or_ge j c with h' | h'
        · rw [h1 j h']; simp; omega
        · rcases Nat.lt_or_ge j (c + n) with h'' | h''
          · rw [hall j h' h'']; simp [h'']
          · rw [h2 j h'']; simp; omega
      · rw [hall j hj1 hj2]; simp [hj2]
    · have hex : ∃ k, at' listed k = false ∧ k < c + n := by
        refine Classical.byContradiction fun hno => hall fun j hj1 hj2 => ?_
        cases hj : at' listed j with
        | true => rfl
        | false => exact absurd ⟨j, hj, hj2⟩ hno
      obtain ⟨k, ⟨hk, hkn⟩, hleast⟩ := exists_least hex
      have hkc : c ≤ k := by
        rcases Nat.lt_or_ge k c with h' | h'
        · rw [h1 k h'] at hk; cases hk
        · exact h'
      have before : ∀ j, j < k → at' listed j = true := fun j hj => by
        cases hj' : at' listed j with
        | true => rfl
        | false => have := hleast j ⟨hj', by omega⟩; omega
      have getTF : ∀ j, j < ops.size → listed.getD j true = at' listed j := fun j hj => by simp [at', hs, hj]
      have ready_k : k ∈ Region.ready .any ops listed := by
        rw [mem_ready]
        have hkl : k < ops.size := by omega
        refine ⟨by rw [getTF k hkl]; exact hk, ops[k], Array.getElem?_eq_getElem hkl, fun e he hb => ?_⟩
        have hm : e.on ∈ afters ops[k] := List.mem_map.2 ⟨e, List.mem_filter.2 ⟨by simpa using he, hb⟩, rfl⟩
        exact before _ (hM.back k _ (hM.here k _ (Array.getElem?_eq_getElem hkl) _ hm))
      refine ⟨fun e => (by rw [e] at ready_k; cases ready_k), fun i hi => ?_⟩
      obtain ⟨hi0, o, ho, hdir⟩ := mem_ready.1 hi
      have hil : i < ops.size := (Array.getElem?_eq_some_iff.1 ho).1
      have hiu : at' listed i = false := by rw [← getTF i hil]; exact hi0
      have hic : c ≤ i := by
        rcases Nat.lt_or_ge i c with h' | h'
        · rw [h1 i h'] at hiu; cases hiu
        · exact h'
      have hbits : ∀ b, (tab.getD i 0).testBit b = true → at' listed b = true := fun b hb => by
        obtain ⟨j, hj, h3⟩ := hM.bit i o b ho hb
        obtain ⟨e, he, rfl⟩ := List.mem_map.1 hj
        have hej : at' listed e.on = true := hdir e (by simpa using (List.mem_filter.1 he).1) (List.mem_filter.1 he).2
        rcases h3 with rfl | h3
        · exact hej
        · exact hcl _ hej b h3
      have hin : i < c + n := by
        rcases Nat.lt_or_ge i (c + n) with h' | h'
        · exact h'
        · have := hbits k (cutB_spec hcut h' (by rw [hM.len]; exact hil) hkn)
          rw [hk] at this; cases this
      have hset := at_set (listed := listed) (k := i) (by omega)
      refine step i o (at' listed) a w _ hic hin ho hiu hcl hbits h fun a' w' h' => ih _ a' w' (by simp [hs]) (fun j hj => ?_) (fun j hj => ?_) (fun j hj b hb => ?_) ?_ (by rw [hset]; exact h')
      · rw [hset]; unfold upd; split
        · rfl
        · exact h1 j hj
      · rw [hset]; unfold upd; rw [if_neg (by omega)]; exact h2 j hj
      · rw [hset] at hj ⊢
        unfold upd at hj ⊢
        split
        · rfl
        · split at hj
          · rename_i e; subst e; exact hbits b hb
          · exact hcl j hj b hb
      · have := cnt_set (ops := ops) hs hil hiu
        omega
end
end Go.Proofs.Ytckcehmggdnliaa.DL
