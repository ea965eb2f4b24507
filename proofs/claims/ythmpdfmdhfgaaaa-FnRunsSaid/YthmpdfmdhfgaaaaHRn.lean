/- Contracts of small functions: runs of free chunks. -/
import Derived.Test.YthmpdfmdhfgaaaaHRp
import Derived.Test.YthmpdfmdhfgaaaaHWp
import Derived.Test.YthmpdfmdhfgaaaaVHRn
namespace Go.Proofs.Ythmpdfmdhfgaaaa
open Go Go.Proofs.Ythmpdfmdhfgaaaa.DL
set_option maxRecDepth 100000

theorem getPS (sz : Nat) (es : List DV) (j : Nat) : (DV.sl sz es).getP [j] = es.getD j dfl := rfl
theorem prs_get {R : List (Int × Int)} {i : Nat} (h : i < R.length) : (prs R).getD (i * 2) dfl = iV R[i].1 ∧ (prs R).getD (i * 2 + 1) dfl = iV R[i].2 :=
  ⟨flat_getD enc2_len R i 0 h (by omega), flat_getD enc2_len R i 1 h (by omega)⟩
theorem prs_last (A : List (Int × Int)) (p : Int × Int) : (prs (A ++ [p])).getD (A.length * 2) dfl = iV p.1 ∧ (prs (A ++ [p])).getD (A.length * 2 + 1) dfl = iV p.2 := by
  have h := prs_get (R := A ++ [p]) (i := A.length) (by simp)
  simpa using h
theorem prs_set (A : List (Int × Int)) (s l l' : Int) : (prs (A ++ [(s, l)])).set (A.length * 2 + 1) (iV l') = prs (A ++ [(s, l')]) := by
  rw [prs_app, prs_app, List.set_append_right _ _ (by rw [prs_length]; omega), prs_length, Nat.add_sub_cancel_left]
  rfl
theorem n_pair (a b : Int) : (DV.sl 2 [iV a, iV b]).n = 1 := by rw [DV.n_eq]; simp
set_option maxHeartbeats 1000000 in
theorem c_runsOf {p : Pool} (hp : p.st.length ≤ 1048576) : CallD Try.prog F_impl_runsOf [rPool p] fun r _ => r = oneC (.own (.sl 2 (prs (rnR p.st p.st.length)))) := by
  refine k_impl_runsOf ?_
  unfold vc_impl_runsOf
  simp only [nI, n_ints]
  refine ⟨fun es i m => ∃ k : Nat, i = k ∧ k ≤ p.st.length ∧ m = p.st.length - k ∧ es = prs (rnR p.st k), ⟨_, 0, rfl, Nat.zero_le _, rfl, rfl⟩, ?_⟩
  rintro es i m ⟨k, rfl, hk, rfl, rfl⟩
  have w1 : IntKind.i64.wrap ((k : Int) + 1) = ((k + 1 : Nat) : Int) := by rw [wrap_id] <;> omega
  rw [w1]
  simp only [Int.toNat_natCast, Nat.mul_one, decide_eq_true_eq (p := (k : Int) < p.st.length), decide_eq_false_iff_not (p := (k : Int) < p.st.length)]
  refine ⟨fun h1 => ?_, fun h1 => ?_⟩
  · have ha : k < p.st.length := by omega
    have nx : ∀ es, es = prs (rnR p.st (k + 1)) → ∃ m, m < p.st.length - k ∧ ∃ k' : Nat, ((k + 1 : Nat) : Int) = k' ∧ k' ≤ p.st.length ∧ m = p.st.length - k' ∧ es = prs (rnR p.st k') := fun es he => ⟨p.st.length - (k + 1), by omega, k + 1, rfl, by omega, rfl, he⟩
    simp only [hd_ints ha, isI_iV, asI_iV]
    refine ⟨by omega, by omega, by simp [ints]; omega, trivial, fun g => ⟨⟨trivial, trivial⟩, nx _ ?_⟩, fun g => ?_⟩
    · rw [rnR_not (by simpa using g)]
    · have g0 : p.st.getD k 0 = 0 := by simpa using g
      have hlen := rn_len (st := p.st) k
      have ht := tl_le p.st k
      simp only [n_prs, n_pair, getPS]
      by_cases h0 : tl p.st k = 0
      · have eR : rnR p.st k = dnR p.st k := lens_done h0
        have eA : prs (rnR p.st k) ++ [iV (k : Int), iV 1] = prs (rnR p.st (k + 1)) := by
          rw [rnR_free g0, prs_app, eR, h0]; rfl
        have app : ((rnR p.st k).length + 1) * 16 ≤ 140737488355328 ∧ (rnR p.st k).length + 1 ≤ 140737488355328 := by omega
        refine ⟨fun g1 => ?_, fun g1 => ⟨app.1, app.2, ⟨trivial, trivial⟩, nx _ eA⟩⟩
        have hpos : 0 < (rnR p.st k).length := by
          have := of_decide_eq_true g1
          by_cases e : (rnR p.st k).length = 0
          · rw [e, wrap_id] at this <;> omega
          · omega
        obtain ⟨n, hn⟩ : ∃ n, (rnR p.st k).length = n + 1 := ⟨(rnR p.st k).length - 1, by omega⟩
        have wn : IntKind.i64.wrap (((rnR p.st k).length : Int) - 1) = (n : Int) := by rw [hn, wrap_id] <;> omega
        obtain ⟨q1, q2⟩ := prs_get (R := rnR p.st k) (i := n) (by omega)
        have hm : (rnR p.st k)[n]'(by omega) ∈ dnR p.st k := by rw [← eR]; exact List.getElem_mem _
        have hb := dn_mem hm
        have hx : decide (IntKind.i64.wrap (((rnR p.st k)[n]'(by omega)).1 + ((rnR p.st k)[n]'(by omega)).2) = (k : Int)) = false := by
          rw [wrap_id (by omega) (by omega)]
          exact decide_eq_false (by omega)
        rw [wn]
        simp only [Int.toNat_natCast, Nat.add_zero, q1, q2, asI_iV]
        rw [hx]
        refine ⟨by omega, by omega, ⟨by rw [es_sl, prs_length]; omega, trivial⟩, rfl, by omega, by omega, ⟨by rw [es_sl, prs_length]; omega, trivial⟩, rfl, fun g2 => (by cases g2), fun _ => ⟨app.1, app.2, ⟨trivial, trivial⟩, nx _ eA⟩⟩
      · have eR : rnR p.st k = dnR p.st k ++ [(((k - tl p.st k : Nat) : Int), ((tl p.st k : Nat) : Int))] := by
          unfold rnR curR; rw [if_neg h0]
        have eS := rnR_free g0
        rw [eR, List.length_append, List.length_singleton] at hlen ⊢
        generalize dnR p.st k = D at *
        have wn : IntKind.i64.wrap (((D.length + 1 : Nat) : Int) - 1) = (D.length : Int) := by rw [wrap_id] <;> omega
        obtain ⟨q1, q2⟩ := prs_last D (((k - tl p.st k : Nat) : Int), ((tl p.st k : Nat) : Int))
        simp only at q1 q2
        have hx : decide (IntKind.i64.wrap (((k - tl p.st k : Nat) : Int) + ((tl p.st k : Nat) : Int)) = (k : Int)) = true := by
          rw [wrap_id (by omega) (by omega)]
          exact decide_eq_true (by omega)
        have wl : IntKind.i64.wrap (((tl p.st k : Nat) : Int) + 1) = ((tl p.st k + 1 : Nat) : Int) := by rw [wrap_id] <;> omega
        rw [wn]
        simp only [Int.toNat_natCast, Nat.add_zero, q1, q2, asI_iV, wl, prs_set]
        rw [hx]
        refine ⟨fun _ => ⟨by omega, by omega, ⟨by rw [es_sl, prs_length, List.length_append, List.length_singleton]; omega, trivial⟩, rfl, by omega, by omega, ⟨by rw [es_sl, prs_length, List.length_append, List.length_singleton]; omega, trivial⟩, rfl,
          fun _ => ⟨by omega, by omega, ⟨by rw [es_sl, prs_length, List.length_append, List.length_singleton]; omega, trivial⟩, rfl, by omega, by omega, trivial, by rw [es_sl, prs_length, List.length_append, List.length_singleton]; omega, ⟨trivial, trivial⟩, nx _ (by rw [eS])⟩, fun g2 => (by cases g2)⟩, fun g1 => ?_⟩
        have := of_decide_eq_false g1
        omega
  · have : k = p.st.length := by omega
    subst this; rfl
theorem c_Runs {p : Pool} (hp : p.st.length ≤ 1048576) : CallD Try.prog F_impl_Runs [rPool p] fun r _ => r = oI ((rnR p.st p.st.length).map (·.2)) := by
  refine k_impl_Runs ?_
  unfold vc_impl_Runs
  refine ⟨_, c_runsOf hp, ?_⟩
  have hlen := rn_len (st := p.st) p.st.length
  generalize rnR p.st p.st.length = R at *
  simp only [nI, n_prs, n_one, List.length_singleton, getPS]
  refine ⟨fun es i m => ∃ k : Nat, i = k ∧ k ≤ R.length ∧ m = R.length - k ∧ es = ints ((R.take k).map (·.2)), ⟨_, 0, rfl, Nat.zero_le _, rfl, rfl⟩, ?_⟩
  rintro es i m ⟨k, rfl, hk, rfl, rfl⟩
  have w1 : IntKind.i64.wrap ((k : Int) + 1) = ((k + 1 : Nat) : Int) := by rw [wrap_id] <;> omega
  rw [w1]
  simp only [Int.toNat_natCast, decide_eq_true_eq (p := (k : Int) < R.length), decide_eq_false_iff_not (p := (k : Int) < R.length)]
  refine ⟨fun h1 => ?_, fun h1 => ?_⟩
  · have ha : k < R.length := by omega
    obtain ⟨q1, q2⟩ := prs_get ha
    have el : ((R.take k).map (·.2)).length = k := by simp; omega
    simp only [q1, q2, asI_iV, ints_snoc, ints_length, el]
    refine ⟨by omega, by omega, ⟨by rw [es_sl, prs_length]; omega, trivial⟩, rfl, ⟨by rw [es_sl, prs_length]; omega, trivial⟩, rfl, by omega, by omega, ⟨trivial, trivial⟩, R.length - (k + 1), by omega, k + 1, rfl, by omega, rfl, ?_⟩
    rw [List.take_succ_eq_append_getElem ha, List.map_append]; rfl
  · have : k = R.length := by omega
    subst this
    rw [List.take_of_length_le (Nat.le_refl _)]
theorem c_LongestRun {p : Pool} (hp : p.st.length ≤ 1048576) : CallD Try.prog F_impl_LongestRun [rPool p] fun r _ => r = iS (mxL ((rnR p.st p.st.length).map (·.2))) := by
  refine k_impl_LongestRun ?_
  unfold vc_impl_LongestRun
  refine ⟨_, c_runsOf hp, ?_⟩
  have hlen := rn_len (st := p.st) p.st.length
  generalize rnR p.st p.st.length = R at *
  simp only [nI, n_prs, getPS, if_true]
  refine ⟨fun n i m => ∃ k : Nat, i = k ∧ k ≤ R.length ∧ m = R.length - k ∧ n = mxL ((R.take k).map (·.2)), ⟨_, 0, rfl, Nat.zero_le _, rfl, rfl⟩, ?_⟩
  rintro n i m ⟨k, rfl, hk, rfl, rfl⟩
  have w1 : IntKind.i64.wrap ((k : Int) + 1) = ((k + 1 : Nat) : Int) := by rw [wrap_id] <;> omega
  rw [w1]
  simp only [Int.toNat_natCast, decide_eq_true_eq (p := (k : Int) < R.length), decide_eq_false_iff_not (p := (k : Int) < R.length)]
  refine ⟨fun h1 => ?_, fun h1 => ?_⟩
  · have ha : k < R.length := by omega
    obtain ⟨q1, q2⟩ := prs_get ha
    simp only [q1, q2, asI_iV]
    refine ⟨by omega, by omega, ⟨by rw [es_sl, prs_length]; omega, trivial⟩, rfl, ⟨by rw [es_sl, prs_length]; omega, trivial⟩, rfl, ⟨trivial, trivial⟩, R.length - (k + 1), by omega, k + 1, rfl, by omega, rfl, ?_⟩
    unfold mxL
    rw [List.take_succ_eq_append_getElem ha, List.map_append, List.foldl_append]; rfl
  · have : k = R.length := by omega
    subst this
    rw [List.take_of_length_le (Nat.le_refl _)]
/-- Where so many free ones begin first; -1, if nowhere. -/
def firstS (st : List Int) (m : Int) : Int := if m < 1 then -1 else match frsG st m.toNat st.length with
  | some a => (a : Int)
  | none => -1
theorem c_FirstRun {p : Pool} (hp : p.st.length ≤ 1048576) (b : Int) : CallD Try.prog F_impl_FirstRun [rPool p, iS b] fun r _ => r = iS (firstS p.st b) := by
  refine k_impl_FirstRun ?_
  unfold vc_impl_FirstRun firstS
  refine ⟨fun g => iS_eq ?_, fun g => ⟨_, c_runsOf hp, ?_⟩⟩
  · rw [if_pos (of_decide_eq_true g)]
  have g := of_decide_eq_false g
  rw [if_neg g]
  have hlen := rn_len (st := p.st) p.st.length
  have hf := first_eq (st := p.st) (m := b.toNat) (by omega) p.st.length
  rw [show ((b.toNat : Nat) : Int) = b by omega] at hf
  generalize rnR p.st p.st.length = R at *
  generalize frsG p.st b.toNat p.st.length = o at *
  simp only [nI, n_prs, getPS]
  refine ⟨fun i m => ∃ k : Nat, i = k ∧ k ≤ R.length ∧ m = R.length - k ∧ ∀ j, (hj : j < R.length) → j < k → ¬ b ≤ R[j].2, ⟨_, 0, rfl, Nat.zero_le _, rfl, fun j _ h => (by omega)⟩, ?_⟩
  rintro i m ⟨k, rfl, hk, rfl, hj⟩
  have w1 : IntKind.i64.wrap ((k : Int) + 1) = ((k + 1 : Nat) : Int) := by rw [wrap_id] <;> omega
  rw [w1]
  simp only [Int.toNat_natCast, decide_eq_true_eq (p := (k : Int) < R.length), decide_eq_false_iff_not (p := (k : Int) < R.length)]
  refine ⟨fun h1 => ?_, fun h1 => iS_eq ?_⟩
  · have ha : k < R.length := by omega
    obtain ⟨q1, q2⟩ := prs_get ha
    simp only [q1, q2, asI_iV]
    refine ⟨by omega, by omega, ⟨by rw [es_sl, prs_length]; omega, trivial⟩, rfl, ⟨by rw [es_sl, prs_length]; omega, trivial⟩, rfl, fun g1 => iS_eq ?_, fun g1 => ⟨⟨trivial, trivial, trivial⟩, R.length - (k + 1), by omega, k + 1, rfl, by omega, rfl, fun j hj' hlt => ?_⟩⟩
    · have hfind : R.find? (fun p => decide (b ≤ p.2)) = some R[k] := by
        rw [List.find?_eq_some_iff_getElem]
        refine ⟨g1, k, ha, rfl, fun j hlt => ?_⟩
        simpa using hj j (by omega) hlt
      rw [hfind] at hf
      cases o with
      | none => cases hf
      | some a =>
        simp only [Option.map_some, Option.some.injEq] at hf
        exact hf
    · by_cases e : j = k
      · subst e
        exact of_decide_eq_false g1
      · exact hj j hj' (by omega)
  · have hfind : R.find? (fun p => decide (b ≤ p.2)) = none := by
      rw [List.find?_eq_none]
      intro x hx
      obtain ⟨j, hlt, rfl⟩ := List.getElem_of_mem hx
      simpa using hj j hlt (by omega)
    rw [hfind] at hf
    cases o with
    | none => rfl
    | some a => cases hf
/-- So many free ones, from b on. -/
def freeB (st : List Int) (b m : Int) : Bool := decide (1 ≤ m) && (there st.length b m && (List.range m.toNat).all fun j => decide (st.getD (b.toNat + j) 0 = 0))
theorem free_iff {st : List Int} {b m : Int} : freeB st b m = true ↔ 1 ≤ m ∧ 0 ≤ b ∧ okR st m.toNat st.length b.toNat := by
  unfold freeB there okR
  simp only [Bool.and_eq_true, decide_eq_true_eq, List.all_eq_true, List.mem_range]
  constructor
  · rintro ⟨h1, ⟨⟨h2, h3⟩, h4⟩, h5⟩
    refine ⟨h1, h2, by omega, fun j h6 h7 => ?_⟩
    have := h5 (j - b.toNat) (by omega)
    rwa [show b.toNat + (j - b.toNat) = j by omega] at this
  · rintro ⟨h1, h2, h3, h4⟩
    exact ⟨h1, ⟨⟨h2, by omega⟩, by omega⟩, fun j hj => h4 _ (by omega) (by omega)⟩
theorem free_no {st : List Int} {b m : Int} (h : ¬ (1 ≤ m ∧ 0 ≤ b ∧ okR st m.toNat st.length b.toNat)) : freeB st b m = false := by
  cases e : freeB st b m with
  | false => rfl
  | true => exact absurd (free_iff.1 e) h
theorem c_l5Free {p : Pool} (hp : p.st.length ≤ 1048576) (b c : Int) : CallD Try.prog F_spec_l5Free [rPool p, iS b, iS c] fun r _ => r = bS (freeB p.st b c) := by
  refine k_spec_l5Free ?_
  unfold vc_spec_l5Free
  simp only [nI, n_ints]
  refine ⟨fun g => bS_eq (free_no fun h => ?_).symm, fun g => ⟨fun g2 => bS_eq (free_no fun h => ?_).symm, fun g2 => ⟨fun g3 => bS_eq (free_no fun h => ?_).symm, fun g3 => ⟨fun g4 => bS_eq (free_no fun h => ?_).symm, fun g4 => ?_⟩⟩⟩⟩
  · have := of_decide_eq_true g; omega
  · have := of_decide_eq_true g2; omega
  · have := of_decide_eq_true g3; have := h.2.2.1; omega
  · have g := of_decide_eq_false g
    have g3 := of_decide_eq_false g3
    have := of_decide_eq_true g4
    rw [wrap_id (by omega) (by omega)] at this
    have := h.2.2.1
    omega
  have g := of_decide_eq_false g
  have g2 := of_decide_eq_false g2
  have g3 := of_decide_eq_false g3
  have g4 := of_decide_eq_false g4
  rw [wrap_id (by omega) (by omega)] at g4
  obtain ⟨B, rfl⟩ := Int.eq_ofNat_of_zero_le (show 0 ≤ b by omega)
  obtain ⟨C, rfl⟩ := Int.eq_ofNat_of_zero_le (show 0 ≤ c by omega)
  rw [wrap_id (n := (B : Int) + C) (by omega) (by omega)]
  refine ⟨fun i m => ∃ k : Nat, i = ((B + k : Nat) : Int) ∧ k ≤ C ∧ m = C - k ∧ ∀ j, B ≤ j → j < B + k → p.st.getD j 0 = 0, ⟨_, 0, rfl, Nat.zero_le _, rfl, fun j _ h => (by omega)⟩, ?_⟩
  rintro i m ⟨k, rfl, hk, rfl, hj⟩
  have w1 : IntKind.i64.wrap (((B + k : Nat) : Int) + 1) = ((B + (k + 1) : Nat) : Int) := by rw [wrap_id] <;> omega
  rw [w1]
  simp only [Int.toNat_natCast, Nat.mul_one]
  refine ⟨fun h1 => ?_, fun h1 => bS_eq ?_⟩
  · have h1 := of_decide_eq_true h1
    have ha : B + k < p.st.length := by omega
    simp only [hd_ints ha, isI_iV, asI_iV]
    refine ⟨by omega, by omega, by simp [ints]; omega, trivial, fun g5 => bS_eq (free_no fun h => ?_).symm, fun g5 => ⟨⟨trivial, trivial, trivial⟩, C - (k + 1), by omega, k + 1, rfl, by omega, rfl, fun j h2 h3 => ?_⟩⟩
    · have := h.2.2.2 (B + k) (by simp) (by simp; omega)
      rw [decide_eq_true this] at g5
      cases g5
    · by_cases e : j = B + k
      · subst e; simpa using g5
      · exact hj j h2 (by omega)
  · have h1 := of_decide_eq_false h1
    exact (free_iff.2 ⟨by omega, by omega, ⟨by simp; omega, fun j h2 h3 => hj j (by simpa using h2) (by simp at h3; omega)⟩⟩).symm
theorem first_some {st : List Int} {m : Int} {k : Nat} (hk : freeB st k m = true) (h : ∀ j : Nat, j < k → freeB st j m = false) : firstS st m = k := by
  obtain ⟨h1, h2, h3⟩ := free_iff.1 hk
  unfold firstS
  rw [if_neg (by omega)]
  obtain ⟨i1, i2⟩ := frs_spec (st := st) (m := m.toNat) (by omega) st.length
  cases e : frsG st m.toNat st.length with
  | none => exact absurd h3 (i2 e _)
  | some a =>
    obtain ⟨a1, a2⟩ := i1 a e
    have h4 : ¬ k < a := fun g => a2 k g h3
    have h5 : ¬ a < k := fun g => by
      have h6 := h a g
      rw [free_iff.2 ⟨h1, by omega, a1⟩] at h6
      cases h6
    show (a : Int) = k
    omega
theorem first_none {st : List Int} {m : Int} (h : ∀ j : Nat, j < st.length → freeB st j m = false) : firstS st m = -1 := by
  unfold firstS
  split
  · rfl
  · rename_i h1
    obtain ⟨i1, i2⟩ := frs_spec (st := st) (m := m.toNat) (by omega) st.length
    cases e : frsG st m.toNat st.length with
    | none => rfl
    | some a =>
      obtain ⟨a1, a2⟩ := i1 a e
      have h6 := h a (by have := a1.1; omega)
      rw [free_iff.2 ⟨by omega, by omega, a1⟩] at h6
      cases h6
theorem c_FirstRunS {p : Pool} (hp : p.st.length ≤ 1048576) (b : Int) : CallD Try.prog F_spec_FirstRun [rPool p, iS b] fun r _ => r = iS (firstS p.st b) := by
  refine k_spec_FirstRun ?_
  unfold vc_spec_FirstRun
  simp only [nI, n_ints]
  refine ⟨fun i m => ∃ k : Nat, i = k ∧ k ≤ p.st.length ∧ m = p.st.length - k ∧ ∀ j : Nat, j < k → freeB p.st j b = false, ⟨_, 0, rfl, Nat.zero_le _, rfl, fun j h => (by omega)⟩, ?_⟩
  rintro i m ⟨k, rfl, hk, rfl, hj⟩
  have w1 : IntKind.i64.wrap ((k : Int) + 1) = ((k + 1 : Nat) : Int) := by rw [wrap_id] <;> omega
  rw [w1]
  refine ⟨fun h1 => ⟨_, c_l5Free hp _ _, fun g => iS_eq (first_some g hj).symm, fun g => ⟨⟨trivial, trivial⟩, p.st.length - (k + 1), by have := of_decide_eq_true h1; omega, k + 1, rfl, by have := of_decide_eq_true h1; omega, rfl, fun j h2 => ?_⟩⟩, fun h1 => iS_eq (first_none fun j h2 => ?_).symm⟩
  · by_cases e : j = k
    · subst e; exact g
    · exact hj j (by omega)
  · have := of_decide_eq_false h1
    exact hj j (by omega)
set_option maxHeartbeats 1000000 in
theorem c_RunsS {p : Pool} (hp : p.st.length ≤ 1048576) : CallD Try.prog F_spec_Runs [rPool p] fun r _ => r = oI ((rnR p.st p.st.length).map (·.2)) := by
  refine k_spec_Runs ?_
  unfold vc_spec_Runs
  simp only [nI, n_one, ints_length, List.length_singleton]
  refine ⟨fun es n i m => ∃ k : Nat, i = k ∧ m = p.st.length + 1 - k ∧ ((k ≤ p.st.length ∧ es = ints ((dnR p.st k).map (·.2)) ∧ n = (tl p.st k : Nat)) ∨ (k = p.st.length + 1 ∧ es = ints ((rnR p.st p.st.length).map (·.2)))), ⟨_, 0, rfl, rfl, .inl ⟨Nat.zero_le _, rfl, rfl⟩⟩, ?_⟩
  rintro es n i m ⟨k, rfl, rfl, hc⟩
  rcases hc with ⟨hk, rfl, rfl⟩ | ⟨rfl, rfl⟩
  · have w1 : IntKind.i64.wrap ((k : Int) + 1) = ((k + 1 : Nat) : Int) := by rw [wrap_id] <;> omega
    have hlen := rn_len (st := p.st) k
    have ht := tl_le p.st k
    have hdl : ((dnR p.st k).map (·.2)).length ≤ k := by
      unfold rnR at hlen
      simp only [List.length_append, List.length_map] at hlen ⊢
      omega
    have w2 : IntKind.i64.wrap (((tl p.st k : Nat) : Int) + 1) = ((tl p.st k + 1 : Nat) : Int) := by rw [wrap_id] <;> omega
    have ecur : 0 < tl p.st k → ints ((dnR p.st k).map (·.2)) ++ [iV ((tl p.st k : Nat) : Int)] = ints ((rnR p.st k).map (·.2)) := fun h => by
      unfold rnR curR
      rw [if_neg (by omega), ints_snoc, List.map_append]; rfl
    have ecur0 : ¬ 0 < tl p.st k → ints ((dnR p.st k).map (·.2)) = ints ((rnR p.st k).map (·.2)) := fun h => by
      rw [lens_done (by omega)]
    rw [w1, w2]
    simp only [Int.toNat_natCast, Nat.mul_one, ints_length, decide_eq_true_eq (p := (k : Int) < p.st.length), decide_eq_false_iff_not (p := (k : Int) < p.st.length)]
    refine ⟨fun _ => ⟨fun h1 => ?_, fun h1 => ?_⟩, fun h1 => ?_⟩
    · have ha : k < p.st.length := by omega
      simp only [hd_ints ha, isI_iV, asI_iV]
      have nx : ∀ es n, es = ints ((dnR p.st (k + 1)).map (·.2)) → n = ((tl p.st (k + 1) : Nat) : Int) → ∃ m, m < p.st.length + 1 - k ∧ ∃ k' : Nat, ((k + 1 : Nat) : Int) = k' ∧ m = p.st.length + 1 - k' ∧ ((k' ≤ p.st.length ∧ es = ints ((dnR p.st k').map (·.2)) ∧ n = (tl p.st k' : Nat)) ∨ (k' = p.st.length + 1 ∧ es = ints ((rnR p.st p.st.length).map (·.2)))) :=
        fun es n h1 h2 => ⟨p.st.length + 1 - (k + 1), by omega, k + 1, rfl, rfl, .inl ⟨by omega, h1, h2⟩⟩
      refine ⟨by omega, by omega, by simp [ints]; omega, trivial, fun g => ⟨trivial, nx _ _ ?_ ?_⟩, fun g => ?_⟩
      · have g := of_decide_eq_true g
        rw [dnR, if_pos g]
      · have g := of_decide_eq_true g
        rw [tl, if_pos g]
      · have g := of_decide_eq_false g
        have e1 : dnR p.st (k + 1) = rnR p.st k := by rw [dnR, if_neg g]; rfl
        have e2 : tl p.st (k + 1) = 0 := by rw [tl, if_neg g]
        refine ⟨fun g2 => ⟨by omega, by omega, trivial, nx _ _ ?_ (by rw [e2]; rfl)⟩, fun g2 => ⟨trivial, nx _ _ ?_ (by rw [e2]; rfl)⟩⟩
        · rw [e1]; exact ecur (by have := of_decide_eq_true g2; omega)
        · rw [e1]; exact ecur0 (by have := of_decide_eq_false g2; omega)
    · have ek : k = p.st.length := by omega
      have nx : ∀ es n, es = ints ((rnR p.st p.st.length).map (·.2)) → ∃ m, m < p.st.length + 1 - k ∧ ∃ k' : Nat, ((k + 1 : Nat) : Int) = k' ∧ m = p.st.length + 1 - k' ∧ ((k' ≤ p.st.length ∧ es = ints ((dnR p.st k').map (·.2)) ∧ n = ((tl p.st k' : Nat) : Int)) ∨ (k' = p.st.length + 1 ∧ es = ints ((rnR p.st p.st.length).map (·.2)))) :=
        fun es n h1 => ⟨p.st.length + 1 - (k + 1), by omega, k + 1, rfl, rfl, .inr ⟨by omega, h1⟩⟩
      refine ⟨fun g2 => ⟨by omega, by omega, trivial, nx _ _ ?_⟩, fun g2 => ⟨trivial, nx _ _ ?_⟩⟩
      · rw [← ek]; exact ecur (by have := of_decide_eq_true g2; omega)
      · rw [← ek]; exact ecur0 (by have := of_decide_eq_false g2; omega)
    · have := of_decide_eq_false h1
      omega
  · refine ⟨fun h1 => ?_, fun h1 => rfl⟩
    have := of_decide_eq_true h1
    omega
theorem c_Most (a b : Int) : CallD Try.prog F_spec_Most [iS a, iS b] fun r _ => r = iS (if a < b then b else a) := by
  refine k_spec_Most ?_
  unfold vc_spec_Most
  exact ⟨fun g => iS_eq (by rw [if_pos (of_decide_eq_true g)]), fun g => iS_eq (by rw [if_neg (of_decide_eq_false g)])⟩
theorem c_LongestRunS {p : Pool} (hp : p.st.length ≤ 1048576) : CallD Try.prog F_spec_LongestRun [rPool p] fun r _ => r = iS (mxL ((rnR p.st p.st.length).map (·.2))) := by
  refine k_spec_LongestRun ?_
  unfold vc_spec_LongestRun
  refine ⟨_, c_RunsS hp, ?_⟩
  have hlen := rn_len (st := p.st) p.st.length
  have hl2 : ((rnR p.st p.st.length).map (·.2)).length ≤ p.st.length := by rw [List.length_map]; exact hlen
  generalize (rnR p.st p.st.length).map (·.2) = L at *
  simp only [nI, n_ints, getPS, Nat.mul_one]
  refine ⟨fun n i m => ∃ k : Nat, i = k ∧ k ≤ L.length ∧ m = L.length - k ∧ n = mxL (L.take k), ⟨_, 0, rfl, Nat.zero_le _, rfl, rfl⟩, ?_⟩
  rintro n i m ⟨k, rfl, hk, rfl, rfl⟩
  have w1 : IntKind.i64.wrap ((k : Int) + 1) = ((k + 1 : Nat) : Int) := by rw [wrap_id] <;> omega
  rw [w1]
  simp only [Int.toNat_natCast, decide_eq_true_eq (p := (k : Int) < L.length), decide_eq_false_iff_not (p := (k : Int) < L.length)]
  refine ⟨fun h1 => ?_, fun h1 => ?_⟩
  · have ha : k < L.length := by omega
    simp only [getD_ints ha, asI_iV]
    refine ⟨by omega, by omega, ⟨by rw [es_sl, ints_length]; omega, trivial⟩, rfl, _, c_Most _ _, trivial, L.length - (k + 1), by omega, k + 1, rfl, by omega, rfl, ?_⟩
    unfold mxL
    rw [List.take_succ_eq_append_getElem ha, List.foldl_append, getD_eq ha]; rfl
  · have : k = L.length := by omega
    subst this
    rw [List.take_of_length_le (Nat.le_refl _)]
end Go.Proofs.Ythmpdfmdhfgaaaa
