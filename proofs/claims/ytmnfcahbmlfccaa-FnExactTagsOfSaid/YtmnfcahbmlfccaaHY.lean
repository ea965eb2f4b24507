/- Contracts of small functions: what lies below a room: its chunks, its tags; worlds marked. -/
import Derived.Test.YtmnfcahbmlfccaaHUV
import Derived.Test.YtmnfcahbmlfccaaVHY
namespace Go.Proofs.Ytmnfcahbmlfccaa
open Go Go.Proofs.Ytmnfcahbmlfccaa.DL
set_option maxRecDepth 100000

def ownWo (w : World') (k : Int) : Int := (nodeAt w.l k).chunks.length
abbrev DeepW (w : World') := Deep (fun a b : Int => a + b) 0 (ownWo w) w.l
def worthQ (w : World') : List Int → List Int → Int → List Int → Prop
  | [], met, a, met' => a = 0 ∧ met' = met
  | k :: ks, met, a, met' => slotB w.l k = true ∧ ((has met k = true ∧ worthQ w ks met a met') ∨ (has met k = false ∧ ∃ a1 m1 b, CallD Try.prog F_impl_World_worth [rWorld w, rI (kidsL w.l (nodeAt w.l k).first), oM w.l (met ++ [k])]
      (fun r bs => r = iS (IntKind.i64.wrap a1) ∧ bs.getD 2 .dead = oM w.l m1) ∧ worthQ w ks m1 b met' ∧ a = ownWo w k + (a1 + b)))
theorem c_worthQ {w : World'} (hl : totN w.l ≤ 1048576) {ks met met' : List Int} {a : Int} (hq : worthQ w ks met a met') (hk : ks.length ≤ 1048576) :
    CallD Try.prog F_impl_World_worth [rWorld w, rI ks, oM w.l met] fun r bs => r = iS (IntKind.i64.wrap a) ∧ bs.getD 2 .dead = oM w.l met' := by
  have hz := szs_nonneg w.l
  have hll : w.l.length ≤ 1048576 := by unfold totN at hl; omega
  refine k_impl_World_worth ?_
  unfold vc_impl_World_worth
  simp only [nI, n_ints, n_nodes]
  refine ⟨fun es n i m => ∃ q : Nat, i = q ∧ q ≤ ks.length ∧ m = ks.length - q ∧ ∃ M b x, es = bm w.l.length M ∧ worthQ w (ks.drop q) M b met' ∧ n = IntKind.i64.wrap x ∧ x + b = a, ⟨ks.length, 0, rfl, Nat.zero_le _, rfl, met, a, 0, rfl, by simpa using hq, by decide, by omega⟩, ?_⟩
  rintro es n i m ⟨q, rfl, hq', rfl, M, b, x, rfl, hQ, rfl, hx⟩
  simp only [Int.toNat_natCast, Nat.mul_one, decide_eq_true_eq (p := (q : Int) < ks.length), decide_eq_false_iff_not (p := (q : Int) < ks.length), wrap_nat q (by omega)]
  refine ⟨fun h1 => ?_, fun h1 => ?_⟩
  · have ha : q < ks.length := by omega
    rw [List.drop_eq_getElem_cons ha] at hQ
    obtain ⟨hs, hQ⟩ := hQ
    obtain ⟨p1, p2⟩ := slotB_iff.1 hs
    obtain ⟨hi, e⟩ := nodeAt_eq hs
    simp only [hd_ints ha, getD_eq ha, isI_iV, asI_iV, getP_one, n_one, bm_len, bm_get hs, bm_set hs, drop_nodes hi, List.drop_succ_cons, List.drop_zero, hdD_cons, isL_sl, es_sl]
    refine ⟨by omega, by omega, by simp [ints]; omega, trivial, p1, p2, by rw [placeOk_one, bm_len]; exact ⟨hi, trivial⟩, rfl, fun g => ⟨⟨trivial, trivial, trivial⟩, ks.length - (q + 1), by omega, q + 1, rfl, by omega, rfl, M, b, x, rfl, ?_, rfl, hx⟩, fun g => ?_⟩
    · have g : has M ks[q] = true := g
      rcases hQ with ⟨-, hQ⟩ | ⟨h2, -⟩
      · exact hQ
      · rw [g] at h2; cases h2
    · have g : has M ks[q] = false := g
      rcases hQ with ⟨h2, -⟩ | ⟨-, a1, m1, b1, hc, hQ, rfl⟩
      · rw [g] at h2; cases h2
      have hkids := c_KidsOf hll (nodeAt w.l ks[q]).first
      rw [e] at hc hkids
      refine ⟨p1, p2, trivial, by omega, p1, p2, by simp, trivial, p1, p2, by simp, trivial, _, hkids, trivial, trivial, _, _, rfl, hc,
        ⟨trivial, trivial, trivial⟩, ks.length - (q + 1), by omega, q + 1, rfl, by omega, rfl, m1, b1, x + (ownWo w ks[q] + a1), rfl, hQ, ?_, by omega⟩
      rw [wrap_l, wrap_r, ints_length]
      unfold ownWo
      rw [e]
      generalize (w.l[ks[q].toNat].chunks.length : Int) = s
      exact wrap_mod (by have := wrap_emod a1; omega)
  · have : q = ks.length := by omega
    subst this
    rw [List.drop_length] at hQ
    obtain ⟨rfl, rfl⟩ := hQ
    have : x = a := by omega
    subst this
    exact ⟨rfl, rfl⟩
theorem deep_worth {w : World'} (hl : totN w.l ≤ 1048576) {ks met met' : List Int} {a : Int} (h : DeepW w ks met a met') : (∀ k ∈ ks, slotB w.l k = true) → worthQ w ks met a met' := by
  have hz := szs_nonneg w.l
  induction h with
  | nil => intro _; exact ⟨rfl, rfl⟩
  | skip hb _ ih =>
    intro hs
    have h1 := hs _ (List.mem_cons_self ..)
    rw [h1, Bool.true_and] at hb
    exact ⟨h1, .inl ⟨by simpa using hb, ih fun k hk => hs k (List.mem_cons_of_mem _ hk)⟩⟩
  | take h1 h2 _h3 _h4 ih1 ih2 =>
    rename_i k ks met m1 met' a b
    intro hs
    refine ⟨h1, .inr ⟨h2, _, _, _, c_worthQ hl (ih1 kidsL_slot) ?_, ih2 fun k hk => hs k (List.mem_cons_of_mem _ hk), rfl⟩⟩
    have := kidsL_len w.l (nodeAt w.l k).first
    unfold totN at hl
    omega
def worthP (w : World') : List Int → List Int → Int → List Int → Prop
  | [], met, a, met' => a = 0 ∧ met' = met
  | k :: ks, met, a, met' => ∃ a1 m1 b, CallD Try.prog F_spec_l15Worth [rWorld w, iS k, oI met] (fun r _ => r = tIL (IntKind.i64.wrap a1) m1) ∧ worthP w ks m1 b met' ∧ a = a1 + b
theorem c_wno {w : World'} (hl : w.l.length ≤ 1048576) {k : Int} {met : List Int} (hlen : met.length ≤ 1048576) (h : (slotB w.l k && !has met k) = false) : CallD Try.prog F_spec_l15Worth [rWorld w, iS k, oI met] fun r _ => r = tIL (IntKind.i64.wrap 0) met := by
  refine k_spec_l15Worth ?_
  unfold vc_spec_l15Worth
  have c1 := c_l1In k 0 (IntKind.i64.wrap ((w.l.length : Int) - 1))
  rw [within_slot hl] at c1
  simp only [nI, n_nodes]
  refine ⟨_, c1, fun g1 => ⟨_, c_has (by unfold M63; omega) k, fun g2 => rfl, fun g2 => ?_⟩, fun g1 => rfl⟩
  rw [g1, g2] at h
  cases h
theorem c_wtake {w : World'} (hl : totN w.l ≤ 1048576) (hok : ∀ n ∈ w.l, n.ok) {k : Int} {met m1 : List Int} {a : Int} (hlen : met.length ≤ 1048576) (hs : slotB w.l k = true) (hm : has met k = false)
    (hP : worthP w (kidsL w.l (nodeAt w.l k).first) (met ++ [k]) a m1) : CallD Try.prog F_spec_l15Worth [rWorld w, iS k, oI met] fun r _ => r = tIL (IntKind.i64.wrap (ownWo w k + a)) m1 := by
  have hz := szs_nonneg w.l
  have hll : w.l.length ≤ 1048576 := by unfold totN at hl; omega
  obtain ⟨p1, p2⟩ := slotB_iff.1 hs
  obtain ⟨hi, e⟩ := nodeAt_eq hs
  have hsz := szs_at hi
  refine k_spec_l15Worth ?_
  unfold vc_spec_l15Worth
  have c1 := c_l1In k 0 (IntKind.i64.wrap ((w.l.length : Int) - 1))
  rw [within_slot hll] at c1
  have c2 := c_has (l := met) (by unfold M63; omega) k
  have hkids := c_KidsOfS hll hok (hok _ (List.getElem_mem hi)).2.2.2.2.2.1
  have hkl := kidsL_len w.l (nodeAt w.l k).first
  rw [e] at hP hkl
  simp only [nI, n_nodes, List.nil_append, n_one, ints_length, List.length_nil, List.length_singleton, drop_nodes hi, List.drop_succ_cons, List.drop_zero, hdD_cons, isL_sl, es_sl, isI_iV, asI_iV, ints_snoc]
  refine ⟨_, c1, fun g1 => ⟨_, c2, fun g2 => (by rw [hm] at g2; cases g2), fun g2 => ?_⟩, fun g1 => (by rw [hs] at g1; cases g1)⟩
  refine ⟨AllVal_ints _, by omega, by omega, by omega, by omega, p1, p2, by simp, trivial, p1, p2, by simp, trivial, _, hkids, ?_⟩
  generalize kidsL w.l w.l[k.toNat].first = ks at *
  simp only [ints_length]
  refine ⟨fun es n i m => ∃ q : Nat, i = q ∧ q ≤ ks.length ∧ m = ks.length - q ∧ ∃ M b x, es = ints M ∧ worthP w (ks.drop q) M b m1 ∧ n = IntKind.i64.wrap x ∧ x + b = ownWo w k + a, ⟨ks.length, 0, rfl, Nat.zero_le _, rfl, met ++ [k], a, ownWo w k, rfl, by simpa using hP, (by unfold ownWo; rw [e, wrap_id] <;> (unfold Node.sz at hsz; unfold totN at hl; omega)), rfl⟩, ?_⟩
  rintro es n i m ⟨q, rfl, hq', rfl, M, b, x, rfl, hQ, rfl, hx⟩
  simp only [Int.toNat_natCast, Nat.mul_one, decide_eq_true_eq (p := (q : Int) < ks.length), decide_eq_false_iff_not (p := (q : Int) < ks.length), wrap_nat q (by omega)]
  refine ⟨fun h1 => ?_, fun h1 => ?_⟩
  · have ha : q < ks.length := by omega
    rw [List.drop_eq_getElem_cons ha] at hQ
    obtain ⟨a1, M1, b1, hc, hQ, rfl⟩ := hQ
    have ge : (ints ks).getD q dfl = iV ks[q] := by rw [getD_ints ha, getD_eq ha]
    simp only [getP_one, ge, isI_iV, asI_iV]
    refine ⟨by omega, by omega, by rw [placeOk_one, ints_length]; exact ⟨ha, trivial⟩, trivial, _, _, hc, ⟨trivial, trivial⟩, ks.length - (q + 1), by omega, q + 1, rfl, by omega, rfl, M1, b1, x + a1, rfl, hQ, ?_, by omega⟩
    rw [wrap_l, wrap_r]
  · have : q = ks.length := by omega
    subst this
    rw [List.drop_length] at hQ
    obtain ⟨rfl, rfl⟩ := hQ
    have : x = ownWo w k + a := by omega
    rw [this]
theorem deep_worthP {w : World'} (hl : totN w.l ≤ 1048576) (hok : ∀ n ∈ w.l, n.ok) {ks met met' : List Int} {a : Int} (h : DeepW w ks met a met') : met.length + unmet w.l met ≤ w.l.length → worthP w ks met a met' := by
  have hz := szs_nonneg w.l
  have hll : w.l.length ≤ 1048576 := by unfold totN at hl; omega
  induction h with
  | nil => intro _; exact ⟨rfl, rfl⟩
  | skip hb _ ih => intro hn; exact ⟨0, _, _, c_wno hll (by omega) hb, ih hn, by omega⟩
  | take h1 h2 h3 _h4 ih1 ih2 =>
    rename_i k ks met m1 met' a b
    intro hn
    have hu := unmet_lt h1 h2
    have hn' : (met ++ [k]).length + unmet w.l (met ++ [k]) ≤ w.l.length := by
      simp only [List.length_append, List.length_singleton]
      omega
    exact ⟨_, _, _, c_wtake hl hok (by omega) h1 h2 (ih1 hn'), ih2 (deep_len h3 hn'), by omega⟩
/-- The steps that reclaim a room. -/
def worthN (w : World') (k : Int) : Int := IntKind.i64.wrap (deepF (fun a b : Int => a + b) 0 (ownWo w) w.l (w.l.length * (w.l.length + 1) + 2) [k] []).1
theorem worth_deep (w : World') (k : Int) : ∃ a met', DeepW w [k] [] a met' ∧ worthN w k = IntKind.i64.wrap a :=
  ⟨_, _, (deep_go (fun a b : Int => a + b) 0 (ownWo w) w.l (w.l.length * (w.l.length + 1) + 2) [k] [] (by rw [unmet_nil]; simp)).1, rfl⟩
theorem c_WorthOf {w : World'} (hl : totN w.l ≤ 1048576) (k : Int) : CallD Try.prog F_impl_WorthOf [rWorld w, iS k] fun r _ => r = iS (worthN w k) := by
  have hz := szs_nonneg w.l
  have hll : w.l.length ≤ 1048576 := by unfold totN at hl; omega
  obtain ⟨a, met', hd, e⟩ := worth_deep w k
  refine k_impl_WorthOf ?_
  unfold vc_impl_WorthOf
  simp only [nI, n_nodes, Int.toNat_natCast, bm_nil]
  refine ⟨_, c_isSlot (by unfold M63; omega) k, fun g => ⟨trivial, by omega, by omega, by omega, by omega, ?_⟩, fun g => iS_eq ?_⟩
  · have hq := c_worthQ hl (deep_worth hl hd fun x hx => by rw [List.mem_singleton.1 hx]; exact g) (by simp)
    rw [e]
    exact ⟨trivial, trivial, _, _, rfl, hq, rfl⟩
  · rw [e]
    cases hd with
    | skip _ h => cases h; rfl
    | take h1 => rw [g] at h1; cases h1
theorem c_WorthOfS {w : World'} (hl : totN w.l ≤ 1048576) (hok : ∀ n ∈ w.l, n.ok) (k : Int) : CallD Try.prog F_spec_WorthOf [rWorld w, iS k] fun r _ => r = iS (worthN w k) := by
  obtain ⟨a, met', hd, e⟩ := worth_deep w k
  refine k_spec_WorthOf ?_
  unfold vc_spec_WorthOf
  obtain ⟨a1, m1, b, hc, ⟨rfl, rfl⟩, rfl⟩ := deep_worthP hl hok hd (by rw [unmet_nil]; simp)
  rw [e, Int.add_zero]
  exact ⟨_, _, hc, rfl⟩
theorem c_reverse {l : List Int} (hl : l.length ≤ 1048576) : CallD Try.prog F_slices_Reverse_int [oI l] fun r bs => r = .tup [] ∧ bs.getD 0 .dead = oI l.reverse := by
  refine k_slices_Reverse_int ?_
  unfold vc_slices_Reverse_int
  simp only [nI, n_ints, es_sl]
  refine ⟨fun es n n1 m => ∃ (k : Nat) (s : List Int), n = k ∧ n1 = (l.length : Int) - 1 - k ∧ 2 * k ≤ l.length + 1 ∧ m = l.length + 1 - k ∧ es = ints s ∧ s.length = l.length ∧
    ∀ i (hi : i < s.length) (hi' : i < l.length), s[i] = if i < k ∨ l.length - k ≤ i then l[l.length - 1 - i] else l[i], ⟨_, 0, l, rfl, by rw [wrap_id] <;> omega, by omega, rfl, rfl, rfl, fun i hi hi' => ?_⟩, ?_⟩
  · rw [if_neg (by omega)]
  rintro es n n1 m ⟨k, s, rfl, rfl, hk, rfl, rfl, hs, ht⟩
  simp only [Int.toNat_natCast, Nat.mul_one, n_ints, decide_eq_true_eq, decide_eq_false_iff_not]
  refine ⟨fun h1 => ?_, fun h1 => ⟨trivial, ?_⟩⟩
  · have ha : k < s.length := by omega
    have hb : l.length - 1 - k < s.length := by omega
    have e1 : ((l.length : Int) - 1 - k).toNat = l.length - 1 - k := by omega
    have p1 : ∀ j, j < s.length → DV.isI .i64 ((DV.sl 1 (ints s)).getP [j]) = True := fun j hj => by
      have : (DV.sl 1 (ints s)).getP [j] = (ints s).getD j dfl := rfl
      rw [this, getD_ints hj, isI_iV]
    have p2 : ∀ j, j < s.length → placeOk (oneC (CV.own (DV.sl 1 (ints s)))) [j] := fun j hj => by
      show j < (ints s).length ∧ True
      exact ⟨by rw [ints_length]; exact hj, trivial⟩
    rw [e1]
    simp only [getD_ints ha, getD_ints hb, asI_iV, set_ints, n_ints, List.length_set, ints_length]
    refine ⟨by omega, by omega, p2 _ hb, by rw [p1 _ hb]; trivial, by omega, by omega, p2 _ ha, by rw [p1 _ ha]; trivial, by omega, by omega, trivial, by omega, by omega, by omega, trivial, by omega, trivial, l.length + 1 - (k + 1), by omega, k + 1, _, by rw [wrap_id] <;> omega,
      by rw [wrap_id] <;> omega, by omega, rfl, rfl, by simp [hs], fun i hi hi' => ?_⟩
    simp only [List.length_set] at hi
    have g1 := ht k ha (by omega)
    have g2 := ht (l.length - 1 - k) hb (by omega)
    rw [if_neg (by omega)] at g1 g2
    simp only [getD_eq ha, getD_eq hb, g1, g2, List.getElem_set]
    by_cases c1 : l.length - 1 - k = i
    · rw [if_pos c1, if_pos (by omega)]
      congr 1; omega
    · rw [if_neg c1]
      by_cases c2 : k = i
      · subst c2
        rw [if_pos rfl, if_pos (by omega)]
      · rw [if_neg c2, ht i hi hi']
        by_cases c3 : i < k ∨ l.length - k ≤ i
        · rw [if_pos c3, if_pos (by omega)]
        · rw [if_neg c3, if_neg (by omega)]
  · show oI s = oI l.reverse
    refine oI_eq (List.ext_getElem (by simp [hs]) fun i h2 h3 => ?_)
    have hi' : i < l.length := by omega
    rw [ht i h2 hi', List.getElem_reverse]
    split
    · rfl
    · congr 1; omega
theorem c_TagsDown {l : List Int} (hl : l.length ≤ 1048576) : CallD Try.prog F_impl_TagsDown [rI l] fun r _ => r = oI l.reverse := by
  refine k_impl_TagsDown ?_
  unfold vc_impl_TagsDown
  exact ⟨_, c_cloneI hl, trivial, rfl, _, rfl, c_reverse hl, rfl⟩
theorem c_TagsDownS {l : List Int} (hl : l.length ≤ 1048576) : CallD Try.prog F_spec_TagsDown [rI l] fun r _ => r = oI l.reverse := by
  refine k_spec_TagsDown ?_
  unfold vc_spec_TagsDown
  simp only [nI, n_one, ints_length, List.length_singleton]
  refine ⟨fun es n m => ∃ k : Nat, n = (k : Int) - 1 ∧ k ≤ l.length ∧ m = k ∧ es = ints (l.drop k).reverse, ⟨_, l.length, by rw [wrap_id] <;> omega, Nat.le_refl _, rfl, by simp [ints]⟩, ?_⟩
  rintro es n m ⟨k, rfl, hk, hm, rfl⟩
  simp only [decide_eq_true_eq, decide_eq_false_iff_not, Nat.mul_one]
  refine ⟨fun h1 => ?_, fun h1 => ?_⟩
  · have ha : k - 1 < l.length := by omega
    have e1 : ((k : Int) - 1).toNat = k - 1 := by omega
    rw [e1]
    simp only [hd_ints ha, getD_eq ha, isI_iV, asI_iV, ints_snoc, ints_length]
    refine ⟨by omega, by omega, by simp [ints]; omega, trivial, by simp; omega, by simp; omega, trivial, k - 1, by omega, k - 1, by rw [wrap_id] <;> omega, by omega, rfl, ?_⟩
    congr 1
    have e2 : l.drop (k - 1) = l[k - 1] :: l.drop k := by
      rw [List.drop_eq_getElem_cons ha]
      congr 2; omega
    rw [e2, List.reverse_cons]
  · have : k = 0 := by omega
    subst this
    simp
abbrev tLL (a b : List Int) : SV := .tup [.cell (.own (.sl 1 (ints a))), .cell (.own (.sl 1 (ints b)))]
def ownTg (w : World') (k : Int) : List Int := (nodeAt w.l k).tags.reverse
abbrev DeepT (w : World') := Deep (fun a b : List Int => a ++ b) [] (ownTg w) w.l
def tw (l : List Node) (met : List Int) : Nat → Nat
  | 0 => 0
  | i + 1 => tw l met i + if has met (i : Int) then 0 else (nodeAt l (i : Int)).tags.length
theorem tw_snoc {l : List Node} {met : List Int} {k : Int} (h0 : 0 ≤ k) (hm : has met k = false) : ∀ n, tw l (met ++ [k]) n + (if k.toNat < n then (nodeAt l k).tags.length else 0) = tw l met n
  | 0 => by simp [tw]
  | i + 1 => by
    have ih := tw_snoc (l := l) h0 hm i
    simp only [tw, has_snoc]
    by_cases e : (i : Int) = k
    · have hk : k.toNat = i := by omega
      rw [if_neg (by omega)] at ih
      have e3 : (if k.toNat < i + 1 then (nodeAt l k).tags.length else 0) = (nodeAt l k).tags.length := if_pos (by omega)
      rw [e3, e, hm]
      simp
      omega
    · have h1 : decide ((i : Int) = k) = false := by simpa using e
      have h2 : (if k.toNat < i + 1 then (nodeAt l k).tags.length else 0) = if k.toNat < i then (nodeAt l k).tags.length else 0 := by
        by_cases h : k.toNat < i
        · rw [if_pos h, if_pos (by omega)]
        · rw [if_neg h, if_neg (by omega)]
      rw [h1, Bool.or_false, h2]
      omega
theorem tw_le {l : List Node} : ∀ n, n ≤ l.length → (tw l [] n : Int) ≤ szs (l.take n)
  | 0, _ => by simp [tw, szs]
  | i + 1, h => by
    have ih := tw_le (l := l) i (by omega)
    have hi : i < l.length := by omega
    have e : nodeAt l (i : Int) = l[i] := getD_node hi
    rw [szs_succ hi]
    have : tw l [] (i + 1) = tw l [] i + l[i].tags.length := by simp [tw, has, e]
    rw [this]
    unfold Node.sz
    omega
theorem deep_tlen {w : World'} {ks met met' a : List Int} (h : DeepT w ks met a met') : a.length + tw w.l met' w.l.length ≤ tw w.l met w.l.length := by
  induction h with
  | nil => simp
  | skip _ _ ih => exact ih
  | take hs hm _ _ ih1 ih2 =>
    rename_i k ks met m1 met' a b _h1 _h2
    obtain ⟨q1, q2⟩ := slotB_iff.1 hs
    have := tw_snoc (l := w.l) q1 hm w.l.length
    rw [if_pos (by omega)] at this
    simp only [List.length_append, ownTg, List.length_reverse]
    omega
def tagsQ (w : World') : List Int → List Int → List Int → List Int → Prop
  | [], met, a, met' => a = [] ∧ met' = met
  | k :: ks, met, a, met' => slotB w.l k = true ∧ ((has met k = true ∧ tagsQ w ks met a met') ∨ (has met k = false ∧ ∃ a1 m1 b, CallD Try.prog F_impl_World_tags [rWorld w, rI (kidsL w.l (nodeAt w.l k).first), oM w.l (met ++ [k])]
      (fun r bs => r = oI a1 ∧ bs.getD 2 .dead = oM w.l m1) ∧ tagsQ w ks m1 b met' ∧ a = ownTg w k ++ (a1 ++ b)))
theorem c_tagsQ {w : World'} (hl : totN w.l ≤ 1048576) {ks met met' a : List Int} (hq : tagsQ w ks met a met') (hk : ks.length ≤ 1048576) (ha : a.length ≤ 1048576) :
    CallD Try.prog F_impl_World_tags [rWorld w, rI ks, oM w.l met] fun r bs => r = oI a ∧ bs.getD 2 .dead = oM w.l met' := by
  have hz := szs_nonneg w.l
  have hll : w.l.length ≤ 1048576 := by unfold totN at hl; omega
  refine k_impl_World_tags ?_
  unfold vc_impl_World_tags
  simp only [nI, n_ints, n_nodes]
  refine ⟨fun es es1 n m => ∃ q : Nat, n = q ∧ q ≤ ks.length ∧ m = ks.length - q ∧ ∃ M b x, es = bm w.l.length M ∧ es1 = ints x ∧ tagsQ w (ks.drop q) M b met' ∧ x ++ b = a, ⟨ks.length, 0, rfl, Nat.zero_le _, rfl, met, a, [], rfl, rfl, by simpa using hq, rfl⟩, ?_⟩
  rintro es es1 n m ⟨q, rfl, hq', rfl, M, b, x, rfl, rfl, hQ, hx⟩
  simp only [Int.toNat_natCast, Nat.mul_one, decide_eq_true_eq (p := (q : Int) < ks.length), decide_eq_false_iff_not (p := (q : Int) < ks.length), wrap_nat q (by omega)]
  refine ⟨fun h1 => ?_, fun h1 => ?_⟩
  · have hak : q < ks.length := by omega
    rw [List.drop_eq_getElem_cons hak] at hQ
    obtain ⟨hs, hQ⟩ := hQ
    obtain ⟨p1, p2⟩ := slotB_iff.1 hs
    obtain ⟨hi, e⟩ := nodeAt_eq hs
    have hsz := szs_at hi
    have htg : w.l[ks[q].toNat].tags.length ≤ 1048576 := by unfold Node.sz at hsz; unfold totN at hl; omega
    simp only [hd_ints hak, getD_eq hak, isI_iV, asI_iV, getP_one, n_one, bm_len, bm_get hs, bm_set hs, drop_nodes hi, List.drop_succ_cons, List.drop_zero, hdD_cons, isL_sl, es_sl]
    refine ⟨by omega, by omega, by simp [ints]; omega, trivial, p1, p2, by rw [placeOk_one, bm_len]; exact ⟨hi, trivial⟩, rfl, fun g => ⟨⟨trivial, trivial, trivial⟩, ks.length - (q + 1), by omega, q + 1, rfl, by omega, rfl, M, b, x, rfl, rfl, ?_, hx⟩, fun g => ?_⟩
    · have g : has M ks[q] = true := g
      rcases hQ with ⟨-, hQ⟩ | ⟨h2, -⟩
      · exact hQ
      · rw [g] at h2; cases h2
    · have g : has M ks[q] = false := g
      rcases hQ with ⟨h2, -⟩ | ⟨-, a1, m1, b1, hc, hQ, rfl⟩
      · rw [g] at h2; cases h2
      have hkids := c_KidsOf hll (nodeAt w.l ks[q]).first
      have htd := c_TagsDown htg
      rw [e] at hc hkids
      have hlen := congrArg List.length hx
      unfold ownTg at hlen hx
      rw [e] at hlen hx
      simp only [List.length_append, List.length_reverse] at hlen
      refine ⟨p1, p2, trivial, by omega, p1, p2, by simp, trivial, _, htd, ?_, ?_, p1, p2, by simp, trivial, _, hkids, trivial, trivial, _, _, rfl, hc, ?_, ?_,
        ⟨trivial, trivial, trivial⟩, ks.length - (q + 1), by omega, q + 1, rfl, by omega, rfl, m1, b1, x ++ w.l[ks[q].toNat].tags.reverse ++ a1, rfl, by rw [ints_app, ints_app], hQ, by rw [← hx]; simp⟩
      · simp only [ints_length, List.length_reverse]; omega
      · simp only [ints_length, List.length_reverse]; omega
      · simp only [List.length_append, ints_length, List.length_reverse]; omega
      · simp only [List.length_append, ints_length, List.length_reverse]; omega
  · have : q = ks.length := by omega
    subst this
    rw [List.drop_length] at hQ
    obtain ⟨rfl, rfl⟩ := hQ
    rw [List.append_nil] at hx
    rw [hx]
    exact ⟨rfl, rfl⟩
theorem deep_tags {w : World'} (hl : totN w.l ≤ 1048576) {ks met met' a : List Int} (h : DeepT w ks met a met') : (∀ k ∈ ks, slotB w.l k = true) → a.length ≤ 1048576 → tagsQ w ks met a met' := by
  have hz := szs_nonneg w.l
  induction h with
  | nil => intro _ _; exact ⟨rfl, rfl⟩
  | skip hb _ ih =>
    intro hs ha
    have h1 := hs _ (List.mem_cons_self ..)
    rw [h1, Bool.true_and] at hb
    exact ⟨h1, .inl ⟨by simpa using hb, ih (fun k hk => hs k (List.mem_cons_of_mem _ hk)) ha⟩⟩
  | take h1 h2 _h3 _h4 ih1 ih2 =>
    rename_i k ks met m1 met' a b
    intro hs ha
    simp only [List.length_append] at ha
    refine ⟨h1, .inr ⟨h2, _, _, _, c_tagsQ hl (ih1 kidsL_slot (by omega)) ?_ (by omega), ih2 (fun k hk => hs k (List.mem_cons_of_mem _ hk)) (by omega), rfl⟩⟩
    have := kidsL_len w.l (nodeAt w.l k).first
    unfold totN at hl
    omega
def tagsP (w : World') : List Int → List Int → List Int → List Int → Prop
  | [], met, a, met' => a = [] ∧ met' = met
  | k :: ks, met, a, met' => ∃ a1 m1 b, CallD Try.prog F_spec_l15Tags [rWorld w, iS k, oI met] (fun r _ => r = tLL a1 m1) ∧ tagsP w ks m1 b met' ∧ a = a1 ++ b
theorem c_tno {w : World'} (hl : w.l.length ≤ 1048576) {k : Int} {met : List Int} (hlen : met.length ≤ 1048576) (h : (slotB w.l k && !has met k) = false) : CallD Try.prog F_spec_l15Tags [rWorld w, iS k, oI met] fun r _ => r = tLL [] met := by
  refine k_spec_l15Tags ?_
  unfold vc_spec_l15Tags
  have c1 := c_l1In k 0 (IntKind.i64.wrap ((w.l.length : Int) - 1))
  rw [within_slot hl] at c1
  simp only [nI, n_nodes]
  refine ⟨_, c1, fun g1 => ⟨_, c_has (by unfold M63; omega) k, fun g2 => rfl, fun g2 => ?_⟩, fun g1 => rfl⟩
  rw [g1, g2] at h
  cases h
theorem c_ttake {w : World'} (hl : totN w.l ≤ 1048576) (hok : ∀ n ∈ w.l, n.ok) {k : Int} {met m1 a : List Int} (hlen : met.length ≤ 1048576) (hs : slotB w.l k = true) (hm : has met k = false)
    (hP : tagsP w (kidsL w.l (nodeAt w.l k).first) (met ++ [k]) a m1) (hal : (ownTg w k ++ a).length ≤ 1048576) : CallD Try.prog F_spec_l15Tags [rWorld w, iS k, oI met] fun r _ => r = tLL (ownTg w k ++ a) m1 := by
  have hz := szs_nonneg w.l
  have hll : w.l.length ≤ 1048576 := by unfold totN at hl; omega
  obtain ⟨p1, p2⟩ := slotB_iff.1 hs
  obtain ⟨hi, e⟩ := nodeAt_eq hs
  have hsz := szs_at hi
  have htg : w.l[k.toNat].tags.length ≤ 1048576 := by unfold Node.sz at hsz; unfold totN at hl; omega
  refine k_spec_l15Tags ?_
  unfold vc_spec_l15Tags
  have c1 := c_l1In k 0 (IntKind.i64.wrap ((w.l.length : Int) - 1))
  rw [within_slot hll] at c1
  have c2 := c_has (l := met) (by unfold M63; omega) k
  have hkids := c_KidsOfS hll hok (hok _ (List.getElem_mem hi)).2.2.2.2.2.1
  have hkl := kidsL_len w.l (nodeAt w.l k).first
  have htd := c_TagsDownS htg
  unfold ownTg at hal ⊢
  rw [e] at hP hkl hal ⊢
  simp only [nI, n_nodes, List.nil_append, n_one, ints_length, List.length_nil, List.length_singleton, drop_nodes hi, List.drop_succ_cons, List.drop_zero, hdD_cons, isL_sl, es_sl, isI_iV, asI_iV, ints_snoc]
  refine ⟨_, c1, fun g1 => ⟨_, c2, fun g2 => (by rw [hm] at g2; cases g2), fun g2 => ?_⟩, fun g1 => (by rw [hs] at g1; cases g1)⟩
  refine ⟨AllVal_ints _, by omega, by omega, by omega, by omega, p1, p2, by simp, trivial, _, htd, p1, p2, by simp, trivial, _, hkids, ?_⟩
  generalize kidsL w.l w.l[k.toNat].first = ks at *
  simp only [ints_length]
  refine ⟨fun es es2 n m => ∃ q : Nat, n = q ∧ q ≤ ks.length ∧ m = ks.length - q ∧ ∃ M b x, es = ints M ∧ es2 = ints x ∧ tagsP w (ks.drop q) M b m1 ∧ x ++ b = w.l[k.toNat].tags.reverse ++ a, ⟨ks.length, 0, rfl, Nat.zero_le _, rfl, met ++ [k], a, _, rfl, rfl, by simpa using hP, rfl⟩, ?_⟩
  rintro es es2 n m ⟨q, rfl, hq', rfl, M, b, x, rfl, rfl, hQ, hx⟩
  simp only [Int.toNat_natCast, Nat.mul_one, decide_eq_true_eq (p := (q : Int) < ks.length), decide_eq_false_iff_not (p := (q : Int) < ks.length), wrap_nat q (by omega)]
  refine ⟨fun h1 => ?_, fun h1 => ?_⟩
  · have ha : q < ks.length := by omega
    rw [List.drop_eq_getElem_cons ha] at hQ
    obtain ⟨a1, M1, b1, hc, hQ, rfl⟩ := hQ
    have ge : (ints ks).getD q dfl = iV ks[q] := by rw [getD_ints ha, getD_eq ha]
    have hlen2 := congrArg List.length hx
    simp only [List.length_append] at hlen2 hal
    simp only [getP_one, ge, isI_iV, asI_iV]
    refine ⟨by omega, by omega, by rw [placeOk_one, ints_length]; exact ⟨ha, trivial⟩, trivial, _, _, hc, AllVal_ints _, ?_, ?_, ⟨trivial, trivial⟩, ks.length - (q + 1), by omega, q + 1, rfl, by omega, rfl, M1, b1, x ++ a1, rfl, by rw [ints_app], hQ, by rw [← hx]; simp⟩
    · simp only [ints_length]; omega
    · simp only [ints_length]; omega
  · have : q = ks.length := by omega
    subst this
    rw [List.drop_length] at hQ
    obtain ⟨rfl, rfl⟩ := hQ
    rw [List.append_nil] at hx
    rw [hx]
theorem deep_tagsP {w : World'} (hl : totN w.l ≤ 1048576) (hok : ∀ n ∈ w.l, n.ok) {ks met met' a : List Int} (h : DeepT w ks met a met') : met.length + unmet w.l met ≤ w.l.length → a.length ≤ 1048576 → tagsP w ks met a met' := by
  have hz := szs_nonneg w.l
  have hll : w.l.length ≤ 1048576 := by unfold totN at hl; omega
  induction h with
  | nil => intro _ _; exact ⟨rfl, rfl⟩
  | skip hb _ ih => intro hn ha; exact ⟨[], _, _, c_tno hll (by omega) hb, ih hn ha, rfl⟩
  | take h1 h2 h3 _h4 ih1 ih2 =>
    rename_i k ks met m1 met' a b
    intro hn ha
    have hu := unmet_lt h1 h2
    have hn' : (met ++ [k]).length + unmet w.l (met ++ [k]) ≤ w.l.length := by
      simp only [List.length_append, List.length_singleton]
      omega
    simp only [List.length_append] at ha
    exact ⟨_, _, _, c_ttake hl hok (by omega) h1 h2 (ih1 hn' (by omega)) (by simp only [List.length_append]; omega), ih2 (deep_len h3 hn') (by omega), by simp⟩
/-- The tags that reclaiming a room executes. -/
def tagsL (w : World') (k : Int) : List Int := (deepF (fun a b : List Int => a ++ b) [] (ownTg w) w.l (w.l.length * (w.l.length + 1) + 2) [k] []).1
theorem tags_deep {w : World'} (hl : totN w.l ≤ 1048576) (k : Int) : (∃ met', DeepT w [k] [] (tagsL w k) met') ∧ (tagsL w k).length ≤ 1048576 := by
  have hd := (deep_go (fun a b : List Int => a ++ b) [] (ownTg w) w.l (w.l.length * (w.l.length + 1) + 2) [k] [] (by rw [unmet_nil]; simp)).1
  refine ⟨⟨_, hd⟩, ?_⟩
  have h1 := deep_tlen hd
  have h2 := tw_le (l := w.l) w.l.length (Nat.le_refl _)
  rw [List.take_length] at h2
  unfold totN at hl
  unfold tagsL
  omega
theorem c_TagsOf {w : World'} (hl : totN w.l ≤ 1048576) (k : Int) : CallD Try.prog F_impl_TagsOf [rWorld w, iS k] fun r _ => r = oI (tagsL w k) := by
  have hz := szs_nonneg w.l
  have hll : w.l.length ≤ 1048576 := by unfold totN at hl; omega
  obtain ⟨⟨met', hd⟩, hlen⟩ := tags_deep hl k
  refine k_impl_TagsOf ?_
  unfold vc_impl_TagsOf
  simp only [nI, n_nodes, Int.toNat_natCast, bm_nil]
  refine ⟨_, c_isSlot (by unfold M63; omega) k, fun g => ⟨trivial, by omega, by omega, by omega, by omega, ?_⟩, fun g => ?_⟩
  · have hq := c_tagsQ hl (deep_tags hl hd (fun x hx => by rw [List.mem_singleton.1 hx]; exact g) hlen) (by simp) hlen
    exact ⟨trivial, trivial, _, _, rfl, hq, rfl⟩
  · show oI [] = oI (tagsL w k)
    refine oI_eq ?_
    generalize tagsL w k = a at *
    cases hd with
    | skip _ h => cases h; rfl
    | take h1 => rw [g] at h1; cases h1
theorem c_TagsOfS {w : World'} (hl : totN w.l ≤ 1048576) (hok : ∀ n ∈ w.l, n.ok) (k : Int) : CallD Try.prog F_spec_TagsOf [rWorld w, iS k] fun r _ => r = oI (tagsL w k) := by
  obtain ⟨⟨met', hd⟩, hlen⟩ := tags_deep hl k
  refine k_spec_TagsOf ?_
  unfold vc_spec_TagsOf
  obtain ⟨a1, m1, b, hc, ⟨rfl, rfl⟩, e⟩ := deep_tagsP hl hok hd (by rw [unmet_nil]; simp) hlen
  rw [List.append_nil] at e
  rw [e]
  exact ⟨_, _, hc, rfl⟩
end Go.Proofs.Ytmnfcahbmlfccaa
