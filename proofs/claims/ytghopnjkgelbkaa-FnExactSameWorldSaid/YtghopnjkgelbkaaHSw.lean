/- Contracts of small functions: worlds that are equal. -/
import Derived.Test.YtghopnjkgelbkaaHQ
import Derived.Test.YtghopnjkgelbkaaVHQ
import Derived.Test.YtghopnjkgelbkaaVN1
namespace Go.Proofs.Ytghopnjkgelbkaa
open Go Go.Proofs.Ytghopnjkgelbkaa.DL
set_option maxRecDepth 100000

theorem c_szWorldG {w : World'} (hw : w.ok) {b : Int} (h0 : 0 ≤ b) (hb : b ≤ 1048576) : CallD Try.prog F_laws_szWorld [rWorld w, iS b] fun r _ => r = iS (lf (totW w) b) := by
  obtain ⟨-, h1, h2, h3, ⟨h4, -⟩⟩ := hw
  have n2 := szs_nonneg w.l
  have n3 := szq_nonneg w.q
  refine k_laws_szWorld ?_
  unfold vc_laws_szWorld
  have e : totW w = totP w.p + totN w.l + totQ w.q + w.log.length := rfl
  have p1 : 0 ≤ totP w.p := by unfold totP; omega
  have p2 : 0 ≤ totN w.l := by unfold totN; omega
  have p3 : 0 ≤ totQ w.q := by unfold totQ; omega
  refine ⟨_, c_szPool h1 (by omega) (by omega), fun g => iS_eq (lf_neg g (by omega)), fun g => ?_⟩
  obtain ⟨k1, k2⟩ := lf_pos g
  rw [k2]
  refine ⟨_, c_szNodes h2 (by omega) (by omega), fun g2 => iS_eq ?_, fun g2 => ?_⟩
  · rw [lf_add] at g2
    exact lf_neg g2 (by omega)
  obtain ⟨k3, k4⟩ := lf_pos g2
  rw [k4]
  refine ⟨_, c_szWastes h3 (by omega) (by omega), fun g3 => iS_eq ?_, fun g3 => ?_⟩
  · rw [lf_add, lf_add] at g3
    exact lf_neg g3 (by omega)
  obtain ⟨k5, k6⟩ := lf_pos g3
  rw [k6]
  refine ⟨_, c_szInts h4 (by omega) (by omega), fun g4 => iS_eq ?_, fun g4 => iS_eq ?_⟩
  · rw [lf_add, lf_add, lf_add] at g4
    exact lf_neg g4 (by omega)
  · rw [lf_add, lf_add, lf_add, e]; congr 1; omega
theorem foldl_push {α : Type} (f : α → UInt8) : ∀ (l : List α) (s : ByteArray), l.foldl (fun r d => r.push (f d)) s = ⟨s.data ++ (l.map f).toArray⟩
  | [], s => by simp
  | d :: l, s => by
    simp only [List.foldl_cons]
    rw [foldl_push f l]
    simp [ByteArray.push]
theorem bytes_eq {a b : List Int} (ha : ∀ x ∈ a, 0 ≤ x ∧ x ≤ 255) (hb : ∀ x ∈ b, 0 ≤ x ∧ x ≤ 255) :
    decide (((byts a).foldl (fun (r : ByteArray) (d : DV) => r.push (UInt8.ofNat d.asI.toNat)) ByteArray.empty).toList = ((byts b).foldl (fun (r : ByteArray) (d : DV) => r.push (UInt8.ofNat d.asI.toNat)) ByteArray.empty).toList) = decide (a = b) := by
  have e : ∀ l : List Int, ((byts l).foldl (fun (r : ByteArray) (d : DV) => r.push (UInt8.ofNat d.asI.toNat)) ByteArray.empty).toList = l.map fun x => UInt8.ofNat x.toNat := fun l => by
    rw [foldl_push (fun d : DV => UInt8.ofNat d.asI.toNat), ByteArray.toList_eq]
    have : ByteArray.empty.data = #[] := rfl
    rw [this]
    simp only [byts, List.map_map]
    simp
    exact fun _ _ => rfl
  rw [e, e, Bool.eq_iff_iff, decide_eq_true_eq, decide_eq_true_eq]
  refine ⟨fun h => ?_, fun h => by rw [h]⟩
  have hl : a.length = b.length := by have := congrArg List.length h; simpa using this
  refine List.ext_getElem hl fun i h1 h2 => ?_
  have h3 : (a.map fun x => UInt8.ofNat x.toNat)[i]'(by simpa using h1) = (b.map fun x => UInt8.ofNat x.toNat)[i]'(by simpa using h2) := by simp only [h]
  simp only [List.getElem_map] at h3
  have h4 := congrArg UInt8.toNat h3
  obtain ⟨p1, p2⟩ := ha _ (List.getElem_mem h1)
  obtain ⟨q1, q2⟩ := hb _ (List.getElem_mem h2)
  rw [UInt8.toNat_ofNat', UInt8.toNat_ofNat', Nat.mod_eq_of_lt (by omega), Nat.mod_eq_of_lt (by omega)] at h4
  omega
theorem c_EqualB {a b : List Int} (ha : a.length ≤ M63) : CallD Try.prog F_slices_Equal_byte [rB a, rB b] fun r _ => r = bS (decide (a = b)) := by
  refine k_slices_Equal_byte ?_
  unfold vc_slices_Equal_byte
  simp only [nI, n_byts]
  refine ⟨fun h1 => bS_eq ?_, fun h1 => ?_⟩
  · have : a.length ≠ b.length := by simp at h1; omega
    have : a ≠ b := fun e => this (by rw [e])
    simp [this]
  · have hl : a.length = b.length := by simp at h1; omega
    refine ⟨fun i m => ∃ k : Nat, i = k ∧ k ≤ a.length ∧ m = a.length - k ∧ a.take k = b.take k, ⟨a.length, 0, rfl, Nat.zero_le _, rfl, rfl⟩, ?_⟩
    rintro i m ⟨k, rfl, hk, rfl, ht⟩
    simp only [Int.toNat_natCast, decide_eq_true_eq, decide_eq_false_iff_not, Nat.mul_one]
    refine ⟨fun h1 => ?_, fun h1 => bS_eq ?_⟩
    · have ha' : k < a.length := by omega
      have hb' : k < b.length := by omega
      have u1 : ∀ n : Int, DV.isI IntKind.u8 (uV n) := fun _ => rfl
      have u2 : ∀ n : Int, (uV n).asI = n := fun _ => rfl
      unfold M63 at ha
      simp only [hd_byts ha', hd_byts hb', u2, wrap_id (n := (k : Int) + 1) (by omega) (by omega)]
      refine ⟨by omega, by omega, by simp [byts]; omega, u1 _, by omega, by omega, by simp [byts]; omega, u1 _, fun h2 => bS_eq ?_, fun h2 => ⟨⟨trivial, trivial, trivial⟩, a.length - (k + 1), by omega, k + 1, by omega, by omega, rfl, all_take_succ ha' hb' ht (by simpa using h2)⟩⟩
      have : a ≠ b := fun e => by subst e; simp at h2
      simp [this]
    · have : k = a.length := by omega
      subst this
      rw [List.take_length, hl, List.take_length] at ht
      simp [ht]
theorem c_l7SameInts {a b : List Int} (ha : a.length ≤ M63) : CallD Try.prog F_spec_l7SameInts [rI a, rI b] fun r _ => r = bS (decide (a = b)) := by
  refine k_spec_l7SameInts ?_
  unfold vc_spec_l7SameInts
  simp only [nI, n_ints]
  refine ⟨fun h1 => bS_eq ?_, fun h1 => ?_⟩
  · have : a.length ≠ b.length := by simp at h1; omega
    have : a ≠ b := fun e => this (by rw [e])
    simp [this]
  · have hl : a.length = b.length := by simp at h1; omega
    refine ⟨fun i m => ∃ k : Nat, i = k ∧ k ≤ a.length ∧ m = a.length - k ∧ a.take k = b.take k, ⟨a.length, 0, rfl, Nat.zero_le _, rfl, rfl⟩, ?_⟩
    rintro i m ⟨k, rfl, hk, rfl, ht⟩
    simp only [Int.toNat_natCast, decide_eq_true_eq, decide_eq_false_iff_not, Nat.mul_one]
    refine ⟨fun h1 => ?_, fun h1 => bS_eq ?_⟩
    · have ha' : k < a.length := by omega
      have hb' : k < b.length := by omega
      unfold M63 at ha
      simp only [hd_ints ha', hd_ints hb', isI_iV, asI_iV, wrap_id (n := (k : Int) + 1) (by omega) (by omega)]
      refine ⟨by omega, by omega, by simp [ints]; omega, trivial, by omega, by omega, by simp [ints]; omega, trivial, fun h2 => bS_eq ?_, fun h2 => ⟨⟨trivial, trivial⟩, a.length - (k + 1), by omega, k + 1, by omega, by omega, rfl, all_take_succ ha' hb' ht (by simpa using h2)⟩⟩
      have : a ≠ b := fun e => by subst e; simp at h2
      simp [this]
    · have : k = a.length := by omega
      subst this
      rw [List.take_length, hl, List.take_length] at ht
      simp [ht]
theorem c_SameNodeS {x y : Node} (h1 : x.chunks.length ≤ M63) (h2 : x.things.length ≤ M63) (h3 : x.tags.length ≤ M63) : CallD Try.prog F_spec_SameNode [rNode x, rNode y] fun r _ => r = bS (decide (x = y)) := by
  have e1 := c_l7SameInts (b := y.chunks) h1
  have e3 := c_l7SameInts (b := y.tags) h3
  refine k_spec_SameNode ?_
  unfold vc_spec_SameNode
  have no : ∀ {P : Prop}, (x = y → P) → ¬ P → oneC (DL.bC false) = bS (decide (x = y)) := fun h hn => bS_eq (decide_eq_false fun e => hn (h e)).symm
  simp only [nI, n_things, Bool.not_eq_true', Bool.not_eq_false', decide_eq_false_iff_not, decide_eq_true_eq]
  refine ⟨fun g => no (fun e => by rw [e]) g, fun g0 => ⟨fun g => no (fun e => by rw [e]) g, fun g1 => ⟨fun g => no (fun e => by rw [e]) g, fun g2 => ⟨fun g => no (fun e => by rw [e]) g, fun g3 => ⟨fun g => no (fun e => by rw [e]) g, fun g4 => ⟨fun g => no (fun e => by rw [e]) g, fun g5 => ⟨fun g => no (fun e => by rw [e]) g, fun g6 => ⟨fun g => no (fun e => by rw [e]) g, fun g7 => ⟨_, e1, fun g8 => ?_, fun g => ?_⟩⟩⟩⟩⟩⟩⟩⟩⟩
  · rw [decide_eq_true_eq] at g8
    refine ⟨fun g => no (fun e => by rw [e]) g, fun g9 => ⟨fun g => no (fun e => by rw [e]) g, fun g10 => ⟨fun g => no (P := x.things.length = y.things.length) (fun e => by rw [e]) (by omega), fun g11 => ⟨_, e3, fun g12 => ?_, fun g => ?_⟩⟩⟩⟩
    · rw [decide_eq_true_eq] at g12
      have hl : x.things.length = y.things.length := by omega
      refine ⟨fun i m => ∃ k : Nat, i = k ∧ k ≤ x.things.length ∧ m = x.things.length - k ∧ x.things.take k = y.things.take k, ⟨x.things.length, 0, rfl, Nat.zero_le _, rfl, rfl⟩, ?_⟩
      rintro i m ⟨k, rfl, hk, rfl, ht⟩
      simp only [Int.toNat_natCast]
      refine ⟨fun g => ?_, fun g => bS_eq ?_⟩
      · have ha' : k < x.things.length := by omega
        have hb' : k < y.things.length := by omega
        unfold M63 at h2
        simp only [drop_things ha', drop_things hb', hdD_cons, List.tail_cons, isI_iV, asI_iV, wrap_id (n := (k : Int) + 1) (by omega) (by omega), Bool.and_true]
        refine ⟨by omega, by omega, by simp, trivial, trivial, trivial, by omega, by omega, by simp, trivial, trivial, trivial, fun h => no (P := x.things[k] = y.things[k]) (fun e => by subst e; rfl) (fun e => by rw [e] at h; simp at h), fun h => ⟨by simp, x.things.length - (k + 1), by omega, k + 1, by omega, by omega, rfl, take_next ha' hb' ht ?_⟩⟩
        rw [Thing.eq_iff]; simpa using h
      · have : k = x.things.length := by omega
        subst this
        rw [List.take_length, hl, List.take_length] at ht
        exact (decide_eq_true ((Node.eq_iff x y).2 ⟨g0, g1, g2, g3, g4, g5, g6, g7, g8, g9, g10, ht, g12⟩)).symm
    · exact no (fun e => by rw [e]) (of_decide_eq_false g)
  · exact no (fun e => by rw [e]) (of_decide_eq_false g)
theorem c_EqFN {a b : List Node} (ht : totN a ≤ 1048576) : CallD Try.prog F_slices_EqualFunc_impl_Node_impl_Node_impl_Node_impl_Node [rNs a, rNs b, .cloR F_impl_SameNode []] fun r _ => r = bS (decide (a = b)) := by
  have h0 := szs_nonneg a
  unfold totN at ht
  refine k_slices_EqualFunc_impl_Node_impl_Node_impl_Node_impl_Node ?_
  unfold vc_slices_EqualFunc_impl_Node_impl_Node_impl_Node_impl_Node
  simp only [nI, n_nodes]
  refine ⟨fun h1 => bS_eq ?_, fun h1 => ?_⟩
  · have : a.length ≠ b.length := by simp at h1; omega
    have : a ≠ b := fun e => this (by rw [e])
    simp [this]
  · have hl : a.length = b.length := by simp at h1; omega
    refine ⟨fun i m => ∃ k : Nat, i = k ∧ k ≤ a.length ∧ m = a.length - k ∧ a.take k = b.take k, ⟨a.length, 0, rfl, Nat.zero_le _, rfl, rfl⟩, ?_⟩
    rintro i m ⟨k, rfl, hk, rfl, ht'⟩
    simp only [Int.toNat_natCast, decide_eq_true_eq (p := (k : Int) < a.length), decide_eq_false_iff_not (p := (k : Int) < a.length)]
    refine ⟨fun h1 => ?_, fun h1 => bS_eq ?_⟩
    · have ha' : k < a.length := by omega
      have hb' : k < b.length := by omega
      have hsz := szs_at ha'
      have hz : a[k].sz ≤ 1048576 := by omega
      unfold Node.sz at hz
      have c := c_SameNode (x := a[k]) (y := b[k]) (by unfold M63; omega) (by unfold M63; omega) (by unfold M63; omega)
      simp only [drop_nodes ha', drop_nodes hb', hdD_cons, List.tail_cons, isI_iV, asI_iV, isL_sl, es_sl, wrap_id (n := (k : Int) + 1) (by omega) (by omega)]
      refine ⟨by omega, by omega, by simp, trivial, trivial, trivial, trivial, trivial, trivial, trivial, trivial, trivial, trivial, trivial, trivial, trivial, by omega, by omega, by simp, trivial, trivial, trivial, trivial, trivial, trivial, trivial, trivial, trivial, trivial, trivial, trivial, trivial, _, c, fun h2 => ⟨by simp, a.length - (k + 1), by omega, k + 1, by omega, by omega, rfl, take_next ha' hb' ht' (of_decide_eq_true h2)⟩, fun h2 => bS_eq ?_⟩
      have : a ≠ b := fun e => by subst e; simp at h2
      simp [this]
    · have : k = a.length := by omega
      subst this
      rw [List.take_length, hl, List.take_length] at ht'
      simp [ht']
theorem c_SameTable {a b : List Node} (ht : totN a ≤ 1048576) : CallD Try.prog F_impl_SameTable [rNs a, rNs b] fun r _ => r = bS (decide (a = b)) := by
  refine k_impl_SameTable ?_
  unfold vc_impl_SameTable
  exact ⟨_, c_EqFN ht, fun g => bS_eq g.symm, fun g => bS_eq g.symm⟩
theorem c_SameTableS {a b : List Node} (ht : totN a ≤ 1048576) : CallD Try.prog F_spec_SameTable [rNs a, rNs b] fun r _ => r = bS (decide (a = b)) := by
  have h0 := szs_nonneg a
  unfold totN at ht
  refine k_spec_SameTable ?_
  unfold vc_spec_SameTable
  simp only [nI, n_nodes]
  refine ⟨fun h1 => bS_eq ?_, fun h1 => ?_⟩
  · have : a.length ≠ b.length := by simp at h1; omega
    have : a ≠ b := fun e => this (by rw [e])
    simp [this]
  · have hl : a.length = b.length := by simp at h1; omega
    refine ⟨fun i m => ∃ k : Nat, i = k ∧ k ≤ a.length ∧ m = a.length - k ∧ a.take k = b.take k, ⟨a.length, 0, rfl, Nat.zero_le _, rfl, rfl⟩, ?_⟩
    rintro i m ⟨k, rfl, hk, rfl, ht'⟩
    simp only [Int.toNat_natCast, decide_eq_true_eq (p := (k : Int) < a.length), decide_eq_false_iff_not (p := (k : Int) < a.length)]
    refine ⟨fun h1 => ?_, fun h1 => bS_eq ?_⟩
    · have ha' : k < a.length := by omega
      have hb' : k < b.length := by omega
      have hsz := szs_at ha'
      have hz : a[k].sz ≤ 1048576 := by omega
      unfold Node.sz at hz
      have c := c_SameNodeS (x := a[k]) (y := b[k]) (by unfold M63; omega) (by unfold M63; omega) (by unfold M63; omega)
      simp only [drop_nodes ha', drop_nodes hb', hdD_cons, List.tail_cons, isI_iV, asI_iV, isL_sl, es_sl, wrap_id (n := (k : Int) + 1) (by omega) (by omega)]
      refine ⟨by omega, by omega, by simp, trivial, trivial, trivial, trivial, trivial, trivial, trivial, trivial, trivial, trivial, trivial, trivial, trivial, by omega, by omega, by simp, trivial, trivial, trivial, trivial, trivial, trivial, trivial, trivial, trivial, trivial, trivial, trivial, trivial, _, c, fun h2 => ⟨by simp, a.length - (k + 1), by omega, k + 1, by omega, by omega, rfl, take_next ha' hb' ht' (of_decide_eq_true h2)⟩, fun h2 => bS_eq ?_⟩
      have : a ≠ b := fun e => by subst e; simp at h2
      simp [this]
    · have : k = a.length := by omega
      subst this
      rw [List.take_length, hl, List.take_length] at ht'
      simp [ht']
theorem c_sameWaste {x y : Waste} (h1 : x.tags.length ≤ M63) (h2 : x.chunks.length ≤ M63) : CallD Try.prog F_impl_sameWaste [rWaste x, rWaste y] fun r _ => r = bS (decide (x = y)) := by
  have e1 := c_EqualI (b := y.tags) h1
  have e2 := c_EqualI (b := y.chunks) h2
  refine k_impl_sameWaste ?_
  unfold vc_impl_sameWaste
  repeat' (first | exact e1 | exact e2 | apply And.intro | intro _ | apply Exists.intro)
  all_goals (clear e1 e2 h1 h2; refine bS_eq ?_; simp_all [Waste.eq_iff])
theorem c_sameWasteS {x y : Waste} (h1 : x.tags.length ≤ M63) (h2 : x.chunks.length ≤ M63) : CallD Try.prog F_spec_l13SameWaste [rWaste x, rWaste y] fun r _ => r = bS (decide (x = y)) := by
  have e1 := c_l7SameInts (b := y.tags) h1
  have e2 := c_l7SameInts (b := y.chunks) h2
  refine k_spec_l13SameWaste ?_
  unfold vc_spec_l13SameWaste
  repeat' (first | exact e1 | exact e2 | apply And.intro | intro _ | apply Exists.intro)
  all_goals (clear e1 e2 h1 h2; refine bS_eq ?_; simp_all [Waste.eq_iff])
theorem c_EqFW {a b : List Waste} (ht : totQ a ≤ 1048576) : CallD Try.prog F_slices_EqualFunc_impl_Waste_impl_Waste_impl_Waste_impl_Waste [oneC (.rd (.sl 5 (wsts a))), oneC (.rd (.sl 5 (wsts b))), .cloR F_impl_sameWaste []] fun r _ => r = bS (decide (a = b)) := by
  have h0 := szq_nonneg a
  unfold totQ at ht
  refine k_slices_EqualFunc_impl_Waste_impl_Waste_impl_Waste_impl_Waste ?_
  unfold vc_slices_EqualFunc_impl_Waste_impl_Waste_impl_Waste_impl_Waste
  simp only [nI, n_wastes]
  refine ⟨fun h1 => bS_eq ?_, fun h1 => ?_⟩
  · have : a.length ≠ b.length := by simp at h1; omega
    have : a ≠ b := fun e => this (by rw [e])
    simp [this]
  · have hl : a.length = b.length := by simp at h1; omega
    refine ⟨fun i m => ∃ k : Nat, i = k ∧ k ≤ a.length ∧ m = a.length - k ∧ a.take k = b.take k, ⟨a.length, 0, rfl, Nat.zero_le _, rfl, rfl⟩, ?_⟩
    rintro i m ⟨k, rfl, hk, rfl, ht'⟩
    simp only [Int.toNat_natCast, decide_eq_true_eq (p := (k : Int) < a.length), decide_eq_false_iff_not (p := (k : Int) < a.length)]
    refine ⟨fun h1 => ?_, fun h1 => bS_eq ?_⟩
    · have ha' : k < a.length := by omega
      have hb' : k < b.length := by omega
      have hsz := szq_at ha'
      have hz : a[k].sz ≤ 1048576 := by omega
      unfold Waste.sz at hz
      have c := c_sameWaste (x := a[k]) (y := b[k]) (by unfold M63; omega) (by unfold M63; omega)
      simp only [drop_wastes ha', drop_wastes hb', hdD_cons, List.tail_cons, isI_iV, asI_iV, isL_sl, es_sl, wrap_id (n := (k : Int) + 1) (by omega) (by omega)]
      refine ⟨by omega, by omega, by simp, trivial, trivial, trivial, trivial, trivial, by omega, by omega, by simp, trivial, trivial, trivial, trivial, trivial, _, c, fun h2 => ⟨by simp, a.length - (k + 1), by omega, k + 1, by omega, by omega, rfl, take_next ha' hb' ht' (of_decide_eq_true h2)⟩, fun h2 => bS_eq ?_⟩
      have : a ≠ b := fun e => by subst e; simp at h2
      simp [this]
    · have : k = a.length := by omega
      subst this
      rw [List.take_length, hl, List.take_length] at ht'
      simp [ht']
theorem c_samePool {a b : Pool} (h1 : a.mem.length ≤ M63) (h2 : a.st.length ≤ M63) (h3 : a.own.length ≤ M63) : CallD Try.prog F_impl_samePool [rPool a, rPool b] fun r _ => r = bS (decide (a.mem = b.mem) && (decide (a.st = b.st) && decide (a.own = b.own))) := by
  have e1 := c_EqualB (b := b.mem) h1
  have e2 := c_EqualI (b := b.st) h2
  have e3 := c_EqualI (b := b.own) h3
  refine k_impl_samePool ?_
  unfold vc_impl_samePool
  repeat' (first | exact e1 | exact e2 | exact e3 | apply And.intro | intro _ | apply Exists.intro)
  all_goals (clear e1 e2 e3 h1 h2 h3; refine bS_eq ?_; simp_all)
def confB (a b : Conf) : Bool := decide (a.chunks = b.chunks) && (decide (a.size = b.size) && (decide (a.slots = b.slots) && (decide (a.tax = b.tax) && (decide (a.slice = b.slice) && (decide (a.gens = b.gens) && true)))))
def worldB (a b : World') : Bool := confB a.c b.c && ((decide (a.p.mem = b.p.mem) && (decide (a.p.st = b.p.st) && decide (a.p.own = b.p.own))) && (decide (a.l = b.l) && (decide (a.q = b.q) && decide (a.log = b.log))))
theorem c_SameWorld {a : World'} (h : decide (lf (totW a) 1048576 < 0) = false) (b : World') : CallD Try.prog F_impl_SameWorld [rWorld a, rWorld b] fun r _ => r = bS (worldB a b) := by
  obtain ⟨-, h2, h3, h4, h5, h6, h7⟩ := World'.tot_le h
  have e1 := c_samePool (a := a.p) (b := b.p) (by unfold M63; omega) (by unfold M63; omega) (by unfold M63; omega)
  have e2 := c_SameTable (b := b.l) h2
  have e3 := c_EqFW (b := b.q) h3
  have e4 := c_EqualI (a := a.log) (b := b.log) (by unfold M63; omega)
  refine k_impl_SameWorld ?_
  unfold vc_impl_SameWorld worldB confB
  clear h2 h3 h4 h5 h6 h7 h
  generalize (decide (a.c.chunks = b.c.chunks) && (decide (a.c.size = b.c.size) && (decide (a.c.slots = b.c.slots) && (decide (a.c.tax = b.c.tax) && (decide (a.c.slice = b.c.slice) && (decide (a.c.gens = b.c.gens) && true)))))) = z at *
  generalize (decide (a.p.mem = b.p.mem) && (decide (a.p.st = b.p.st) && decide (a.p.own = b.p.own))) = y at *
  repeat' (first | exact e1 | exact e2 | exact e3 | exact e4 | apply And.intro | intro _ | apply Exists.intro)
  all_goals (clear e1 e2 e3 e4; refine bS_eq ?_; simp_all)
theorem c_SameWorldS {a b : World'} (h : decide (lf (totW a) 1048576 < 0) = false) (ha : ∀ x ∈ a.p.mem, 0 ≤ x ∧ x ≤ 255) (hb : ∀ x ∈ b.p.mem, 0 ≤ x ∧ x ≤ 255) : CallD Try.prog F_spec_SameWorld [rWorld a, rWorld b] fun r _ => r = bS (worldB a b) := by
  obtain ⟨-, h2, h3, h4, h5, h6, h7⟩ := World'.tot_le h
  have e1 := c_l7SameInts (a := a.p.st) (b := b.p.st) (by unfold M63; omega)
  have e2 := c_l7SameInts (a := a.p.own) (b := b.p.own) (by unfold M63; omega)
  have e3 := c_SameTableS (b := b.l) h2
  have e4 := c_l7SameInts (a := a.log) (b := b.log) (by unfold M63; omega)
  have hq := szq_nonneg a.q
  have hlq : a.q.length ≤ 1048576 := by unfold totQ at h3; omega
  have bI : ∀ (l : List Int) (d : DV), d ∈ byts l → DV.isI IntKind.u8 d := fun l d hd => by
    obtain ⟨x, _, rfl⟩ := List.mem_map.1 hd
    rfl
  have no : ∀ {z : Bool}, (worldB a b = true → z = true) → z = false → oneC (DL.bC false) = bS (worldB a b) := fun hz hf => bS_eq (by
    cases e : worldB a b with
    | false => rfl
    | true => rw [hz e] at hf; cases hf)
  refine k_spec_SameWorld ?_
  unfold vc_spec_SameWorld
  have hB := bytes_eq ha hb
  simp only [hB, nI, n_wastes, Bool.not_eq_true', Bool.not_eq_false']
  have hw : worldB a b = (confB a.c b.c && ((decide (a.p.mem = b.p.mem) && (decide (a.p.st = b.p.st) && decide (a.p.own = b.p.own))) && (decide (a.l = b.l) && (decide (a.q = b.q) && decide (a.log = b.log))))) := rfl
  have hc : (decide (a.c.chunks = b.c.chunks) && (decide (a.c.size = b.c.size) && (decide (a.c.slots = b.c.slots) && (decide (a.c.tax = b.c.tax) && (decide (a.c.slice = b.c.slice) && (decide (a.c.gens = b.c.gens) && true)))))) = confB a.c b.c := rfl
  rw [hc]
  have sp : ∀ {z1 z2 z3 z4 z5 z6 z7 : Bool}, (z1 && ((z2 && (z3 && z4)) && (z5 && (z6 && z7)))) = true → z1 = true ∧ z2 = true ∧ z3 = true ∧ z4 = true ∧ z5 = true ∧ z6 = true ∧ z7 = true := by
    intro z1 z2 z3 z4 z5 z6 z7; cases z1 <;> cases z2 <;> cases z3 <;> cases z4 <;> cases z5 <;> cases z6 <;> cases z7 <;> simp
  refine ⟨fun g => no (fun e => (sp (hw ▸ e)).1) g, fun g1 => ⟨bI _, bI _, fun g => no (fun e => (sp (hw ▸ e)).2.1) g, fun g2 => ⟨_, e1, fun g3 => ⟨_, e2, fun g4 => ⟨_, e3, fun g5 => ⟨fun g => ?_, fun g6 => ⟨_, e4, fun g7 => ?_, fun g => no (fun e => (sp (hw ▸ e)).2.2.2.2.2.2) g⟩⟩, fun g => no (fun e => (sp (hw ▸ e)).2.2.2.2.1) g⟩, fun g => no (fun e => (sp (hw ▸ e)).2.2.2.1) g⟩, fun g => no (fun e => (sp (hw ▸ e)).2.2.1) g⟩⟩⟩
  · refine no (z := decide ((a.q.length : Int) = b.q.length)) (fun e => ?_) g
    have := (sp (hw ▸ e)).2.2.2.2.2.1
    rw [decide_eq_true_eq] at this ⊢
    rw [this]
  · have hl : a.q.length = b.q.length := by rw [decide_eq_true_eq] at g6; omega
    refine ⟨fun i m => ∃ k : Nat, i = k ∧ k ≤ a.q.length ∧ m = a.q.length - k ∧ a.q.take k = b.q.take k, ⟨a.q.length, 0, rfl, Nat.zero_le _, rfl, rfl⟩, ?_⟩
    rintro i m ⟨k, rfl, hk, rfl, ht'⟩
    simp only [Int.toNat_natCast, decide_eq_true_eq (p := (k : Int) < a.q.length), decide_eq_false_iff_not (p := (k : Int) < a.q.length)]
    refine ⟨fun h1 => ?_, fun h1 => bS_eq ?_⟩
    · have ha' : k < a.q.length := by omega
      have hb' : k < b.q.length := by omega
      have hsz := szq_at ha'
      have hz : a.q[k].sz ≤ 1048576 := by unfold totQ at h3; omega
      unfold Waste.sz at hz
      have c := c_sameWasteS (x := a.q[k]) (y := b.q[k]) (by unfold M63; omega) (by unfold M63; omega)
      simp only [drop_wastes ha', drop_wastes hb', hdD_cons, List.tail_cons, isI_iV, asI_iV, isL_sl, es_sl, wrap_id (n := (k : Int) + 1) (by omega) (by omega)]
      refine ⟨by omega, by omega, by simp, trivial, trivial, trivial, trivial, trivial, by omega, by omega, by simp, trivial, trivial, trivial, trivial, trivial, _, c, fun h2 => ⟨by simp, a.q.length - (k + 1), by omega, k + 1, by omega, by omega, rfl, take_next ha' hb' ht' (of_decide_eq_true h2)⟩, fun h2 => no (z := decide (a.q = b.q)) (fun e => (sp (hw ▸ e)).2.2.2.2.2.1) ?_⟩
      have : a.q ≠ b.q := fun e => by simp only [e] at h2; simp at h2
      simp [this]
    · have : k = a.q.length := by omega
      subst this
      rw [List.take_length, hl, List.take_length] at ht'
      rw [hw, g1, g2, g3, g4, g5, g7, decide_eq_true ht']
      rfl
theorem worldb_inv {ds : List DV} (h : WTs [.int .i64, .int .i64, .int .i64, .int .i64, .int .i64, .int .i64, .sl [.int .u8], .sl [.int .i64], .sl [.int .i64],
    .sl [.int .i64, .int .i64, .int .i64, .int .i64, .int .i64, .int .i64, .int .i64, .int .i64, .sl [.int .i64], .int .i64, .int .i64, .sl [.int .i64, .int .i64, .int .i64], .sl [.int .i64]], .sl [.int .i64, .int .i64, .sl [.int .i64], .sl [.int .i64], .int .i64], .sl [.int .i64]] ds) :
    ∃ w : World', ds = [iV w.c.chunks, iV w.c.size, iV w.c.slots, iV w.c.tax, iV w.c.slice, iV w.c.gens, .sl 1 (byts w.p.mem), .sl 1 (ints w.p.st), .sl 1 (ints w.p.own), .sl 13 (nods w.l), .sl 5 (wsts w.q), .sl 1 (ints w.log)] ∧ (w.ok ∧ ∀ x ∈ w.p.mem, 0 ≤ x ∧ x ≤ 255) := by
  obtain ⟨w, e, hw⟩ := world_inv h
  refine ⟨w, e, hw, ?_⟩
  subst e
  obtain ⟨_, _, e, -, h⟩ := cons_inv h
  cases e
  obtain ⟨_, _, e, -, h⟩ := cons_inv h
  cases e
  obtain ⟨_, _, e, -, h⟩ := cons_inv h
  cases e
  obtain ⟨_, _, e, -, h⟩ := cons_inv h
  cases e
  obtain ⟨_, _, e, -, h⟩ := cons_inv h
  cases e
  obtain ⟨_, _, e, -, h⟩ := cons_inv h
  cases e
  obtain ⟨_, _, e, k, -⟩ := cons_inv h
  cases e
  obtain ⟨l, e, -, hr⟩ := byts_inv k
  injection e with _ e
  have : w.p.mem = l := by
    have := congrArg (List.map DV.asI) e
    simp only [byts, List.map_map] at this
    have id : (DV.asI ∘ fun n : Int => uV n) = id := rfl
    rwa [id, List.map_id, List.map_id] at this
  rw [this]
  exact hr
end Go.Proofs.Ytghopnjkgelbkaa
