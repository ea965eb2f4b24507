/- The program's AllApart returns what the reference's AllApart returns, for all arguments: the law FnExactAllApart says true of every list of things. No conditions. -/
import Derived.Test.YtbmflnlppnkbaaaHB
import Derived.Test.YtbmflnlppnkbaaaRows
import Derived.Test.YtbmflnlppnkbaaaChecked
import Derived.ProofKit
namespace Go.Proofs.Ytbmflnlppnkbaaa
open Go Go.Proofs.Ytbmflnlppnkbaaa.DL
open Go.ChangeShapes Go.WideShapes Go.ChangeAt Go.RowKit
set_option maxRecDepth 100000

namespace AllApart
def allB (l : List Thing) : Bool := (List.range l.length).all fun i => (List.range i).all fun j => apart (l.getD i ⟨0, 0, 0⟩) (l.getD j ⟨0, 0, 0⟩)
theorem allB_iff {l : List Thing} : allB l = true ↔ ∀ i (hi : i < l.length) j (hj : j < i), apart l[i] (l[j]'(by omega)) = true := by
  simp only [allB, List.all_eq_true, List.mem_range, List.getD_eq_getElem?_getD]
  constructor
  · intro h i hi j hj
    have := h i hi j hj
    rwa [List.getElem?_eq_getElem hi, List.getElem?_eq_getElem (by omega)] at this
  · intro h i hi j hj
    rw [List.getElem?_eq_getElem hi, List.getElem?_eq_getElem (by omega)]
    exact h i hi j hj
theorem allB_false {l : List Thing} {i j : Nat} (hi : i < l.length) (hj : j < i) (h : apart l[i] (l[j]'(by omega)) = false) : allB l = false := by
  cases e : allB l with
  | false => rfl
  | true => have := allB_iff.1 e i hi j hj; rw [h] at this; cases this

theorem c_fn {u t : Thing} (hu : u.ok) (ht : t.ok) : CallD Try.prog F_impl_AllApart_1 [thingS u, .rptr t.enc] fun r _ => r = bS (!apart u t) := by
  refine k_impl_AllApart_1 ?_
  unfold vc_impl_AllApart_1
  simp only [hdD_cons, asI_iV, isI_iV]
  refine ⟨by simp, trivial, trivial, trivial, _, c_apart hu ht, fun h => bS_eq ?_, fun h => bS_eq ?_⟩
  · rw [h]
  · rw [h]
theorem c_impl {l : List Thing} (hl : l.length ≤ 1048576) (hok : ∀ t ∈ l, t.ok) : CallD Try.prog F_impl_AllApart [rTh l] fun r _ => r = bS (allB l) := by
  refine k_impl_AllApart ?_
  unfold vc_impl_AllApart
  simp only [nI, n_things]
  refine ⟨fun i m => ∃ k : Nat, i = k ∧ k ≤ l.length ∧ m = l.length - k ∧ ∀ i (hi : i < l.length) j (hj : j < i), i < k → apart l[i] (l[j]'(by omega)) = true, ⟨l.length, 0, rfl, Nat.zero_le _, rfl, fun i hi j hj h => by omega⟩, ?_⟩
  rintro i m ⟨k, rfl, hk, rfl, ht⟩
  simp only [Int.toNat_natCast, decide_eq_true_eq, decide_eq_false_iff_not, take_things, drop0]
  refine ⟨fun h1 => ?_, fun h1 => bS_eq ?_⟩
  · have ha : k < l.length := by omega
    have hlk : (l.take k).length ≤ M63 := by unfold M63; simp; omega
    simp only [drop_things ha, hdD_cons, List.tail_cons, isI_iV, asI_iV, wrap_id (n := (k : Int) + 1) (by omega) (by omega)]
    refine ⟨by omega, by omega, by simp, trivial, trivial, trivial, by omega, by omega, by omega, _, c_ContainsThing (p := fun u => !apart u l[k]) hlk (fun u hu => c_fn (hok u (List.mem_of_mem_take hu)) (hok _ (List.getElem_mem ha))),
      fun h2 => bS_eq ?_, fun h2 => ⟨⟨trivial, trivial, trivial⟩, l.length - (k + 1), by omega, k + 1, by omega, by omega, rfl, fun i hi j hj hik => ?_⟩⟩
    · obtain ⟨u, hu, h3⟩ := List.any_eq_true.1 h2
      obtain ⟨j, hj, rfl⟩ := List.mem_iff_getElem.1 hu
      simp only [List.length_take] at hj
      symm
      refine allB_false ha (j := j) (by omega) ?_
      rw [apart_symm]
      simpa using h3
    · by_cases e : i = k
      · subst e
        have := List.any_eq_false.1 h2 l[j] (List.mem_iff_getElem.2 ⟨j, by simp; omega, by simp⟩)
        rw [apart_symm]
        simpa using this
      · exact ht i hi j hj (by omega)
  · symm
    exact allB_iff.2 fun i hi j hj => ht i hi j hj (by omega)
theorem c_spec {l : List Thing} (hl : l.length ≤ 1048576) (hok : ∀ t ∈ l, t.ok) : CallD Try.prog F_spec_AllApart [rTh l] fun r _ => r = bS (allB l) := by
  refine k_spec_AllApart ?_
  unfold vc_spec_AllApart
  simp only [nI, n_things]
  refine ⟨fun i m => ∃ k : Nat, i = k ∧ k ≤ l.length ∧ m = l.length - k ∧ ∀ i (hi : i < l.length) j (hj : j < i), i < k → apart l[i] (l[j]'(by omega)) = true, ⟨l.length, 0, rfl, Nat.zero_le _, rfl, fun i hi j hj h => by omega⟩, ?_⟩
  rintro i m ⟨k, rfl, hk, rfl, ht⟩
  simp only [Int.toNat_natCast, decide_eq_true_eq, decide_eq_false_iff_not]
  refine ⟨fun h1 => ?_, fun h1 => bS_eq ?_⟩
  · have ha : k < l.length := by omega
    refine ⟨fun i m => ∃ n : Nat, i = n ∧ n ≤ k ∧ m = k - n ∧ ∀ j (hj : j < k), j < n → apart l[k] (l[j]'(by omega)) = true, ⟨k, 0, rfl, Nat.zero_le _, rfl, fun j hj h => by omega⟩, ?_⟩
    rintro i m ⟨n, rfl, hn, rfl, hs⟩
    simp only [Int.toNat_natCast]
    refine ⟨fun h2 => ?_, fun h2 => ⟨trivial, l.length - (k + 1), by omega, k + 1, by rw [wrap_id] <;> omega, by omega, rfl, fun i hi j hj hik => ?_⟩⟩
    · have hb : n < l.length := by omega
      simp only [drop_things ha, drop_things hb, hdD_cons, List.tail_cons, isI_iV, asI_iV, wrap_id (n := (n : Int) + 1) (by omega) (by omega)]
      refine ⟨by omega, by omega, by simp, trivial, trivial, trivial, by omega, by omega, by simp, trivial, trivial, trivial, _, c_apartS (hok _ (List.getElem_mem ha)) (hok _ (List.getElem_mem hb)),
        fun h3 => ⟨⟨trivial, trivial⟩, k - (n + 1), by omega, n + 1, by omega, by omega, rfl, fun j hj hjn => ?_⟩, fun h3 => bS_eq ?_⟩
      · by_cases e : j = n
        · subst e; exact h3
        · exact hs j hj (by omega)
      · exact (allB_false ha (j := n) (by omega) h3).symm
    · by_cases e : i = k
      · subst e; exact hs j hj (by omega)
      · exact ht i hi j hj (by omega)
  · symm
    exact allB_iff.2 fun i hi j hj => ht i hi j hj (by omega)
theorem c_law {l : List Thing} (hl : l.length ≤ M63) (hok : ∀ t ∈ l, t.ok) : CallD Try.prog F_laws_FnExactAllApart [rTh l] fun r _ => r = bS true := by
  refine k_laws_FnExactAllApart ?_
  unfold vc_laws_FnExactAllApart
  refine ⟨_, c_szThingS hl (by omega) (by omega), fun g => rfl, fun g => ?_⟩
  have hs : l.length ≤ 1048576 := by
    simp only [decide_eq_false_iff_not] at g
    split at g <;> omega
  have hM : l.length ≤ M63 := hl
  refine ⟨_, c_toThingS hs, _, c_spec hs hok, fun g1 => ⟨_, c_toThingS hs, _, c_impl hs hok, fun g2 => ⟨fun g3 => absurd g3 (by simp), fun _ => ⟨_, c_toThingS hs, _, c_eqThingS hM, fun _ => rfl, fun g => absurd g (by simp)⟩⟩, fun g2 => ?_⟩,
    fun g1 => ⟨_, c_toThingS hs, _, c_impl hs hok, fun g2 => ?_, fun g2 => ⟨fun g3 => absurd g3 (by simp), fun _ => ⟨_, c_toThingS hs, _, c_eqThingS hM, fun _ => rfl, fun g => absurd g (by simp)⟩⟩⟩⟩
  · rw [g1] at g2; cases g2
  · rw [g1] at g2; cases g2

theorem lifted (os : Os) (started : os.Started) (H : Type) (enc : TypeId × Value → H) :
    ReturnsInHanded {} Try.checked os F_laws_FnExactAllApart .any (Rows.fnExactAllApartSpec.pre6 enc Try.prog Try.f6 Rows.fnExactAllApartRow.domain false) (Rows.fnExactAllApartSpec.post enc Try.prog Try.f6 false true false false) := by
  refine returnsInHanded_of_change (C := Try.checked) own started (by kernel_rfl) Try.func6
    (ChangeSpec.witness6 (enc := enc) (C := Try.checked) false ⟨#[], #[.slice none 0 0], []⟩ 8 (by kernel_rfl) (by kernel_rfl) (by kernel_rfl) (by kernel_rfl)) ?_
  intro W base args ds gs before hval0 hW hcnd _
  refine law_row (bs := [false]) (bt := 4) laidOut shOk rfl (by kernel_rfl) (by kernel_rfl) (by kernel_rfl) (fun ds h => ?_) (by kernel_rfl) (by kernel_rfl) ?_ hW hval0
  · match ds, h with
    | [_], _ => rfl
  · have e : Try.f6.params.toList = [41] := by kernel_rfl
    rw [e]
    intro ds1 es1 he1 w1
    have e41 : sh 41 = some [.sl [.int .i64, .int .i64, .int .i64]] := by kernel_rfl
    cases e41.symm.trans he1
    obtain ⟨d, r, rfl, h1, h2⟩ := cons_inv w1
    cases nil_inv h2
    obtain ⟨l, rfl, hl, hok⟩ := things_inv h1
    exact c_law hl hok
end AllApart
theorem fnExactAllApart_holds : Rows.FnExactAllApartSaid :=
  OpenClaim.holds_of_wide F_laws_FnExactAllApart Try.f6 rfl rfl rfl rfl rfl rfl rfl ⟨rfl, rfl, rfl, rfl, rfl⟩ rfl rfl rfl rfl rfl (by kernel_rfl) Try.func6 (by kernel_rfl)
    (of_decide_eq_true (by kernel_rfl)) (by unfold Func.isWrapper; first | (rw [if_pos (by decide +kernel)]; kernel_rfl) | (rw [if_neg (by decide +kernel)]; exact ⟨rfl, rfl⟩))
    (fun os started H enc _ => AllApart.lifted os started H enc)
#print axioms fnExactAllApart_holds
end Go.Proofs.Ytbmflnlppnkbaaa
