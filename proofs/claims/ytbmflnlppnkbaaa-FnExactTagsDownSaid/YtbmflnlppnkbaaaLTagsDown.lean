/- The program's TagsDown returns what the reference's TagsDown returns, and new lists: the law FnExactTagsDown says true of every list. No conditions. -/
import Derived.Test.YtbmflnlppnkbaaaVC
import Derived.Test.YtbmflnlppnkbaaaHA
import Derived.Test.YtbmflnlppnkbaaaRows
import Derived.Test.YtbmflnlppnkbaaaChecked
import Derived.ProofKit
namespace Go.Proofs.Ytbmflnlppnkbaaa
open Go Go.Proofs.Ytbmflnlppnkbaaa.DL
open Go.ChangeShapes Go.WideShapes Go.ChangeAt Go.RowKit
set_option maxRecDepth 100000

namespace TagsDown
theorem c_clone {l : List Int} (hl : l.length ≤ 1048576) : CallD Try.prog F_slices_Clone_int [rI l] fun r _ => r = oI l := by
  refine k_slices_Clone_int ?_
  unfold vc_slices_Clone_int
  simp only [n_one, List.length_nil, List.nil_append, ints_length]
  refine ⟨fun h => ?_, AllVal_ints l, by omega, by omega, trivial⟩
  show oneC (.own (.sl 1 [])) = oneC (.own (.sl 1 (ints l)))
  rw [h]
theorem c_reverse {l : List Int} (hl : l.length ≤ 1048576) : CallD Try.prog F_slices_Reverse_int [oI l] fun r bs => r = .tup [] ∧ bs.getD 0 .dead = oI l.reverse := by
  refine k_slices_Reverse_int ?_
  unfold vc_slices_Reverse_int
  simp only [nI, n_ints, es_sl]
  refine ⟨fun es n n1 m => ∃ (k : Nat) (s : List Int), n = k ∧ n1 = (l.length : Int) - 1 - k ∧ 2 * k ≤ l.length + 1 ∧ m = l.length + 1 - k ∧ es = ints s ∧ s.length = l.length ∧
    ∀ i (hi : i < s.length) (hi' : i < l.length), s[i] = if i < k ∨ l.length - k ≤ i then l[l.length - 1 - i] else l[i], ⟨_, 0, l, rfl, by rw [wrap_id] <;> omega, by omega, rfl, rfl, rfl, fun i hi hi' => ?_⟩, ?_⟩
  · rw [if_neg (by omega)]
  rintro es n n1 m ⟨k, s, rfl, rfl, hk, rfl, rfl, hs, ht⟩
  simp only [Int.toNat_natCast, Nat.mul_one, n_ints, decide_eq_true_eq, decide_eq_false_iff_not]
  refine ⟨fun h1 => ?_, fun h1 => ⟨trivial, ?_⟩⟩
  · have ha : k < s.length := by omega
    have hb : l.length - 1 - k < s.length := by omega
    have e1 : ((l.length : Int) - 1 - k).toNat = l.length - 1 - k := by omega
    have p1 : ∀ j, j < s.length → DV.isI .i64 ((DV.sl 1 (ints s)).getP [j]) = True := fun j hj => by
      have : (DV.sl 1 (ints s)).getP [j] = (ints s).getD j dfl := rfl
      rw [this, getD_ints hj, isI_iV]
    have p2 : ∀ j, j < s.length → placeOk (oneC (CV.own (DV.sl 1 (ints s)))) [j] := fun j hj => by
      show j < (ints s).length ∧ True
      exact ⟨by rw [ints_length]; exact hj, trivial⟩
    rw [e1]
    simp only [getD_ints ha, getD_ints hb, asI_iV, set_ints, n_ints, List.length_set, ints_length]
    refine ⟨by omega, by omega, p2 _ hb, by rw [p1 _ hb]; trivial, by omega, by omega, p2 _ ha, by rw [p1 _ ha]; trivial, by omega, by omega, trivial, by omega, by omega, by omega, trivial, by omega, trivial, l.length + 1 - (k + 1), by omega, k + 1, _, by rw [wrap_id] <;> omega,
      by rw [wrap_id] <;> omega, by omega, rfl, rfl, by simp [hs], fun i hi hi' => ?_⟩
    simp only [List.length_set] at hi
    have g1 := ht k ha (by omega)
    have g2 := ht (l.length - 1 - k) hb (by omega)
    rw [if_neg (by omega)] at g1 g2
    simp only [getD_eq ha, getD_eq hb, g1, g2, List.getElem_set]
    by_cases c1 : l.length - 1 - k = i
    · rw [if_pos c1, if_pos (by omega)]
      congr 1; omega
    · rw [if_neg c1]
      by_cases c2 : k = i
      · subst c2
        rw [if_pos rfl, if_pos (by omega)]
      · rw [if_neg c2, ht i hi hi']
        by_cases c3 : i < k ∨ l.length - k ≤ i
        · rw [if_pos c3, if_pos (by omega)]
        · rw [if_neg c3, if_neg (by omega)]
  · show oI s = oI l.reverse
    refine oI_eq (List.ext_getElem (by simp [hs]) fun i h2 h3 => ?_)
    have hi' : i < l.length := by omega
    rw [ht i h2 hi', List.getElem_reverse]
    split
    · rfl
    · congr 1; omega
theorem c_impl {l : List Int} (hl : l.length ≤ 1048576) : CallD Try.prog F_impl_TagsDown [rI l] fun r _ => r = oI l.reverse := by
  refine k_impl_TagsDown ?_
  unfold vc_impl_TagsDown
  exact ⟨_, c_clone hl, trivial, rfl, _, rfl, c_reverse hl, rfl⟩
theorem c_spec {l : List Int} (hl : l.length ≤ 1048576) : CallD Try.prog F_spec_TagsDown [rI l] fun r _ => r = oI l.reverse := by
  refine k_spec_TagsDown ?_
  unfold vc_spec_TagsDown
  simp only [nI, n_one, ints_length, List.length_singleton]
  refine ⟨fun es n m => ∃ k : Nat, n = (k : Int) - 1 ∧ k ≤ l.length ∧ m = k ∧ es = ints (l.drop k).reverse, ⟨_, l.length, by rw [wrap_id] <;> omega, Nat.le_refl _, rfl, by simp [ints]⟩, ?_⟩
  rintro es n m ⟨k, rfl, hk, hm, rfl⟩
  simp only [decide_eq_true_eq, decide_eq_false_iff_not, Nat.mul_one]
  refine ⟨fun h1 => ?_, fun h1 => ?_⟩
  · have ha : k - 1 < l.length := by omega
    have e1 : ((k : Int) - 1).toNat = k - 1 := by omega
    rw [e1]
    simp only [hd_ints ha, getD_eq ha, isI_iV, asI_iV, ints_snoc, ints_length]
    refine ⟨by omega, by omega, by simp [ints]; omega, trivial, by simp; omega, by simp; omega, trivial, k - 1, by omega, k - 1, by rw [wrap_id] <;> omega, by omega, rfl, ?_⟩
    congr 1
    have e2 : l.drop (k - 1) = l[k - 1] :: l.drop k := by
      rw [List.drop_eq_getElem_cons ha]
      congr 2; omega
    rw [e2, List.reverse_cons]
  · have : k = 0 := by omega
    subst this
    simp
def marks (b : Int) (k : Nat) : List Int := (List.range k).map fun i : Nat => b + (i : Int)
theorem marks_length (b : Int) (k : Nat) : (marks b k).length = k := by simp [marks]
theorem marks_step {b : Int} {l : List Int} {k : Nat} (h : k < l.length) : (marks b k ++ l.drop k).set k (b + k) = marks b (k + 1) ++ l.drop (k + 1) := by
  have e : l.drop k = l[k] :: l.drop (k + 1) := List.drop_eq_getElem_cons h
  rw [List.set_append_right _ _ (by rw [marks_length]; omega), marks_length, Nat.sub_self, e, List.set_cons_zero]
  simp [marks, List.range_succ]
theorem c_mark {l : List Int} (hl : l.length ≤ 1048576) : CallD Try.prog F_laws_markIntS [oI l, iS 1] fun r bs => r = iS (1 + l.length) ∧ bs.getD 0 .dead = oI (marks 1 l.length) := by
  refine k_laws_markIntS ?_
  unfold vc_laws_markIntS
  simp only [nI, es_sl]
  refine ⟨fun es n n1 m => ∃ k : Nat, n1 = k ∧ k ≤ l.length ∧ m = l.length - k ∧ n = 1 + (k : Int) ∧ es = ints (marks 1 k ++ l.drop k), ⟨_, 0, rfl, Nat.zero_le _, rfl, rfl, by simp [marks]⟩, ?_⟩
  rintro es n n1 m ⟨k, rfl, hk, rfl, rfl, rfl⟩
  have e0 : (marks 1 k ++ l.drop k).length = l.length := by simp [marks_length]; omega
  simp only [n_ints, ints_length, e0, Int.toNat_natCast, Nat.mul_one, decide_eq_true_eq, decide_eq_false_iff_not]
  refine ⟨fun h1 => ?_, fun h1 => ?_⟩
  · have ha : k < l.length := by omega
    refine ⟨by omega, by omega, trivial, by omega, trivial, l.length - (k + 1), by omega, k + 1, by rw [wrap_id] <;> omega, by omega, rfl, by rw [wrap_id] <;> omega, ?_⟩
    rw [set_ints, marks_step ha]
  · have : k = l.length := by omega
    subst this
    simp
theorem c_held {b : Nat} (hb : b ≤ 1048576) : CallD Try.prog F_laws_heldIntS [rI (marks 1 b), iS 1] fun r _ => r = iS (1 + b) := by
  refine k_laws_heldIntS ?_
  unfold vc_laws_heldIntS
  simp only [nI, n_ints, marks_length]
  refine ⟨fun n n1 m => ∃ k : Nat, n1 = k ∧ k ≤ b ∧ m = b - k ∧ n = 1 + (k : Int), ⟨_, 0, rfl, Nat.zero_le _, rfl, rfl⟩, ?_⟩
  rintro n n1 m ⟨k, rfl, hk, rfl, rfl⟩
  simp only [Int.toNat_natCast, Nat.mul_one, decide_eq_true_eq (p := (k : Int) < b), decide_eq_false_iff_not (p := (k : Int) < b)]
  refine ⟨fun h1 => ?_, fun h1 => iS_eq ?_⟩
  · have ha : k < (marks 1 b).length := by rw [marks_length]; omega
    have e : (marks 1 b)[k] = 1 + (k : Int) := by simp [marks]
    simp only [hd_ints ha, getD_eq ha, isI_iV, asI_iV, e]
    refine ⟨by omega, by omega, by simp [ints, marks]; omega, trivial, fun g => absurd g (by simp), fun _ => ⟨trivial, b - (k + 1), by omega, k + 1, by rw [wrap_id] <;> omega, by omega, rfl, by rw [wrap_id] <;> omega⟩⟩
  · omega
theorem c_law {l : List Int} (hl : l.length ≤ M63) : CallD Try.prog F_laws_FnExactTagsDown [rI l] fun r _ => r = bS true := by
  refine k_laws_FnExactTagsDown ?_
  unfold vc_laws_FnExactTagsDown
  simp only [nI, n_ints]
  refine ⟨fun _ => trivial, fun g => ?_⟩
  have hs : l.length ≤ 1048576 := by simp only [decide_eq_false_iff_not] at g; omega
  have hr : l.reverse.length ≤ 1048576 := by simpa using hs
  have hM : l.reverse.length ≤ M63 := by unfold M63; omega
  have hT := c_toIntS (l := l) (by omega)
  have hI := c_impl hs
  have hE := c_eqIntS (a := l.reverse) (b := l.reverse) hM
  have hh := c_held (b := l.reverse.length) hr
  refine ⟨_, hT, _, c_spec hs, _, hT, _, hI, _, hE, fun _ => ⟨_, hT, _, c_eqIntS hl, fun _ => ⟨trivial, trivial, _, _, rfl, c_mark hs, fun g => ?_, fun _ => ⟨_, hE, fun _ => ⟨trivial, trivial, _, _, rfl, c_mark hr, _, hh, fun g => ?_,
    fun _ => ⟨fun g => absurd g (by simp), fun _ => ⟨_, hT, _, hI, _, hE, fun _ => ⟨_, hh, fun g => ?_, fun _ => ⟨fun g => absurd g (by simp), fun _ => trivial⟩⟩, fun g => absurd g (by simp)⟩⟩⟩, fun g => absurd g (by simp)⟩⟩, fun g => absurd g (by simp)⟩, fun g => absurd g (by simp)⟩
  all_goals simp only [decide_eq_true_eq] at g; omega

theorem lifted (os : Os) (started : os.Started) (H : Type) (enc : TypeId × Value → H) :
    ReturnsInHanded {} Try.checked os F_laws_FnExactTagsDown .any (Rows.fnExactTagsDownSpec.pre6 enc Try.prog Try.f4 Rows.fnExactTagsDownRow.domain false) (Rows.fnExactTagsDownSpec.post enc Try.prog Try.f4 false true false false) := by
  refine returnsInHanded_of_change (C := Try.checked) own started (by kernel_rfl) Try.func4
    (ChangeSpec.witness6 (enc := enc) (C := Try.checked) false ⟨#[], #[.slice none 0 0], []⟩ 8 (by kernel_rfl) (by kernel_rfl) (by kernel_rfl) (by kernel_rfl)) ?_
  intro W base args ds gs before hval0 hW hcnd _
  refine law_row (bs := [false]) (bt := 4) laidOut shOk rfl (by kernel_rfl) (by kernel_rfl) (by kernel_rfl) (fun ds h => ?_) (by kernel_rfl) (by kernel_rfl) ?_ hW hval0
  · match ds, h with
    | [_], _ => rfl
  · have e : Try.f4.params.toList = [28] := by kernel_rfl
    rw [e]
    intro ds1 es1 he1 w1
    have e28 : sh 28 = some [.sl [.int .i64]] := by kernel_rfl
    cases e28.symm.trans he1
    obtain ⟨d, r, rfl, h1, h2⟩ := cons_inv w1
    cases nil_inv h2
    obtain ⟨l, rfl, hl, hok⟩ := ints_inv h1
    exact c_law hl
end TagsDown
theorem fnExactTagsDown_holds : Rows.FnExactTagsDownSaid :=
  OpenClaim.holds_of_wide F_laws_FnExactTagsDown Try.f4 rfl rfl rfl rfl rfl rfl rfl ⟨rfl, rfl, rfl, rfl, rfl⟩ rfl rfl rfl rfl rfl (by kernel_rfl) Try.func4 (by kernel_rfl)
    (of_decide_eq_true (by kernel_rfl)) (by unfold Func.isWrapper; first | (rw [if_pos (by decide +kernel)]; kernel_rfl) | (rw [if_neg (by decide +kernel)]; exact ⟨rfl, rfl⟩))
    (fun os started H enc _ => TagsDown.lifted os started H enc)
#print axioms fnExactTagsDown_holds
end Go.Proofs.Ytbmflnlppnkbaaa
