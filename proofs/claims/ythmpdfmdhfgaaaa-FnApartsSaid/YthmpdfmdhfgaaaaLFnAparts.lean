/- Two things share no byte, or one: this way, and the other: the law FnAparts says true of all bytes. No conditions. -/
import Derived.Test.YthmpdfmdhfgaaaaHSc
import Derived.Test.YthmpdfmdhfgaaaaHDh
import Derived.Test.YthmpdfmdhfgaaaaVN3
import Derived.Test.YthmpdfmdhfgaaaaRows
import Derived.Test.YthmpdfmdhfgaaaaChecked
import Derived.ProofKit
namespace Go.Proofs.Ythmpdfmdhfgaaaa
open Go Go.Proofs.Ythmpdfmdhfgaaaa.DL
open Go.ChangeShapes Go.WideShapes Go.ChangeAt Go.RowKit
set_option maxRecDepth 100000

namespace FnAparts
def hit (a b : Thing) (k : Nat) : Bool := (List.range k).any fun j : Nat => decide (b.pos ≤ a.pos + (j : Int)) && decide (a.pos + (j : Int) < b.pos + b.len)
theorem hit_succ (a b : Thing) (k : Nat) : hit a b (k + 1) = (hit a b k || (decide (b.pos ≤ a.pos + (k : Int)) && decide (a.pos + (k : Int) < b.pos + b.len))) := by simp [hit, List.range_succ]
theorem hit_apart {a b : Thing} (ha : 0 ≤ a.len) (hb : 0 ≤ b.len) : apart a b = !hit a b a.len.toNat := by
  rw [Bool.eq_iff_iff]
  simp only [apart, Bool.or_eq_true, decide_eq_true_eq, Bool.not_eq_true', hit, List.any_eq_false, List.mem_range, Bool.and_eq_true]
  constructor
  · intro h j hj ⟨h1, h2⟩
    rcases h with (h | h) | h
    · omega
    · omega
    · split at h <;> simp only [decide_eq_true_eq] at h <;> omega
  · intro h
    by_cases c1 : a.len < 1
    · exact .inl (.inl c1)
    by_cases c2 : b.len < 1
    · exact .inl (.inr c2)
    right
    split
    · rename_i h1
      simp only [decide_eq_true_eq]
      by_cases c3 : a.len ≤ b.pos - a.pos
      · exact c3
      · exact absurd ⟨by omega, by omega⟩ (h (b.pos - a.pos).toNat (by omega))
    · rename_i h1
      simp only [decide_eq_true_eq]
      by_cases c3 : b.len ≤ a.pos - b.pos
      · exact c3
      · exact absurd ⟨by omega, by omega⟩ (h 0 (by omega))
theorem c_law {v : Value} {a : List Int} (ha : a.length ≤ M63) : CallD Try.prog F_laws_FnAparts [codeS v a] fun r _ => r = bS true := by
  refine k_laws_FnAparts ?_
  unfold vc_laws_FnAparts
  refine ⟨_, c_big, condB_i (fun _ => rfl) fun _ => ?_⟩
  obtain ⟨p, q, ⟨hp1, hp2, hq1, hq2, hp, hq⟩, c1⟩ := c_DrawApart (v := v) ha
  obtain ⟨l, ⟨hl, hlo⟩, c2⟩ := c_DrawAllApart (v := v) ha
  obtain ⟨c, n, ⟨hc, hn⟩, c3⟩ := c_DrawInChunks (v := v) ha
  have hns : n.sz ≤ 1048576 := by have := hn.sz; omega
  have hl' : l.length ≤ 1048576 := by omega
  have d1 := c_apart hp hq
  have d2 := c_apartS hp hq
  have d3 := AllApart.c_impl hl' hlo
  have d4 := AllApart.c_spec hl' hlo
  have d5 := c_InChunks c hn.ok hns
  have d6 := c_InChunksS c hn.ok hns
  have d7 := c_apart hq hp
  rw [apart_symm q p] at d7
  have hap := hit_apart hp2.1 hq2.1
  have w1 : IntKind.i64.wrap (p.pos + p.len) = p.pos + p.len := wrap_id (by omega) (by omega)
  have w2 : IntKind.i64.wrap (q.pos + q.len) = q.pos + q.len := wrap_id (by omega) (by omega)
  refine ⟨_, _, _, _, _, _, c1, _, c2, _, _, _, _, _, _, _, _, _, _, _, _, _, _, _, _, _, _, _, c3, _, d1, _, d2, condB_f (by simp) ⟨_, d3, _, d4, condB_f (by simp) ⟨_, d5, _, d6, condB_f (by simp) ?_⟩⟩⟩
  have fin : ∀ (k : Nat) (b : Bool), ¬ p.pos + (k : Int) < p.pos + p.len → (k : Int) ≤ p.len → b = hit p q k → decide (apart p q = !b) = true := fun k b h1 h2 h3 => by
    have : k = p.len.toNat := by omega
    rw [h3, this, hap]; simp
  refine ⟨fun b i m => ∃ k : Nat, i = p.pos + (k : Int) ∧ (k : Int) ≤ p.len ∧ m = p.len.toNat - k ∧ b = hit p q k, ⟨p.len.toNat, 0, by omega, by omega, rfl, rfl⟩, ?_, ?_⟩
  · rintro i m ⟨k, rfl, hk, rfl, hb⟩
    rw [w1]
    refine condB_i (fun h1 => ?_) fun h1 => ?_
    · have h1 := of_decide_eq_true h1
      exact ⟨⟨rfl, rfl⟩, p.len.toNat - (k + 1), by omega, k + 1, by rw [wrap_id (by omega) (by omega)]; omega, by omega, rfl, by rw [hit_succ, ← hb]; rfl⟩
    · have h1 := of_decide_eq_false h1
      exact ⟨_, d1, _, d7, condB_t (by simp) ⟨_, d1, bS_eq (fin k true h1 hk hb)⟩⟩
  · rintro i m ⟨k, rfl, hk, rfl, hb⟩
    rw [w1, w2]
    refine condB_i (fun h1 => ?_) fun h1 => ?_
    · have h1 := of_decide_eq_true h1
      refine condB_i (fun h2 => ?_) fun h2 => ?_
      · exact ⟨⟨rfl, rfl⟩, p.len.toNat - (k + 1), by omega, k + 1, by rw [wrap_id (by omega) (by omega)]; omega, by omega, rfl, by rw [hit_succ, ← hb, h2]; simp⟩
      · exact ⟨⟨rfl, rfl⟩, p.len.toNat - (k + 1), by omega, k + 1, by rw [wrap_id (by omega) (by omega)]; omega, by omega, rfl, by rw [hit_succ, ← hb, h2]; simp⟩
    · have h1 := of_decide_eq_false h1
      exact ⟨_, d1, _, d7, condB_t (by simp) ⟨_, d1, bS_eq (fin k false h1 hk hb)⟩⟩

theorem lifted (os : Os) (started : os.Started) (H : Type) (enc : TypeId × Value → H) :
    ReturnsInHanded {} Try.checked os F_laws_FnAparts .any (Rows.fnApartsSpec.pre6 enc Try.prog Try.f7 Rows.fnApartsRow.domain false) (Rows.fnApartsSpec.post enc Try.prog Try.f7 false true false false) := by
  refine returnsInHanded_of_change (C := Try.checked) own started (by kernel_rfl) Try.func7
    (ChangeSpec.witness6 (enc := enc) (C := Try.checked) false ⟨#[], #[.slice none 0 0], []⟩ 8 (by kernel_rfl) (by kernel_rfl) (by kernel_rfl) (by kernel_rfl)) ?_
  intro W base args ds gs before hval0 hW hcnd _
  refine law_row (bs := [false]) (bt := 4) laidOut shOk rfl (by kernel_rfl) (by kernel_rfl) (by kernel_rfl) (fun ds h => ?_) (by kernel_rfl) (by kernel_rfl) ?_ hW hval0
  · match ds, h with
    | [_], _ => rfl
  · have e : Try.f7.params.toList = [22] := by kernel_rfl
    rw [e]
    intro ds1 es1 he1 w1
    have e22 : sh 22 = some [.sl [.int .u8]] := by kernel_rfl
    cases e22.symm.trans he1
    obtain ⟨d1, r1, rfl, k1, j1⟩ := cons_inv w1
    cases nil_inv j1
    obtain ⟨code, rfl, hcode, hcode'⟩ := byts_inv k1
    exact callD_of_vl fun v => c_law hcode
end FnAparts
theorem fnAparts_holds : Rows.FnApartsSaid :=
  OpenClaim.holds_of_wide F_laws_FnAparts Try.f7 rfl rfl rfl rfl rfl rfl rfl ⟨rfl, rfl, rfl, rfl, rfl⟩ rfl rfl rfl rfl rfl (by kernel_rfl) Try.func7 (by kernel_rfl)
    (of_decide_eq_true (by kernel_rfl)) (by unfold Func.isWrapper; first | (rw [if_pos (by decide +kernel)]; kernel_rfl) | (rw [if_neg (by decide +kernel)]; exact ⟨rfl, rfl⟩))
    (fun os started H enc _ => FnAparts.lifted os started H enc)
#print axioms fnAparts_holds
end Go.Proofs.Ythmpdfmdhfgaaaa
