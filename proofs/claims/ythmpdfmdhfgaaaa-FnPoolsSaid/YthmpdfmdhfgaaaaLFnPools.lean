/- A new pool is one in which all chunks are free, and a valid one has every chunk in one of three states: the law FnPools says true of all bytes. No conditions. -/
import Derived.Test.YthmpdfmdhfgaaaaHPr
import Derived.Test.YthmpdfmdhfgaaaaVN8
import Derived.Test.YthmpdfmdhfgaaaaRows
import Derived.Test.YthmpdfmdhfgaaaaChecked
import Derived.ProofKit
namespace Go.Proofs.Ythmpdfmdhfgaaaa
open Go Go.Proofs.Ythmpdfmdhfgaaaa.DL
open Go.ChangeShapes Go.WideShapes Go.ChangeAt Go.RowKit
set_option maxRecDepth 100000

namespace FnPools
theorem zeroB_rep (n : Nat) : zeroB (List.replicate n 0) = true := by
  unfold zeroB
  rw [List.any_eq_false.2 fun x hx => ?_]
  · rfl
  · rw [List.eq_of_mem_replicate hx]; simp
theorem getD_rep {n k : Nat} {x d : Int} (h : k < n) : (List.replicate n x).getD k d = x := by
  rw [List.getD_eq_getElem?_getD, List.getElem?_replicate, if_pos h]; rfl
theorem newP_ok (c : Conf) : poolOkB c (newP c) = c.good := by
  cases hg : c.good
  · unfold poolOkB; rw [hg]; rfl
  · obtain ⟨hb, hb1, hb2⟩ := bytesOf_good hg
    obtain ⟨⟨h1, h2⟩, -⟩ := Conf.good_iff.1 hg
    have e : newP c = ⟨List.replicate (bytesOf c).toNat 0, List.replicate c.chunks.toNat 0, List.replicate c.chunks.toNat (-1)⟩ := by unfold newP; rw [hg]; rfl
    unfold poolOkB
    rw [e, hg]
    simp only [List.length_replicate, Bool.true_and, Bool.and_eq_true, decide_eq_true_eq, List.all_eq_true, List.mem_range]
    refine ⟨by omega, by omega, by omega, fun k hk => ?_⟩
    unfold okAt chunkL
    simp only [getD_rep hk, List.take_replicate, List.drop_replicate, zeroB_rep, if_true, show ¬ (0 : Int) = 1 by omega, if_false]
    decide
theorem newP_free (c : Conf) : ((newP c).st.count 0 : Nat) = ((newP c).st.length : Nat) := by
  unfold newP
  split <;> simp
theorem newP_len (c : Conf) : (newP c).mem.length ≤ 192 ∧ (newP c).st.length ≤ 12 ∧ (newP c).own.length ≤ 12 := by
  unfold newP
  split
  · rename_i hg
    obtain ⟨hb, hb1, hb2⟩ := bytesOf_good hg
    obtain ⟨⟨h1, h2⟩, -⟩ := Conf.good_iff.1 hg
    simp only [List.length_replicate]
    omega
  · simp
theorem count3 : ∀ l : List Int, (∀ x ∈ l, 0 ≤ x ∧ x ≤ 2) → l.count 0 + l.count 1 + l.count 2 = l.length
  | [], _ => rfl
  | x :: l, h => by
    have ih := count3 l fun y hy => h y (List.mem_cons_of_mem _ hy)
    have hx := h x (List.mem_cons_self ..)
    have : x = 0 ∨ x = 1 ∨ x = 2 := by omega
    rcases this with rfl | rfl | rfl <;> simp <;> omega
theorem pool3 {c : Conf} {p : Pool} (h : poolOkB c p = true) : IntKind.i64.wrap (IntKind.i64.wrap (((p.st.count 0 : Nat) : Int) + ((p.st.count 1 : Nat) : Int)) + ((p.st.count 2 : Nat) : Int)) = c.chunks := by
  obtain ⟨hg, hS, hok⟩ := poolOk_S h
  have h3 := count3 p.st fun x hx => by
    obtain ⟨j, hj, rfl⟩ := List.mem_iff_getElem.1 hx
    have := hok j hj
    unfold okAt at this
    rw [Bool.and_eq_true, getD_eq hj] at this
    exact within_iff.1 this.1
  have := hS.st
  have := hS.n
  rw [wrap_id (n := ((p.st.count 0 : Nat) : Int) + ((p.st.count 1 : Nat) : Int)) (by omega) (by omega), wrap_id (by omega) (by omega)]
  omega
theorem free_zero {c : Conf} {p : Pool} (h : poolOkB c p = true) (hf : ¬ freeN p < 0) : zeroB (chunkR c p (freeN p)) = true := by
  obtain ⟨hg, hS, hok⟩ := poolOk_S h
  have ha : p.st.any (fun y => decide (0 = y)) = true := by
    rw [← idx_any]
    exact decide_eq_true (by unfold freeN at hf; omega)
  have e : freeN p = (p.st.findIdx (fun y => decide (0 = y)) : Nat) := by unfold freeN idx; rw [if_pos ha]
  have hlt : p.st.findIdx (fun y => decide (0 = y)) < p.st.length := by
    obtain ⟨x, hx, hx'⟩ := List.any_eq_true.1 ha
    exact List.findIdx_lt_length_of_exists ⟨x, hx, hx'⟩
  have h0 := List.findIdx_getElem (w := hlt)
  rw [e]
  generalize p.st.findIdx (fun y => decide (0 = y)) = k at hlt h0
  have hk := hok k hlt
  unfold okAt at hk
  simp only [Bool.and_eq_true, getD_eq hlt, ← of_decide_eq_true h0, if_true] at hk
  unfold chunkR
  rw [h, within_iff.2 ?_, Int.toNat_natCast]
  · exact hk.2.2
  · have := hS.st
    have := hS.n
    rw [wrap_id (by omega) (by omega)]; omega
theorem c_law {v : Value} {a : List Int} (ha : a.length ≤ M63) : CallD Try.prog F_laws_FnPools [codeS v a] fun r _ => r = bS true := by
  refine k_laws_FnPools ?_
  unfold vc_laws_FnPools
  refine ⟨_, c_big, condB_i (fun _ => rfl) fun _ => ?_⟩
  obtain ⟨c, p, hp, c1⟩ := c_DrawPoolOk (v := v) ha
  obtain ⟨q, st, hq, c2⟩ := c_DrawCountOf (v := v) ha
  obtain ⟨d, r, k, hr, c3⟩ := c_DrawChunkBytes (v := v) ha
  obtain ⟨s, slot, hs, c4⟩ := c_DrawOwnedBy (v := v) ha
  have l1 := hp.mem
  have l2 := hp.st
  have l3 := hq.st
  have l4 := hr.mem
  have l5 := hs.st
  have l6 := hs.own
  obtain ⟨n1, n2, n3⟩ := newP_len c
  have d1 := c_PoolNew c
  have d2 := c_PoolOk c p
  have d3 := c_PoolOkS c p
  have d4 := c_CountOf (p := q) (by omega) st
  have d5 := c_CountOfS (p := q) (by omega) st
  have d6 := c_ChunkBytes d (p := r) (by omega) k
  have d7 := c_ChunkBytesS d (p := r) (by omega) k
  have d8 := c_same (a := chunkR d r k) (b := chunkR d r k) (Nat.le_trans (chunkR_le ..) (by unfold M63; omega))
  have d9 := c_OwnedBy (p := s) (by omega) (by omega) slot
  have d10 := c_OwnedByS (p := s) (by omega) (by omega) slot
  have d11 := c_sameInts (a := ownedL s slot (poolN s)) (b := ownedL s slot (poolN s)) (Nat.le_trans (owned_le ..) (by unfold M63 poolN; omega))
  have d12 := c_PoolNewS c
  have d13 := c_samePool (p := newP c) (q := newP c) (by unfold M63; omega) (by unfold M63; omega) (by unfold M63; omega)
  rw [samePB_self] at d13
  have d14 := c_FirstFree (p := q) (by unfold M63; omega)
  have d15 := c_FirstFreeS (p := q) (by unfold M63; omega)
  have d16 := c_PoolOk c (newP c)
  rw [newP_ok] at d16
  have d17 := c_confOk c
  have d18 := c_CountOf (p := newP c) (by omega) 0
  rw [newP_free] at d18
  have d19 := c_FirstFree (p := p) (by unfold M63; omega)
  have d20 := c_CountOf (p := p) (by omega) 0
  have d21 := c_CountOf (p := p) (by omega) 1
  have d22 := c_CountOf (p := p) (by omega) 2
  have d23 := c_ChunkBytes c (p := p) (by omega) (freeN p)
  have d24 := c_IsZero (l := chunkR c p (freeN p)) (Nat.le_trans (chunkR_le ..) (by unfold M63; omega))
  have hn : ((newP c).st.length : Int) = nI (DV.sl 1 (ints (newP c).st)).n := by simp only [nI, n_ints]
  cases hb : poolOkB c p
  · rw [hb] at d2 d3
    repeat' (first
      | with_reducible apply Exists.intro
      | with_reducible apply And.intro
      | with_reducible refine condB_t rfl ?_
      | with_reducible refine condB_f rfl ?_
      | with_reducible exact c1
      | with_reducible exact c2
      | with_reducible exact c3
      | with_reducible exact c4
      | with_reducible exact d1
      | with_reducible exact d2
      | with_reducible exact d3
      | with_reducible exact d4
      | with_reducible exact d5
      | with_reducible exact d6
      | with_reducible exact d7
      | with_reducible exact d8
      | with_reducible exact d9
      | with_reducible exact d10
      | with_reducible exact d11
      | with_reducible exact d12
      | with_reducible exact d13
      | with_reducible exact d14
      | with_reducible exact d15
      | with_reducible exact d16
      | with_reducible exact d17
      | with_reducible exact d18
      | with_reducible exact d19
      | with_reducible exact d20
      | with_reducible exact d21
      | with_reducible exact d22
      | with_reducible exact d23
      | with_reducible exact d24
      | with_reducible exact rfl
      | refine condB_f (by rw [hn]; simp) ?_
      | (refine condB_f ?_ ?_; · (simp; done))
      | (refine condB_t ?_ ?_; · (simp; done))
      | (refine bS_eq ?_; simp; done)
      | fail)
  · rw [hb] at d2 d3
    have h3 := pool3 hb
    by_cases hf : freeN p < 0
    · repeat' (first
        | with_reducible apply Exists.intro
        | with_reducible apply And.intro
        | with_reducible refine condB_t rfl ?_
        | with_reducible refine condB_f rfl ?_
        | with_reducible exact c1
        | with_reducible exact c2
        | with_reducible exact c3
        | with_reducible exact c4
        | with_reducible exact d1
        | with_reducible exact d2
        | with_reducible exact d3
        | with_reducible exact d4
        | with_reducible exact d5
        | with_reducible exact d6
        | with_reducible exact d7
        | with_reducible exact d8
        | with_reducible exact d9
        | with_reducible exact d10
        | with_reducible exact d11
        | with_reducible exact d12
        | with_reducible exact d13
        | with_reducible exact d14
        | with_reducible exact d15
        | with_reducible exact d16
        | with_reducible exact d17
        | with_reducible exact d18
        | with_reducible exact d19
        | with_reducible exact d20
        | with_reducible exact d21
        | with_reducible exact d22
        | with_reducible exact d23
        | with_reducible exact d24
        | with_reducible exact rfl
        | refine condB_f (by rw [hn]; simp) ?_
        | refine condB_t (decide_eq_true h3) ?_
        | refine condB_t (decide_eq_true hf) ?_
        | (refine condB_f ?_ ?_; · (simp; done))
        | (refine condB_t ?_ ?_; · (simp; done))
        | (refine bS_eq ?_; simp; done)
        | fail)
    · rw [free_zero hb hf] at d24
      repeat' (first
        | with_reducible apply Exists.intro
        | with_reducible apply And.intro
        | with_reducible refine condB_t rfl ?_
        | with_reducible refine condB_f rfl ?_
        | with_reducible exact c1
        | with_reducible exact c2
        | with_reducible exact c3
        | with_reducible exact c4
        | with_reducible exact d1
        | with_reducible exact d2
        | with_reducible exact d3
        | with_reducible exact d4
        | with_reducible exact d5
        | with_reducible exact d6
        | with_reducible exact d7
        | with_reducible exact d8
        | with_reducible exact d9
        | with_reducible exact d10
        | with_reducible exact d11
        | with_reducible exact d12
        | with_reducible exact d13
        | with_reducible exact d14
        | with_reducible exact d15
        | with_reducible exact d16
        | with_reducible exact d17
        | with_reducible exact d18
        | with_reducible exact d19
        | with_reducible exact d20
        | with_reducible exact d21
        | with_reducible exact d22
        | with_reducible exact d23
        | with_reducible exact d24
        | with_reducible exact rfl
        | refine condB_f (by rw [hn]; simp) ?_
        | refine condB_t (decide_eq_true h3) ?_
        | refine condB_f (decide_eq_false hf) ?_
        | (refine condB_f ?_ ?_; · (simp; done))
        | (refine condB_t ?_ ?_; · (simp; done))
        | (refine bS_eq ?_; simp; done)
        | fail)

theorem lifted (os : Os) (started : os.Started) (H : Type) (enc : TypeId × Value → H) :
    ReturnsInHanded {} Try.checked os F_laws_FnPools .any (Rows.fnPoolsSpec.pre6 enc Try.prog Try.f5 Rows.fnPoolsRow.domain false) (Rows.fnPoolsSpec.post enc Try.prog Try.f5 false true false false) := by
  refine returnsInHanded_of_change (C := Try.checked) own started (by kernel_rfl) Try.func5
    (ChangeSpec.witness6 (enc := enc) (C := Try.checked) false ⟨#[], #[.slice none 0 0], []⟩ 8 (by kernel_rfl) (by kernel_rfl) (by kernel_rfl) (by kernel_rfl)) ?_
  intro W base args ds gs before hval0 hW hcnd _
  refine law_row (bs := [false]) (bt := 4) laidOut shOk rfl (by kernel_rfl) (by kernel_rfl) (by kernel_rfl) (fun ds h => ?_) (by kernel_rfl) (by kernel_rfl) ?_ hW hval0
  · match ds, h with
    | [_], _ => rfl
  · have e : Try.f5.params.toList = [22] := by kernel_rfl
    rw [e]
    intro ds1 es1 he1 w1
    have e22 : sh 22 = some [.sl [.int .u8]] := by kernel_rfl
    cases e22.symm.trans he1
    obtain ⟨d1, r1, rfl, k1, j1⟩ := cons_inv w1
    cases nil_inv j1
    obtain ⟨code, rfl, hcode, hcode'⟩ := byts_inv k1
    exact callD_of_vl fun v => c_law hcode
end FnPools
theorem fnPools_holds : Rows.FnPoolsSaid :=
  OpenClaim.holds_of_wide F_laws_FnPools Try.f5 rfl rfl rfl rfl rfl rfl rfl ⟨rfl, rfl, rfl, rfl, rfl⟩ rfl rfl rfl rfl rfl (by kernel_rfl) Try.func5 (by kernel_rfl)
    (of_decide_eq_true (by kernel_rfl)) (by unfold Func.isWrapper; first | (rw [if_pos (by decide +kernel)]; kernel_rfl) | (rw [if_neg (by decide +kernel)]; exact ⟨rfl, rfl⟩))
    (fun os started H enc _ => FnPools.lifted os started H enc)
#print axioms fnPools_holds
end Go.Proofs.Ythmpdfmdhfgaaaa
