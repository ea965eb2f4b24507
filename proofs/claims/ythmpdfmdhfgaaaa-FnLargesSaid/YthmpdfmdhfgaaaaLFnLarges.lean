/- A large thing takes chunks side by side, and a new chunk is for small things: the law FnLarges says true of all bytes. No conditions. -/
import Derived.Test.YthmpdfmdhfgaaaaHSd
import Derived.Test.YthmpdfmdhfgaaaaHDg
import Derived.Test.YthmpdfmdhfgaaaaVN5
import Derived.Test.YthmpdfmdhfgaaaaRows
import Derived.Test.YthmpdfmdhfgaaaaChecked
import Derived.ProofKit
namespace Go.Proofs.Ythmpdfmdhfgaaaa
open Go Go.Proofs.Ythmpdfmdhfgaaaa.DL
open Go.ChangeShapes Go.WideShapes Go.ChangeAt Go.RowKit
set_option maxRecDepth 100000

namespace FnLarges
theorem c_law {v : Value} {a : List Int} (ha : a.length ≤ M63) : CallD Try.prog F_laws_FnLarges [codeS v a] fun r _ => r = bS true := by
  refine k_laws_FnLarges ?_
  unfold vc_laws_FnLarges
  refine ⟨_, c_big, condB_i (fun _ => rfl) fun _ => ?_⟩
  obtain ⟨c, n, k, y, ⟨hc, hn, hk, hy⟩, c1⟩ := c_DrawPutLarge (v := v) ha
  obtain ⟨d, m, j, ⟨hd, hm, hj⟩, c2⟩ := c_DrawNewCur (v := v) ha
  have hns : n.sz ≤ 1048576 := by have := hn.sz; omega
  have hms : m.sz ≤ 1048576 := by have := hm.sz; omega
  have hyI : I64 y := by unfold I64; omega
  have hjI : I64 j := by unfold I64; omega
  have d1 := c_PutLarge c hn.ok hns k hyI
  have d2 := c_PutLargeS c hn.ok hns k hyI
  have d3 := c_NewCur d hm.ok hms hjI
  have d4 := c_NewCurS d hm.ok hms hjI
  have hX := largeN_sz (c := c) hns k y
  have hZ := curN_sz (c := d) hms j
  have d5 := c_sameNode hX
  have d6 := c_sameNode hZ
  have d7 := c_sameNode hns
  have d8 := c_ChunksFor c y
  have hZo : (curN d m j).ok := by
    unfold curN
    split
    · exact cur_ok hm.ok hms hjI
    · exact hm.ok
  have hXo : (largeN c n k y).ok := by
    unfold largeN
    split
    · rename_i h
      unfold largeB at h
      simp only [Bool.and_eq_true, Bool.not_eq_true', decide_eq_false_iff_not] at h
      have := bytes_le c
      exact big_ok hn.ok hns hyI (ceilDiv_le (by omega))
    · exact hn.ok
  have hn1 : (curN d m j).chunks.length ≤ M63 := by unfold Node.sz at hZ; unfold M63; omega
  have d9 := c_in hn1 j
  have d10 := c_LooseIn d hZo hZ
  have d11 := c_NodeOk d hZo hZ
  have d12 := c_NodeOk c hXo hX
  cases hb : largeB c n k y
  · have e1 : largeN c n k y = n := by unfold largeN; rw [hb]; rfl
    rw [e1, hb] at d1 d2
    cases hmB : curB d m j
    · have f1 : True := trivial
      rw [hmB] at d3 d4
      repeat' (first
        | with_reducible apply Exists.intro
        | with_reducible apply And.intro
        | with_reducible refine condB_t rfl ?_
        | with_reducible refine condB_f rfl ?_
        | with_reducible exact c1
        | with_reducible exact c2
        | with_reducible exact d1
        | with_reducible exact d2
        | with_reducible exact d3
        | with_reducible exact d4
        | with_reducible exact d5
        | with_reducible exact d6
        | with_reducible exact d7
        | with_reducible exact d8
        | with_reducible exact d9
        | with_reducible exact d10
        | with_reducible exact d11
        | with_reducible exact d12
        | with_reducible exact u1
        | with_reducible exact u2
        | with_reducible exact p0
        | with_reducible exact i0
        | with_reducible exact p1
        | with_reducible exact i1
        | with_reducible exact p2
        | with_reducible exact i2
        | with_reducible exact rfl
        | refine condB_t (decide_eq_true q0) ?_
        | refine condB_t (decide_eq_true q1) ?_
        | refine condB_t (decide_eq_true q2) ?_
        | refine condB_t (decide_eq_true e3) ?_
        | refine condB_t (decide_eq_true e4) ?_
        | (refine condB_f ?_ ?_; · (rw [f5]; simp; done))
        | (refine condB_f ?_ ?_; · (rw [f6]; simp; done))
        | (refine condB_f ?_ ?_; · (simp; done))
        | (refine condB_t ?_ ?_; · (simp; done))
        | fail)
    · have ⟨f1, f2, f3, f4⟩ := cur_of hd hmB
      have f5 : (curN d m j).cur = IntKind.i64.wrap (j + 1) := by rw [f1]
      have f6 : (curN d m j).bump = 0 := by rw [f1]
      rw [f3] at d9
      rw [f4] at d10
      rw [f2] at d11
      rw [hmB] at d3 d4
      repeat' (first
        | with_reducible apply Exists.intro
        | with_reducible apply And.intro
        | with_reducible refine condB_t rfl ?_
        | with_reducible refine condB_f rfl ?_
        | with_reducible exact c1
        | with_reducible exact c2
        | with_reducible exact d1
        | with_reducible exact d2
        | with_reducible exact d3
        | with_reducible exact d4
        | with_reducible exact d5
        | with_reducible exact d6
        | with_reducible exact d7
        | with_reducible exact d8
        | with_reducible exact d9
        | with_reducible exact d10
        | with_reducible exact d11
        | with_reducible exact d12
        | with_reducible exact u1
        | with_reducible exact u2
        | with_reducible exact p0
        | with_reducible exact i0
        | with_reducible exact p1
        | with_reducible exact i1
        | with_reducible exact p2
        | with_reducible exact i2
        | with_reducible exact rfl
        | refine condB_t (decide_eq_true q0) ?_
        | refine condB_t (decide_eq_true q1) ?_
        | refine condB_t (decide_eq_true q2) ?_
        | refine condB_t (decide_eq_true e3) ?_
        | refine condB_t (decide_eq_true e4) ?_
        | (refine condB_f ?_ ?_; · (rw [f5]; simp; done))
        | (refine condB_f ?_ ?_; · (rw [f6]; simp; done))
        | (refine condB_f ?_ ?_; · (simp; done))
        | (refine condB_t ?_ ?_; · (simp; done))
        | fail)
  · have e1 : largeN c n k y = bigN c n k y := by unfold largeN; rw [if_pos hb]
    have hb' := hb
    unfold largeB at hb'
    simp only [Bool.and_eq_true, Bool.not_eq_true', decide_eq_true_eq, decide_eq_false_iff_not] at hb'
    obtain ⟨-, -, b3, -, b5⟩ := hb'
    rw [← e1] at b5
    rw [b5] at d12
    have hce := ceilDiv_le (a := y) (b := c.size) (by have := bytes_le c; omega)
    have e2 : (largeN c n k y).things = n.things ++ [⟨IntKind.i64.wrap (k * c.size), y, ceilDiv y c.size⟩] := by rw [e1]; rfl
    have hl : n.things.length ≤ 1048576 := by unfold Node.sz at hns; omega
    obtain ⟨⟨u1, u2⟩, ⟨p0, i0, q0⟩, ⟨p1, i1, q1⟩, p2, i2, q2⟩ := last_facts e2 hl
    have e3 : nI (DV.sl 1 (ints (largeN c n k y).chunks)).n = IntKind.i64.wrap (nI (DV.sl 1 (ints n.chunks)).n + ((DV.sl 3 (thgs (largeN c n k y).things)).getP [(lastI (largeN c n k y)).toNat * 3 + 1 + 1]).asI) := by
      unfold Node.sz at hns
      rw [q2, e1, n_ints, n_ints]
      simp only [bigN, List.length_append, runL_length, nI]
      rw [wrap_id (by omega) (by omega)]; omega
    have e4 : (largeN c n k y).cur = n.cur := by rw [e1]; rfl
    rw [hb] at d1 d2
    cases hmB : curB d m j
    · have f1 : True := trivial
      rw [hmB] at d3 d4
      repeat' (first
        | with_reducible apply Exists.intro
        | with_reducible apply And.intro
        | with_reducible refine condB_t rfl ?_
        | with_reducible refine condB_f rfl ?_
        | with_reducible exact c1
        | with_reducible exact c2
        | with_reducible exact d1
        | with_reducible exact d2
        | with_reducible exact d3
        | with_reducible exact d4
        | with_reducible exact d5
        | with_reducible exact d6
        | with_reducible exact d7
        | with_reducible exact d8
        | with_reducible exact d9
        | with_reducible exact d10
        | with_reducible exact d11
        | with_reducible exact d12
        | with_reducible exact u1
        | with_reducible exact u2
        | with_reducible exact p0
        | with_reducible exact i0
        | with_reducible exact p1
        | with_reducible exact i1
        | with_reducible exact p2
        | with_reducible exact i2
        | with_reducible exact rfl
        | refine condB_t (decide_eq_true q0) ?_
        | refine condB_t (decide_eq_true q1) ?_
        | refine condB_t (decide_eq_true q2) ?_
        | refine condB_t (decide_eq_true e3) ?_
        | refine condB_t (decide_eq_true e4) ?_
        | (refine condB_f ?_ ?_; · (rw [f5]; simp; done))
        | (refine condB_f ?_ ?_; · (rw [f6]; simp; done))
        | (refine condB_f ?_ ?_; · (simp; done))
        | (refine condB_t ?_ ?_; · (simp; done))
        | fail)
    · have ⟨f1, f2, f3, f4⟩ := cur_of hd hmB
      have f5 : (curN d m j).cur = IntKind.i64.wrap (j + 1) := by rw [f1]
      have f6 : (curN d m j).bump = 0 := by rw [f1]
      rw [f3] at d9
      rw [f4] at d10
      rw [f2] at d11
      rw [hmB] at d3 d4
      repeat' (first
        | with_reducible apply Exists.intro
        | with_reducible apply And.intro
        | with_reducible refine condB_t rfl ?_
        | with_reducible refine condB_f rfl ?_
        | with_reducible exact c1
        | with_reducible exact c2
        | with_reducible exact d1
        | with_reducible exact d2
        | with_reducible exact d3
        | with_reducible exact d4
        | with_reducible exact d5
        | with_reducible exact d6
        | with_reducible exact d7
        | with_reducible exact d8
        | with_reducible exact d9
        | with_reducible exact d10
        | with_reducible exact d11
        | with_reducible exact d12
        | with_reducible exact u1
        | with_reducible exact u2
        | with_reducible exact p0
        | with_reducible exact i0
        | with_reducible exact p1
        | with_reducible exact i1
        | with_reducible exact p2
        | with_reducible exact i2
        | with_reducible exact rfl
        | refine condB_t (decide_eq_true q0) ?_
        | refine condB_t (decide_eq_true q1) ?_
        | refine condB_t (decide_eq_true q2) ?_
        | refine condB_t (decide_eq_true e3) ?_
        | refine condB_t (decide_eq_true e4) ?_
        | (refine condB_f ?_ ?_; · (rw [f5]; simp; done))
        | (refine condB_f ?_ ?_; · (rw [f6]; simp; done))
        | (refine condB_f ?_ ?_; · (simp; done))
        | (refine condB_t ?_ ?_; · (simp; done))
        | fail)

theorem lifted (os : Os) (started : os.Started) (H : Type) (enc : TypeId × Value → H) :
    ReturnsInHanded {} Try.checked os F_laws_FnLarges .any (Rows.fnLargesSpec.pre6 enc Try.prog Try.f9 Rows.fnLargesRow.domain false) (Rows.fnLargesSpec.post enc Try.prog Try.f9 false true false false) := by
  refine returnsInHanded_of_change (C := Try.checked) own started (by kernel_rfl) Try.func9
    (ChangeSpec.witness6 (enc := enc) (C := Try.checked) false ⟨#[], #[.slice none 0 0], []⟩ 8 (by kernel_rfl) (by kernel_rfl) (by kernel_rfl) (by kernel_rfl)) ?_
  intro W base args ds gs before hval0 hW hcnd _
  refine law_row (bs := [false]) (bt := 4) laidOut shOk rfl (by kernel_rfl) (by kernel_rfl) (by kernel_rfl) (fun ds h => ?_) (by kernel_rfl) (by kernel_rfl) ?_ hW hval0
  · match ds, h with
    | [_], _ => rfl
  · have e : Try.f9.params.toList = [22] := by kernel_rfl
    rw [e]
    intro ds1 es1 he1 w1
    have e22 : sh 22 = some [.sl [.int .u8]] := by kernel_rfl
    cases e22.symm.trans he1
    obtain ⟨d1, r1, rfl, k1, j1⟩ := cons_inv w1
    cases nil_inv j1
    obtain ⟨code, rfl, hcode, hcode'⟩ := byts_inv k1
    exact callD_of_vl fun v => c_law hcode
end FnLarges
theorem fnLarges_holds : Rows.FnLargesSaid :=
  OpenClaim.holds_of_wide F_laws_FnLarges Try.f9 rfl rfl rfl rfl rfl rfl rfl ⟨rfl, rfl, rfl, rfl, rfl⟩ rfl rfl rfl rfl rfl (by kernel_rfl) Try.func9 (by kernel_rfl)
    (of_decide_eq_true (by kernel_rfl)) (by unfold Func.isWrapper; first | (rw [if_pos (by decide +kernel)]; kernel_rfl) | (rw [if_neg (by decide +kernel)]; exact ⟨rfl, rfl⟩))
    (fun os started H enc _ => FnLarges.lifted os started H enc)
#print axioms fnLarges_holds
end Go.Proofs.Ythmpdfmdhfgaaaa
