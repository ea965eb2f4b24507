/- A thing goes behind all others of its chunk, where it may begin, and none is over another one: the law FnSpots says true of all bytes. No conditions. -/
import Derived.Test.YthmpdfmdhfgaaaaHSd
import Derived.Test.YthmpdfmdhfgaaaaHDg
import Derived.Test.YthmpdfmdhfgaaaaVN6
import Derived.Test.YthmpdfmdhfgaaaaRows
import Derived.Test.YthmpdfmdhfgaaaaChecked
import Derived.ProofKit
namespace Go.Proofs.Ythmpdfmdhfgaaaa
open Go Go.Proofs.Ythmpdfmdhfgaaaa.DL
open Go.ChangeShapes Go.WideShapes Go.ChangeAt Go.RowKit
set_option maxRecDepth 100000

namespace FnSpots
theorem c_law {v : Value} {a : List Int} (ha : a.length ≤ M63) : CallD Try.prog F_laws_FnSpots [codeS v a] fun r _ => r = bS true := by
  refine k_laws_FnSpots ?_
  unfold vc_laws_FnSpots
  refine ⟨_, c_big, condB_i (fun _ => rfl) fun _ => ?_⟩
  obtain ⟨c, n, z, y, ⟨hc, hn⟩, c1⟩ := c_DrawPutSmall (v := v) ha
  have hns : n.sz ≤ 1048576 := by have := hn.sz; omega
  have d1 := c_SpotIn c hn.ok hns z y
  have d2 := c_SpotInS c hn.ok hns z y
  have d3 := c_PutSmall c hn.ok hns z y
  have d4 := c_PutSmallS c hn.ok hns z y
  have hX := putS_sz (c := c) hns z y
  have d5 := c_sameNode hX
  have d6 := c_NeedsChunk c hn.ok hns z y
  have d7 := c_NeedsChunkS c hn.ok hns z y
  have d8 := c_LooseIn c hn.ok hns
  have d9 := c_LooseInS c hn.ok hns
  have d10 := c_sameNode hns
  have d14 := c_InChunks c hn.ok hns
  cases hb : putSB c n z y
  · have e1 : putS c n z y = n := by unfold putS; rw [hb]; rfl
    rw [e1, hb] at d3 d4
    repeat' (first
      | with_reducible apply Exists.intro
      | with_reducible apply And.intro
      | with_reducible refine condB_t rfl ?_
      | with_reducible refine condB_f rfl ?_
      | with_reducible exact c1
      | with_reducible exact d1
      | with_reducible exact d2
      | with_reducible exact d3
      | with_reducible exact d4
      | with_reducible exact d5
      | with_reducible exact d6
      | with_reducible exact d7
      | with_reducible exact d8
      | with_reducible exact d9
      | with_reducible exact d10
      | with_reducible exact d11
      | with_reducible exact d12
      | with_reducible exact d13
      | with_reducible exact d14
      | with_reducible exact u1
      | with_reducible exact u2
      | with_reducible exact p0
      | with_reducible exact i0
      | with_reducible exact p1
      | with_reducible exact i1
      | with_reducible exact p2
      | with_reducible exact i2
      | with_reducible exact rfl
      | (refine condB_f ?_ ?_; · (simp; done))
      | (refine condB_t ?_ ?_; · (simp; done))
      | (refine bS_eq ?_; simp; done)
      | fail)
  · have hP := put_of hn.ok hb
    generalize alignUp n.bump y = off at hP
    have hS := hP.spot
    obtain ⟨m0, m1⟩ := hP.base
    have w1 := hS.cur
    have w2 := hS.lo
    have w3 := hS.hi
    have w4 := hS.fit
    have w5 := hS.als
    have w6 := hS.sz1
    have w7 := hc.chunks
    have w8 := hc.size
    have eS : spotB c n z y = true := by
      unfold putSB at hb
      simp only [Bool.and_eq_true] at hb
      exact hb.1
    rw [eS] at d1 d2
    rw [hb] at d3 d4
    have e2 : (putS c n z y).things = n.things ++ [⟨(n.cur - 1) * c.size + off, z, 0⟩] := by rw [hP.node]
    have hl : n.things.length ≤ 1048576 := by unfold Node.sz at hns; omega
    obtain ⟨⟨u1, u2⟩, ⟨p0, i0, q0⟩, ⟨p1, i1, q1⟩, p2, i2, q2⟩ := last_facts e2 hl
    dsimp only at q0 q1 q2
    have e3 : ((DV.sl 3 (thgs (putS c n z y).things)).getP [(lastI (putS c n z y)).toNat * 3]).asI = spotN c n z y := by rw [q0, hS.no]
    have e4 : y ≠ 0 := by omega
    have e5 : IntKind.i64.wrap (((DV.sl 3 (thgs (putS c n z y).things)).getP [(lastI (putS c n z y)).toNat * 3]).asI - IntKind.i64.wrap (IntKind.i64.wrap (n.cur - 1) * c.size)) = off := by
      rw [q0, wrap_id (n := n.cur - 1) (by omega) (by omega), wrap_id (n := (n.cur - 1) * c.size) (by omega) (by omega), wrap_id (by omega) (by omega)]; omega
    have e6 : off < IntKind.i64.wrap (n.bump + y) := by rw [wrap_id (by omega) (by omega)]; exact w3
    have e7 : (putS c n z y).bump = IntKind.i64.wrap (off + z) := by rw [hP.node, wrap_id (by omega) (by omega)]
    have hXo : (putS c n z y).ok := by
      rw [hP.node]
      obtain ⟨o1, o2, o3, o4, o5, o6, o7, o8, o9, o10, o11, ⟨o12, p12⟩, o13⟩ := hn.ok
      refine ⟨o1, o2, o3, o4, o5, o6, o7, o8, o9, o10, by show I64 (off + z); unfold I64; omega, ⟨by simp only [List.length_append, List.length_singleton]; unfold M63; omega, fun x hx => ?_⟩, o13⟩
      rcases List.mem_append.1 hx with hx | hx
      · exact p12 x hx
      · rw [List.mem_singleton.1 hx]
        refine ⟨?_, ?_, ?_⟩ <;> simp only <;> unfold I64 <;> omega
    have d11 := c_NodeOk c hXo hX
    rw [hP.ok] at d11
    have d12 := c_LooseIn c hXo hX
    have e8 : looseIn c (putS c n z y) = IntKind.i64.wrap (c.size - (putS c n z y).bump) := by rw [hP.loose, hP.node]
    have d13 := c_InChunks c hXo hX
    rw [hP.ins] at d13
    generalize insB c n = bi at d13 d14
    cases bi <;>
      repeat' (first
        | with_reducible apply Exists.intro
        | with_reducible apply And.intro
        | with_reducible refine condB_t rfl ?_
        | with_reducible refine condB_f rfl ?_
        | with_reducible exact c1
        | with_reducible exact d1
        | with_reducible exact d2
        | with_reducible exact d3
        | with_reducible exact d4
        | with_reducible exact d5
        | with_reducible exact d6
        | with_reducible exact d7
        | with_reducible exact d8
        | with_reducible exact d9
        | with_reducible exact d10
        | with_reducible exact d11
        | with_reducible exact d12
        | with_reducible exact d13
        | with_reducible exact d14
        | with_reducible exact u1
        | with_reducible exact u2
        | with_reducible exact p0
        | with_reducible exact i0
        | with_reducible exact p1
        | with_reducible exact i1
        | with_reducible exact p2
        | with_reducible exact i2
        | with_reducible exact rfl
        | refine condB_t (decide_eq_true e3) ?_
        | refine condB_t (decide_eq_true q1) ?_
        | exact e4
        | (refine condB_t ?_ ?_; · (rw [e5]; exact decide_eq_true hS.mod))
        | (refine condB_t ?_ ?_; · (rw [e5]; exact decide_eq_true w2.2))
        | (refine condB_t ?_ ?_; · (rw [e5]; exact decide_eq_true e6))
        | (refine condB_t ?_ ?_; · (rw [e5]; exact decide_eq_true e7))
        | refine condB_t (decide_eq_true e8) ?_
        | (refine condB_f ?_ ?_; · (simp; done))
        | (refine condB_t ?_ ?_; · (simp; done))
        | (refine bS_eq ?_; simp; done)
        | fail)

theorem lifted (os : Os) (started : os.Started) (H : Type) (enc : TypeId × Value → H) :
    ReturnsInHanded {} Try.checked os F_laws_FnSpots .any (Rows.fnSpotsSpec.pre6 enc Try.prog Try.f10 Rows.fnSpotsRow.domain false) (Rows.fnSpotsSpec.post enc Try.prog Try.f10 false true false false) := by
  refine returnsInHanded_of_change (C := Try.checked) own started (by kernel_rfl) Try.func10
    (ChangeSpec.witness6 (enc := enc) (C := Try.checked) false ⟨#[], #[.slice none 0 0], []⟩ 8 (by kernel_rfl) (by kernel_rfl) (by kernel_rfl) (by kernel_rfl)) ?_
  intro W base args ds gs before hval0 hW hcnd _
  refine law_row (bs := [false]) (bt := 4) laidOut shOk rfl (by kernel_rfl) (by kernel_rfl) (by kernel_rfl) (fun ds h => ?_) (by kernel_rfl) (by kernel_rfl) ?_ hW hval0
  · match ds, h with
    | [_], _ => rfl
  · have e : Try.f10.params.toList = [22] := by kernel_rfl
    rw [e]
    intro ds1 es1 he1 w1
    have e22 : sh 22 = some [.sl [.int .u8]] := by kernel_rfl
    cases e22.symm.trans he1
    obtain ⟨d1, r1, rfl, k1, j1⟩ := cons_inv w1
    cases nil_inv j1
    obtain ⟨code, rfl, hcode, hcode'⟩ := byts_inv k1
    exact callD_of_vl fun v => c_law hcode
end FnSpots
theorem fnSpots_holds : Rows.FnSpotsSaid :=
  OpenClaim.holds_of_wide F_laws_FnSpots Try.f10 rfl rfl rfl rfl rfl rfl rfl ⟨rfl, rfl, rfl, rfl, rfl⟩ rfl rfl rfl rfl rfl (by kernel_rfl) Try.func10 (by kernel_rfl)
    (of_decide_eq_true (by kernel_rfl)) (by unfold Func.isWrapper; first | (rw [if_pos (by decide +kernel)]; kernel_rfl) | (rw [if_neg (by decide +kernel)]; exact ⟨rfl, rfl⟩))
    (fun os started H enc _ => FnSpots.lifted os started H enc)
#print axioms fnSpots_holds
end Go.Proofs.Ythmpdfmdhfgaaaa
