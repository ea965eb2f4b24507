/- What is written to a thing is read of it, and nothing else turns: the law FnThings says true of all bytes. No conditions. -/
import Derived.Test.YthmpdfmdhfgaaaaHDf
import Derived.Test.YthmpdfmdhfgaaaaHTo
import Derived.Test.YthmpdfmdhfgaaaaVN4
import Derived.Test.YthmpdfmdhfgaaaaRows
import Derived.Test.YthmpdfmdhfgaaaaChecked
import Derived.ProofKit
namespace Go.Proofs.Ythmpdfmdhfgaaaa
open Go Go.Proofs.Ythmpdfmdhfgaaaa.DL
open Go.ChangeShapes Go.WideShapes Go.ChangeAt Go.RowKit
set_option maxRecDepth 100000

namespace FnThings
theorem writeR_len (l : List Int) (t : Thing) (x : Int) (s : List Int) : (writeR l t x s).length = l.length := by
  unfold writeR putR
  split
  · split
    · rename_i h
      simp only [there, Bool.and_eq_true, decide_eq_true_eq] at h
      exact putAt_length (by omega)
    · rfl
  · rfl
theorem readR_len {g : List Int} (hg : g.length ≤ 1048576) (u : Thing) (i k : Int) : (readR g u i k).length ≤ M63 := by
  unfold readR getR M63
  split
  · split
    · simp; omega
    · simp
  · simp
theorem write_facts {l s : List Int} {t : Thing} {x : Int} (_ht : t.ok) (_hx : I64 x) (h : inThing l.length t x s.length = true) :
    0 ≤ IntKind.i64.wrap (t.pos + x) ∧ IntKind.i64.wrap (t.pos + x) + s.length ≤ l.length ∧ readR (writeR l t x s) t x s.length = s ∧ (writeR l t x s).take (IntKind.i64.wrap (t.pos + x)).toNat = l.take (IntKind.i64.wrap (t.pos + x)).toNat ∧
    (writeR l t x s).drop (IntKind.i64.wrap (t.pos + x) + s.length).toNat = l.drop (IntKind.i64.wrap (t.pos + x) + s.length).toNat := by
  have hW := writeR_len l t x s
  have h' := h
  simp only [inThing, Bool.and_eq_true] at h'
  have h2 := h'.2
  have h3 := h2
  simp only [there, Bool.and_eq_true, decide_eq_true_eq] at h3
  have hw : writeR l t x s = putAt l (IntKind.i64.wrap (t.pos + x)).toNat s := by unfold writeR putR; rw [if_pos h, if_pos h2]
  have hr : readR (writeR l t x s) t x s.length = ((writeR l t x s).take (IntKind.i64.wrap (t.pos + x) + s.length).toNat).drop (IntKind.i64.wrap (t.pos + x)).toNat := by
    unfold readR getR; rw [hW, if_pos h, if_pos h2]
  generalize IntKind.i64.wrap (t.pos + x) = p at *
  obtain ⟨q, rfl⟩ := Int.eq_ofNat_of_zero_le h3.1.1
  have e : ((q : Int) + s.length).toNat = q + s.length := by omega
  have hl : (l.take q).length = q := by simp; omega
  rw [hr, hw, e]
  simp only [Int.toNat_natCast]
  refine ⟨by omega, by omega, ?_, ?_, ?_⟩
  · unfold putAt
    rw [List.take_append, hl, List.take_of_length_le (by omega), List.drop_append, hl, List.drop_eq_nil_of_le (by omega), Nat.sub_self, List.drop_zero, List.nil_append, Nat.add_sub_cancel_left, List.take_append, Nat.sub_self, List.take_zero, List.append_nil, List.take_length]
  · unfold putAt
    rw [List.take_append, hl, Nat.sub_self, List.take_zero, List.append_nil, List.take_of_length_le (by omega)]
  · unfold putAt
    rw [List.drop_append, hl, List.drop_eq_nil_of_le (by omega), List.nil_append, Nat.add_sub_cancel_left, List.drop_append, Nat.sub_self, List.drop_length, List.nil_append, List.drop_zero]
theorem c_law {v : Value} {a : List Int} (ha : a.length ≤ M63) : CallD Try.prog F_laws_FnThings [codeS v a] fun r _ => r = bS true := by
  refine k_laws_FnThings ?_
  unfold vc_laws_FnThings
  refine ⟨_, c_big, condB_i (fun _ => rfl) fun _ => ?_⟩
  obtain ⟨l, t, x, s, ⟨hl, ht, hx, hs⟩, c1⟩ := c_DrawWriteThing (v := v) ha
  obtain ⟨g, u, i, k, ⟨hg, hu, hi, hk⟩, c2⟩ := c_DrawReadThing (v := v) ha
  obtain ⟨n, r, hn, c3⟩ := c_DrawThingOf (v := v) ha
  have hl' : l.length ≤ 1048576 := by omega
  have hg' : g.length ≤ 1048576 := by omega
  have hs' : s.length ≤ 1048576 := by omega
  have hnt : n.things.length ≤ M63 := by have := hn.sz; unfold Node.sz at this; unfold M63; omega
  have d1 := c_WriteThing hl' hs' ht hx
  have d2 := c_WriteThingS hl' hs' ht hx
  have d3 := c_ReadThing hg' hu hi hk
  have d4 := c_ReadThingS hg' hu hi hk
  have d5 := c_ThingOf (n := n) (r := r) hnt
  have d6 := c_ThingOfS (n := n) (r := r) hnt
  have hW : (writeR l t x s).length = l.length := writeR_len l t x s
  have d7 := c_same (a := writeR l t x s) (b := writeR l t x s) (by unfold M63; omega)
  have d8 := c_same (a := readR g u i k) (b := readR g u i k) (readR_len hg' u i k)
  cases hb : inThing l.length t x s.length
  · have e1 : writeR l t x s = l := by unfold writeR; rw [hb]; rfl
    rw [e1, hb] at d1 d2
    have d9 := c_same (a := l) (b := l) (by unfold M63; omega)
    repeat' (first
      | with_reducible apply Exists.intro
      | with_reducible apply And.intro
      | with_reducible refine condB_t rfl ?_
      | with_reducible refine condB_f rfl ?_
      | with_reducible exact c1
      | with_reducible exact c2
      | with_reducible exact c3
      | with_reducible exact d1
      | with_reducible exact d2
      | with_reducible exact d3
      | with_reducible exact d4
      | with_reducible exact d5
      | with_reducible exact d6
      | with_reducible exact d7
      | with_reducible exact d8
      | with_reducible exact d9
      | with_reducible exact d10
      | with_reducible exact d11
      | with_reducible exact d12
      | with_reducible exact d13
      | with_reducible exact d14
      | with_reducible exact d15
      | with_reducible exact rfl
      | (rw [e1] at d7; exact d7)
      | (refine condB_f ?_ ?_; · (simp; done))
      | (refine condB_t ?_ ?_; · (simp; done))
      | (refine bS_eq ?_; simp; done)
      | fail)
  · obtain ⟨w1, w2, w3, w4, w5⟩ := write_facts ht hx hb
    rw [hb] at d1 d2
    have d9 := c_ReadThing (l := writeR l t x s) (t := t) (off := x) (k := nI (DV.sl 1 (byts s)).n) (by omega) ht hx (by simp only [nI, n_byts]; unfold I64; omega)
    have z1 : inThing (writeR l t x s).length t x (nI (DV.sl 1 (byts s)).n) = true := by rw [hW]; simp only [nI, n_byts]; exact hb
    have z2 : readR (writeR l t x s) t x (nI (DV.sl 1 (byts s)).n) = s := by simp only [nI, n_byts]; exact w3
    rw [z1, z2] at d9
    have d10 := c_same (a := s) (b := s) (by unfold M63; omega)
    have e1 : ¬ IntKind.i64.wrap (t.pos + x) < 0 := by omega
    have e2 : ¬ nI (DV.sl 1 (byts l)).n < IntKind.i64.wrap (t.pos + x) := by simp only [nI, n_byts]; omega
    have e3 : ¬ IntKind.i64.wrap (nI (DV.sl 1 (byts l)).n - IntKind.i64.wrap (t.pos + x)) < nI (DV.sl 1 (byts s)).n := by
      simp only [nI, n_byts]; rw [wrap_id (n := (l.length : Int) - IntKind.i64.wrap (t.pos + x)) (by omega) (by omega)]; omega
    have e4 : IntKind.i64.wrap (t.pos + x) ≤ nI (DV.sl 1 (byts (writeR l t x s))).n := by simp only [nI, n_byts]; omega
    have e5 : IntKind.i64.wrap (t.pos + x) ≤ nI (DV.sl 1 (byts l)).n := by simp only [nI, n_byts]; omega
    have e6 : IntKind.i64.wrap (IntKind.i64.wrap (t.pos + x) + nI (DV.sl 1 (byts s)).n) = IntKind.i64.wrap (t.pos + x) + s.length := by
      simp only [nI, n_byts]; rw [wrap_id (by omega) (by omega)]
    have d11 : CallD Try.prog F_laws_same [oneC (.rd (.sl 1 (List.drop (Int.toNat 0 * 1) (List.take ((IntKind.i64.wrap (t.pos + x)).toNat * 1) (byts (writeR l t x s)))))), oneC (.rd (.sl 1 (List.drop (Int.toNat 0 * 1) (List.take ((IntKind.i64.wrap (t.pos + x)).toNat * 1) (byts l)))))] fun r _ => r = bS true := by
      have := c_same (a := l.take (IntKind.i64.wrap (t.pos + x)).toNat) (b := l.take (IntKind.i64.wrap (t.pos + x)).toNat) (by unfold M63; simp; omega)
      simp only [Nat.mul_one, Int.toNat_zero, List.drop_zero, take_byts, w4, decide_true] at this ⊢
      exact this
    have d12 : CallD Try.prog F_laws_same [oneC (.rd (.sl 1 (List.drop ((IntKind.i64.wrap (IntKind.i64.wrap (t.pos + x) + nI (DV.sl 1 (byts s)).n)).toNat * 1) (List.take (((some (nI (DV.sl 1 (byts (writeR l t x s))).n)).getD 0).toNat * 1) (byts (writeR l t x s)))))), oneC (.rd (.sl 1 (List.drop ((IntKind.i64.wrap (IntKind.i64.wrap (t.pos + x) + nI (DV.sl 1 (byts s)).n)).toNat * 1) (List.take (((some (nI (DV.sl 1 (byts l)).n)).getD 0).toNat * 1) (byts l)))))] fun r _ => r = bS true := by
      have := c_same (a := l.drop (IntKind.i64.wrap (t.pos + x) + s.length).toNat) (b := l.drop (IntKind.i64.wrap (t.pos + x) + s.length).toNat) (by unfold M63; simp; omega)
      rw [e6]
      simp only [Nat.mul_one, nI, n_byts, Option.getD_some, Int.toNat_natCast, take_byts, drop_byts, List.take_length, w5, decide_true] at this ⊢
      exact this
    repeat' (first
      | with_reducible apply Exists.intro
      | with_reducible apply And.intro
      | with_reducible refine condB_t rfl ?_
      | with_reducible refine condB_f rfl ?_
      | with_reducible exact c1
      | with_reducible exact c2
      | with_reducible exact c3
      | with_reducible exact d1
      | with_reducible exact d2
      | with_reducible exact d3
      | with_reducible exact d4
      | with_reducible exact d5
      | with_reducible exact d6
      | with_reducible exact d7
      | with_reducible exact d8
      | with_reducible exact d9
      | with_reducible exact d10
      | with_reducible exact d11
      | with_reducible exact d12
      | with_reducible exact d13
      | with_reducible exact d14
      | with_reducible exact d15
      | with_reducible exact rfl
      | refine condB_f (decide_eq_false e1) ?_
      | refine condB_f (decide_eq_false e2) ?_
      | refine condB_f (decide_eq_false e3) ?_
      | exact e4
      | exact e5
      | (rw [e6]; simp only [nI, n_byts, Option.getD_some]; omega)
      | exact Int.le_refl _
      | omega
      | (refine condB_f ?_ ?_; · (simp; done))
      | (refine condB_t ?_ ?_; · (simp; done))
      | (refine bS_eq ?_; simp; done)
      | fail)

theorem lifted (os : Os) (started : os.Started) (H : Type) (enc : TypeId × Value → H) :
    ReturnsInHanded {} Try.checked os F_laws_FnThings .any (Rows.fnThingsSpec.pre6 enc Try.prog Try.f8 Rows.fnThingsRow.domain false) (Rows.fnThingsSpec.post enc Try.prog Try.f8 false true false false) := by
  refine returnsInHanded_of_change (C := Try.checked) own started (by kernel_rfl) Try.func8
    (ChangeSpec.witness6 (enc := enc) (C := Try.checked) false ⟨#[], #[.slice none 0 0], []⟩ 8 (by kernel_rfl) (by kernel_rfl) (by kernel_rfl) (by kernel_rfl)) ?_
  intro W base args ds gs before hval0 hW hcnd _
  refine law_row (bs := [false]) (bt := 4) laidOut shOk rfl (by kernel_rfl) (by kernel_rfl) (by kernel_rfl) (fun ds h => ?_) (by kernel_rfl) (by kernel_rfl) ?_ hW hval0
  · match ds, h with
    | [_], _ => rfl
  · have e : Try.f8.params.toList = [22] := by kernel_rfl
    rw [e]
    intro ds1 es1 he1 w1
    have e22 : sh 22 = some [.sl [.int .u8]] := by kernel_rfl
    cases e22.symm.trans he1
    obtain ⟨d1, r1, rfl, k1, j1⟩ := cons_inv w1
    cases nil_inv j1
    obtain ⟨code, rfl, hcode, hcode'⟩ := byts_inv k1
    exact callD_of_vl fun v => c_law hcode
end FnThings
theorem fnThings_holds : Rows.FnThingsSaid :=
  OpenClaim.holds_of_wide F_laws_FnThings Try.f8 rfl rfl rfl rfl rfl rfl rfl ⟨rfl, rfl, rfl, rfl, rfl⟩ rfl rfl rfl rfl rfl (by kernel_rfl) Try.func8 (by kernel_rfl)
    (of_decide_eq_true (by kernel_rfl)) (by unfold Func.isWrapper; first | (rw [if_pos (by decide +kernel)]; kernel_rfl) | (rw [if_neg (by decide +kernel)]; exact ⟨rfl, rfl⟩))
    (fun os started H enc _ => FnThings.lifted os started H enc)
#print axioms fnThings_holds
end Go.Proofs.Ythmpdfmdhfgaaaa
