/- The program's ReadThing returns what the reference's ReadThing returns, for all arguments: the law FnExactReadThing says true of every memory, thing, offset and length. No conditions. -/
import Derived.Test.YtbmflnlppnkbaaaHF
import Derived.Test.YtbmflnlppnkbaaaRows
import Derived.Test.YtbmflnlppnkbaaaChecked
import Derived.ProofKit
namespace Go.Proofs.Ytbmflnlppnkbaaa
open Go Go.Proofs.Ytbmflnlppnkbaaa.DL
open Go.ChangeShapes Go.WideShapes Go.ChangeAt Go.RowKit
set_option maxRecDepth 100000

namespace ReadThing
theorem c_law {l : List Int} (hl : l.length ≤ M63) {t : Thing} (ht : t.ok) {off k : Int} (ho : I64 off) (hk : I64 k) : CallD Try.prog F_laws_FnExactReadThing [rB l, thingS t, iS off, iS k] fun r _ => r = bS true := by
  refine k_laws_FnExactReadThing ?_
  unfold vc_laws_FnExactReadThing
  simp only [nI, n_byts]
  refine ⟨fun _ => trivial, fun g => ?_⟩
  have hs : l.length ≤ 1048576 := by simp only [decide_eq_false_iff_not] at g; omega
  clear g
  have hT := c_toByteS (l := l) (by omega)
  have hU := c_toThing t
  have hS := c_ReadThingS hs ht ho hk
  have hI := c_ReadThing hs ht ho hk
  have hr : (readR l t off k).length ≤ 1048576 := by
    unfold readR getR
    split
    · split
      · simp; omega
      · simp
    · simp
  generalize readR l t off k = r at *
  have hE := c_eqByteS (a := r) (b := r) (by unfold M63; omega)
  have hF := c_eqByteS (a := l) (b := l) hl
  have hM := c_markB hs
  have hN := c_markB hr
  have hH := c_heldB hr
  generalize inThing l.length t off k = b at *
  cases b <;>
    repeat' (first
      | trivial
      | exact hT | exact hU | exact hS | exact hI | exact hE | exact hF | exact hM | exact hN | exact hH
      | (intro g; exfalso; revert g; simp; done)
      | (intro g; exfalso; simp only [decide_eq_true_eq] at g; omega)
      | intro _
      | apply And.intro
      | apply Exists.intro)

theorem lifted (os : Os) (started : os.Started) (H : Type) (enc : TypeId × Value → H) :
    ReturnsInHanded {} Try.checked os F_laws_FnExactReadThing .any (Rows.fnExactReadThingSpec.pre6 enc Try.prog Try.f7 Rows.fnExactReadThingRow.domain false) (Rows.fnExactReadThingSpec.post enc Try.prog Try.f7 false true false false) := by
  refine returnsInHanded_of_change (C := Try.checked) own started (by kernel_rfl) Try.func7
    (ChangeSpec.witness6 (enc := enc) (C := Try.checked) false ⟨#[], #[.slice none 0 0, .agg #[.int .i64 0, .int .i64 0, .int .i64 0], .int .i64 0, .int .i64 0], []⟩ 8 (by kernel_rfl) (by kernel_rfl) (by kernel_rfl) (by kernel_rfl)) ?_
  intro W base args ds gs before hval0 hW hcnd _
  refine law_row (bs := [false, true, false, false]) (bt := 4) laidOut shOk rfl (by kernel_rfl) (by kernel_rfl) (by kernel_rfl) (fun ds h => ?_) (by kernel_rfl) (by kernel_rfl) ?_ hW hval0
  · match ds, h with
    | [_, _, _, _], _ => rfl
  · have e : Try.f7.params.toList = [48, 23, 3, 3] := by kernel_rfl
    rw [e]
    intro ds1 es1 he1 w1 ds2 es2 he2 w2 ds3 es3 he3 w3 ds4 es4 he4 w4
    have e1 : sh 48 = some [.sl [.int .u8]] := by kernel_rfl
    have e2 : sh 23 = some [.int .i64, .int .i64, .int .i64] := by kernel_rfl
    have e3 : sh 3 = some [.int .i64] := by kernel_rfl
    cases e1.symm.trans he1
    cases e2.symm.trans he2
    cases e3.symm.trans he3
    cases e3.symm.trans he4
    obtain ⟨d, r, rfl, h1, h2⟩ := cons_inv w1
    cases nil_inv h2
    obtain ⟨l, rfl, hl, -⟩ := byts_inv h1
    obtain ⟨t, rfl, ht⟩ := thing_inv w2
    obtain ⟨d, r, rfl, h3, h4⟩ := cons_inv w3
    cases nil_inv h4
    obtain ⟨o, rfl, ho⟩ := int_inv h3
    obtain ⟨d, r, rfl, h3, h4⟩ := cons_inv w4
    cases nil_inv h4
    obtain ⟨k, rfl, hk⟩ := int_inv h3
    exact c_law hl ht ho hk
end ReadThing
theorem fnExactReadThing_holds : Rows.FnExactReadThingSaid :=
  OpenClaim.holds_of_wide F_laws_FnExactReadThing Try.f7 rfl rfl rfl rfl rfl rfl rfl ⟨rfl, rfl, rfl, rfl, rfl⟩ rfl rfl rfl rfl rfl (by kernel_rfl) Try.func7 (by kernel_rfl)
    (of_decide_eq_true (by kernel_rfl)) (by unfold Func.isWrapper; first | (rw [if_pos (by decide +kernel)]; kernel_rfl) | (rw [if_neg (by decide +kernel)]; exact ⟨rfl, rfl⟩))
    (fun os started H enc _ => ReadThing.lifted os started H enc)
#print axioms fnExactReadThing_holds
end Go.Proofs.Ytbmflnlppnkbaaa
