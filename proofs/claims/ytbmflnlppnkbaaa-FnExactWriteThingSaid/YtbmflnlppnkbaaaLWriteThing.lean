/- The program's WriteThing returns what the reference's WriteThing returns, for all arguments: the law FnExactWriteThing says true of every memory, thing, offset and bytes. No conditions. -/
import Derived.Test.YtbmflnlppnkbaaaHG
import Derived.Test.YtbmflnlppnkbaaaRows
import Derived.Test.YtbmflnlppnkbaaaChecked
import Derived.ProofKit
namespace Go.Proofs.Ytbmflnlppnkbaaa
open Go Go.Proofs.Ytbmflnlppnkbaaa.DL
open Go.ChangeShapes Go.WideShapes Go.ChangeAt Go.RowKit
set_option maxRecDepth 100000

namespace WriteThing
theorem c_law {l s : List Int} (hl : l.length ≤ M63) (hs : s.length ≤ M63) {t : Thing} (ht : t.ok) {off : Int} (ho : I64 off) : CallD Try.prog F_laws_FnExactWriteThing [rB l, thingS t, iS off, rB s] fun r _ => r = bS true := by
  refine k_laws_FnExactWriteThing ?_
  unfold vc_laws_FnExactWriteThing
  simp only [nI, n_byts]
  refine ⟨fun _ => trivial, fun g => ⟨fun _ => trivial, fun g' => ?_⟩⟩
  have hl1 : l.length ≤ 1048576 := by simp only [decide_eq_false_iff_not] at g; omega
  have hs1 : s.length ≤ 1048576 := by simp only [decide_eq_false_iff_not] at g'; omega
  clear g g'
  have hT := c_toByteS (l := l) (by omega)
  have hT' := c_toByteS (l := s) (by omega)
  have hU := c_toThing t
  have hS := c_WriteThingS hl1 hs1 ht ho
  have hI := c_WriteThing hl1 hs1 ht ho
  have hr : (writeR l t off s).length ≤ 1048576 := by
    unfold writeR putR
    split
    · split
      · rename_i h
        simp only [there, Bool.and_eq_true, decide_eq_true_eq] at h
        rw [putAt_length (by omega)]; exact hl1
      · exact hl1
    · exact hl1
  generalize writeR l t off s = r at *
  have hE := c_eqByteS (a := r) (b := r) (by unfold M63; omega)
  have hF := c_eqByteS (a := l) (b := l) hl
  have hF' := c_eqByteS (a := s) (b := s) hs
  have hM := c_markB hl1
  have hN := c_markB hr
  have hH := c_heldB hr
  have hV := c_markBk (b := 1 + (l.length : Int)) hs1 (by omega) (by omega)
  generalize inThing l.length t off s.length = b at *
  cases b <;>
    repeat' (first
      | trivial
      | exact hT | exact hT' | exact hU | exact hS | exact hI | exact hE | exact hF | exact hF' | exact hM | exact hN | exact hH | exact hV
      | (intro g; exfalso; revert g; simp; done)
      | (intro g; exfalso; simp only [decide_eq_true_eq] at g; omega)
      | intro _
      | apply And.intro
      | apply Exists.intro)

theorem lifted (os : Os) (started : os.Started) (H : Type) (enc : TypeId × Value → H) :
    ReturnsInHanded {} Try.checked os F_laws_FnExactWriteThing .any (Rows.fnExactWriteThingSpec.pre6 enc Try.prog Try.f8 Rows.fnExactWriteThingRow.domain false) (Rows.fnExactWriteThingSpec.post enc Try.prog Try.f8 false true false false) := by
  refine returnsInHanded_of_change (C := Try.checked) own started (by kernel_rfl) Try.func8
    (ChangeSpec.witness6 (enc := enc) (C := Try.checked) false ⟨#[], #[.slice none 0 0, .agg #[.int .i64 0, .int .i64 0, .int .i64 0], .int .i64 0, .slice none 0 0], []⟩ 8 (by kernel_rfl) (by kernel_rfl) (by kernel_rfl) (by kernel_rfl)) ?_
  intro W base args ds gs before hval0 hW hcnd _
  refine law_row (bs := [false, true, false, false]) (bt := 4) laidOut shOk rfl (by kernel_rfl) (by kernel_rfl) (by kernel_rfl) (fun ds h => ?_) (by kernel_rfl) (by kernel_rfl) ?_ hW hval0
  · match ds, h with
    | [_, _, _, _], _ => rfl
  · have e : Try.f8.params.toList = [48, 23, 3, 48] := by kernel_rfl
    rw [e]
    intro ds1 es1 he1 w1 ds2 es2 he2 w2 ds3 es3 he3 w3 ds4 es4 he4 w4
    have e1 : sh 48 = some [.sl [.int .u8]] := by kernel_rfl
    have e2 : sh 23 = some [.int .i64, .int .i64, .int .i64] := by kernel_rfl
    have e3 : sh 3 = some [.int .i64] := by kernel_rfl
    cases e1.symm.trans he1
    cases e2.symm.trans he2
    cases e3.symm.trans he3
    cases e1.symm.trans he4
    obtain ⟨d, r, rfl, h1, h2⟩ := cons_inv w1
    cases nil_inv h2
    obtain ⟨l, rfl, hl, -⟩ := byts_inv h1
    obtain ⟨t, rfl, ht⟩ := thing_inv w2
    obtain ⟨d, r, rfl, h3, h4⟩ := cons_inv w3
    cases nil_inv h4
    obtain ⟨o, rfl, ho⟩ := int_inv h3
    obtain ⟨d, r, rfl, h3, h4⟩ := cons_inv w4
    cases nil_inv h4
    obtain ⟨s, rfl, hs, -⟩ := byts_inv h3
    exact c_law hl hs ht ho
end WriteThing
theorem fnExactWriteThing_holds : Rows.FnExactWriteThingSaid :=
  OpenClaim.holds_of_wide F_laws_FnExactWriteThing Try.f8 rfl rfl rfl rfl rfl rfl rfl ⟨rfl, rfl, rfl, rfl, rfl⟩ rfl rfl rfl rfl rfl (by kernel_rfl) Try.func8 (by kernel_rfl)
    (of_decide_eq_true (by kernel_rfl)) (by unfold Func.isWrapper; first | (rw [if_pos (by decide +kernel)]; kernel_rfl) | (rw [if_neg (by decide +kernel)]; exact ⟨rfl, rfl⟩))
    (fun os started H enc _ => WriteThing.lifted os started H enc)
#print axioms fnExactWriteThing_holds
end Go.Proofs.Ytbmflnlppnkbaaa
