/- The program's ThingOf returns what the reference's ThingOf returns, for all arguments: the law FnExactThingOf says true of every node and reference. No conditions. -/
import Derived.Test.YtbmflnlppnkbaaaHD
import Derived.Test.YtbmflnlppnkbaaaRows
import Derived.Test.YtbmflnlppnkbaaaChecked
import Derived.ProofKit
namespace Go.Proofs.Ytbmflnlppnkbaaa
open Go Go.Proofs.Ytbmflnlppnkbaaa.DL
open Go.ChangeShapes Go.WideShapes Go.ChangeAt Go.RowKit
set_option maxRecDepth 100000

namespace ThingOf
def there (n : Node) (r : Ref) : Bool := decide (n.st = 1) && (decide (n.ep = r.ep) && within r.no 0 (IntKind.i64.wrap (n.things.length - 1)))
def thing (n : Node) (r : Ref) : Thing := if there n r then n.things.getD r.no.toNat ⟨0, 0, 0⟩ else ⟨0, 0, 0⟩
abbrev res (n : Node) (r : Ref) : SV := .tup [.agg [iC (thing n r).pos, iC (thing n r).len, iC (thing n r).run], .cell (bC (there n r))]
theorem res_no {n : Node} {r : Ref} (h : there n r = false) : SV.tup [RV.agg [iC 0, iC 0, iC 0], RV.cell (bC false)] = res n r := by
  simp only [res, thing, h, Bool.false_eq_true, if_false]
theorem res_yes {n : Node} {r : Ref} (h : there n r = true) (hi : r.no.toNat < n.things.length) : SV.tup [RV.agg [iC n.things[r.no.toNat].pos, iC n.things[r.no.toNat].len, iC n.things[r.no.toNat].run], RV.cell (bC true)] = res n r := by
  have e : n.things.getD r.no.toNat ⟨0, 0, 0⟩ = n.things[r.no.toNat] := by simp [List.getD_eq_getElem?_getD, hi]
  simp only [res, thing, h, if_true, e]
theorem c_impl {n : Node} {r : Ref} (hl : n.things.length ≤ M63) : CallD Try.prog F_impl_ThingOf [rNode n, refS r] fun x _ => x = res n r := by
  refine k_impl_ThingOf ?_
  unfold vc_impl_ThingOf
  unfold M63 at hl
  simp only [nI, n_things]
  refine ⟨fun g => res_no ?_, fun g1 => ⟨fun g => res_no ?_, fun g2 => ⟨_, c_within _ _ _, fun g3 => ?_, fun g => res_no ?_⟩⟩⟩
  · have : decide (n.st = 1) = false := by simpa using g
    simp only [there, this, Bool.false_and]
  · have : decide (n.ep = r.ep) = false := by simpa using g
    simp only [there, this, Bool.false_and, Bool.and_false]
  · have e : there n r = true := by
      have e1 : decide (n.st = 1) = true := by simpa using g1
      have e2 : decide (n.ep = r.ep) = true := by simpa using g2
      simp only [there, e1, e2, g3, Bool.and_self]
    have g4 := g3
    simp only [within, Bool.and_eq_true, decide_eq_true_eq, wrap_id (n := (n.things.length : Int) - 1) (by omega) (by omega)] at g4
    have hi : r.no.toNat < n.things.length := by omega
    simp only [drop_things hi, hdD_cons, List.tail_cons, isI_iV, asI_iV]
    exact ⟨by omega, by omega, by simp, trivial, trivial, trivial, res_yes e hi⟩
  · simp only [there, g, Bool.and_false]
theorem c_spec {n : Node} {r : Ref} (hl : n.things.length ≤ M63) : CallD Try.prog F_spec_ThingOf [rNode n, refS r] fun x _ => x = res n r := by
  refine k_spec_ThingOf ?_
  unfold vc_spec_ThingOf
  unfold M63 at hl
  simp only [nI, n_things]
  refine ⟨fun g => res_no ?_, fun g1 => ⟨fun g => res_no ?_, fun g2 => ⟨_, c_l1In _ _ _, fun g3 => ?_, fun g => res_no ?_⟩⟩⟩
  · have : decide (n.st = 1) = false := by simpa using g
    simp only [there, this, Bool.false_and]
  · have : decide (n.ep = r.ep) = false := by simpa using g
    simp only [there, this, Bool.false_and, Bool.and_false]
  · have e : there n r = true := by
      have e1 : decide (n.st = 1) = true := by simpa using g1
      have e2 : decide (n.ep = r.ep) = true := by simpa using g2
      simp only [there, e1, e2, g3, Bool.and_self]
    have g4 := g3
    simp only [within, Bool.and_eq_true, decide_eq_true_eq, wrap_id (n := (n.things.length : Int) - 1) (by omega) (by omega)] at g4
    have hi : r.no.toNat < n.things.length := by omega
    simp only [drop_things hi, hdD_cons, List.tail_cons, isI_iV, asI_iV]
    exact ⟨by omega, by omega, by simp, trivial, trivial, trivial, res_yes e hi⟩
  · simp only [there, g, Bool.and_false]
theorem c_law {n : Node} (hn : n.ok) (r : Ref) : CallD Try.prog F_laws_FnExactThingOf [rNode n, refS r] fun x _ => x = bS true := by
  refine k_laws_FnExactThingOf ?_
  unfold vc_laws_FnExactThingOf
  refine ⟨_, c_szNode hn, fun g => rfl, fun g => ?_⟩
  have hs : n.sz ≤ 1048576 := Node.left_sz (by simpa using g)
  have hl : n.things.length ≤ M63 := hn.2.2.2.2.2.2.2.2.2.2.2.1.1
  have hN := c_toNode hs
  have hR := c_toRef r
  have hE := c_eqNode_self hs
  refine ⟨_, _, _, _, _, _, _, _, _, _, _, _, _, hN, _, _, _, _, hR, _, _, _, _, c_spec hl, fun g1 => ?_, fun g1 => ?_⟩
  · refine ⟨_, _, _, _, _, _, _, _, _, _, _, _, _, hN, _, _, _, _, hR, _, _, _, _, c_impl hl, fun g2 => ?_, fun g2 => ?_⟩
    · refine ⟨_, c_eqThing _ _, fun g3 => ⟨fun g4 => absurd g4 (by simp), fun _ => ?_⟩, fun g3 => absurd g3 (by simp)⟩
      refine ⟨_, _, _, _, _, _, _, _, _, _, _, _, _, hN, _, hE, fun _ => rfl, fun g => absurd g (by simp)⟩
    · exact absurd (g1.symm.trans g2) (by simp)
  · refine ⟨_, _, _, _, _, _, _, _, _, _, _, _, _, hN, _, _, _, _, hR, _, _, _, _, c_impl hl, fun g2 => ?_, fun g2 => ?_⟩
    · exact absurd (g1.symm.trans g2) (by simp)
    · refine ⟨_, c_eqThing _ _, fun g3 => ⟨fun g4 => absurd g4 (by simp), fun _ => ?_⟩, fun g3 => absurd g3 (by simp)⟩
      refine ⟨_, _, _, _, _, _, _, _, _, _, _, _, _, hN, _, hE, fun _ => rfl, fun g => absurd g (by simp)⟩

theorem lifted (os : Os) (started : os.Started) (H : Type) (enc : TypeId × Value → H) :
    ReturnsInHanded {} Try.checked os F_laws_FnExactThingOf .any (Rows.fnExactThingOfSpec.pre6 enc Try.prog Try.f11 Rows.fnExactThingOfRow.domain false) (Rows.fnExactThingOfSpec.post enc Try.prog Try.f11 false true false false) := by
  refine returnsInHanded_of_change (C := Try.checked) own started (by kernel_rfl) Try.func11
    (ChangeSpec.witness6 (enc := enc) (C := Try.checked) false ⟨#[], #[.agg #[.int .i64 0, .int .i64 0, .int .i64 0, .int .i64 0, .int .i64 0, .int .i64 0, .int .i64 0, .int .i64 0, .slice none 0 0, .int .i64 0, .int .i64 0, .slice none 0 0, .slice none 0 0], .agg #[.int .i64 0, .int .i64 0, .int .i64 0, .int .i64 0]], []⟩ 8 (by kernel_rfl) (by kernel_rfl) (by kernel_rfl) (by kernel_rfl)) ?_
  intro W base args ds gs before hval0 hW hcnd _
  refine law_row (bs := [true, true]) (bt := 4) laidOut shOk rfl (by kernel_rfl) (by kernel_rfl) (by kernel_rfl) (fun ds h => ?_) (by kernel_rfl) (by kernel_rfl) ?_ hW hval0
  · match ds, h with
    | [_, _], _ => rfl
  · have e : Try.f11.params.toList = [65, 69] := by kernel_rfl
    rw [e]
    intro ds1 es1 he1 w1 ds2 es2 he2 w2
    have e65 : sh 65 = some [.int .i64, .int .i64, .int .i64, .int .i64, .int .i64, .int .i64, .int .i64, .int .i64, .sl [.int .i64], .int .i64, .int .i64, .sl [.int .i64, .int .i64, .int .i64], .sl [.int .i64]] := by kernel_rfl
    have e69 : sh 69 = some [.int .i64, .int .i64, .int .i64, .int .i64] := by kernel_rfl
    cases e65.symm.trans he1
    cases e69.symm.trans he2
    obtain ⟨n, rfl, hn⟩ := node_inv w1
    obtain ⟨r, rfl, hr⟩ := ref_inv w2
    exact c_law hn r
end ThingOf
theorem fnExactThingOf_holds : Rows.FnExactThingOfSaid :=
  OpenClaim.holds_of_wide F_laws_FnExactThingOf Try.f11 rfl rfl rfl rfl rfl rfl rfl ⟨rfl, rfl, rfl, rfl, rfl⟩ rfl rfl rfl rfl rfl (by kernel_rfl) Try.func11 (by kernel_rfl)
    (of_decide_eq_true (by kernel_rfl)) (by unfold Func.isWrapper; first | (rw [if_pos (by decide +kernel)]; kernel_rfl) | (rw [if_neg (by decide +kernel)]; exact ⟨rfl, rfl⟩))
    (fun os started H enc _ => ThingOf.lifted os started H enc)
#print axioms fnExactThingOf_holds
end Go.Proofs.Ytbmflnlppnkbaaa
