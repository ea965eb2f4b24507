/- Contracts of small functions: an object of a room. -/
import Derived.Test.YthmpdfmdhfgaaaaHSa
import Derived.Test.YthmpdfmdhfgaaaaVHTo
namespace Go.Proofs.Ythmpdfmdhfgaaaa
open Go Go.Proofs.Ythmpdfmdhfgaaaa.DL
set_option maxRecDepth 100000

def thereB (n : Node) (r : Ref) : Bool := decide (n.st = 1) && (decide (n.ep = r.ep) && within r.no 0 (IntKind.i64.wrap (n.things.length - 1)))
def thingR (n : Node) (r : Ref) : Thing := if thereB n r then n.things.getD r.no.toNat ⟨0, 0, 0⟩ else ⟨0, 0, 0⟩
abbrev tThing (n : Node) (r : Ref) : SV := .tup [.agg [iC (thingR n r).pos, iC (thingR n r).len, iC (thingR n r).run], .cell (bC (thereB n r))]
theorem thing_no {n : Node} {r : Ref} (h : thereB n r = false) : SV.tup [RV.agg [iC 0, iC 0, iC 0], RV.cell (bC false)] = tThing n r := by
  simp only [tThing, thingR, h, Bool.false_eq_true, if_false]
theorem thing_yes {n : Node} {r : Ref} (h : thereB n r = true) (hi : r.no.toNat < n.things.length) : SV.tup [RV.agg [iC n.things[r.no.toNat].pos, iC n.things[r.no.toNat].len, iC n.things[r.no.toNat].run], RV.cell (bC true)] = tThing n r := by
  have e : n.things.getD r.no.toNat ⟨0, 0, 0⟩ = n.things[r.no.toNat] := by simp [List.getD_eq_getElem?_getD, hi]
  simp only [tThing, thingR, h, if_true, e]
theorem c_ThingOf {n : Node} {r : Ref} (hl : n.things.length ≤ M63) : CallD Try.prog F_impl_ThingOf [rNode n, refS r] fun x _ => x = tThing n r := by
  refine k_impl_ThingOf ?_
  unfold vc_impl_ThingOf
  unfold M63 at hl
  simp only [nI, n_things]
  refine ⟨fun g => thing_no ?_, fun g1 => ⟨fun g => thing_no ?_, fun g2 => ⟨_, c_within _ _ _, fun g3 => ?_, fun g => thing_no ?_⟩⟩⟩
  · have : decide (n.st = 1) = false := by simpa using g
    simp only [thereB, this, Bool.false_and]
  · have : decide (n.ep = r.ep) = false := by simpa using g
    simp only [thereB, this, Bool.false_and, Bool.and_false]
  · have e : thereB n r = true := by
      have e1 : decide (n.st = 1) = true := by simpa using g1
      have e2 : decide (n.ep = r.ep) = true := by simpa using g2
      simp only [thereB, e1, e2, g3, Bool.and_self]
    have g4 := g3
    simp only [within, Bool.and_eq_true, decide_eq_true_eq, wrap_id (n := (n.things.length : Int) - 1) (by omega) (by omega)] at g4
    have hi : r.no.toNat < n.things.length := by omega
    simp only [drop_things hi, hdD_cons, List.tail_cons, isI_iV, asI_iV]
    exact ⟨by omega, by omega, by simp, trivial, trivial, trivial, thing_yes e hi⟩
  · simp only [thereB, g, Bool.and_false]
theorem c_ThingOfS {n : Node} {r : Ref} (hl : n.things.length ≤ M63) : CallD Try.prog F_spec_ThingOf [rNode n, refS r] fun x _ => x = tThing n r := by
  refine k_spec_ThingOf ?_
  unfold vc_spec_ThingOf
  unfold M63 at hl
  simp only [nI, n_things]
  refine ⟨fun g => thing_no ?_, fun g1 => ⟨fun g => thing_no ?_, fun g2 => ⟨_, c_l1In _ _ _, fun g3 => ?_, fun g => thing_no ?_⟩⟩⟩
  · have : decide (n.st = 1) = false := by simpa using g
    simp only [thereB, this, Bool.false_and]
  · have : decide (n.ep = r.ep) = false := by simpa using g
    simp only [thereB, this, Bool.false_and, Bool.and_false]
  · have e : thereB n r = true := by
      have e1 : decide (n.st = 1) = true := by simpa using g1
      have e2 : decide (n.ep = r.ep) = true := by simpa using g2
      simp only [thereB, e1, e2, g3, Bool.and_self]
    have g4 := g3
    simp only [within, Bool.and_eq_true, decide_eq_true_eq, wrap_id (n := (n.things.length : Int) - 1) (by omega) (by omega)] at g4
    have hi : r.no.toNat < n.things.length := by omega
    simp only [drop_things hi, hdD_cons, List.tail_cons, isI_iV, asI_iV]
    exact ⟨by omega, by omega, by simp, trivial, trivial, trivial, thing_yes e hi⟩
  · simp only [thereB, g, Bool.and_false]

end Go.Proofs.Ythmpdfmdhfgaaaa
