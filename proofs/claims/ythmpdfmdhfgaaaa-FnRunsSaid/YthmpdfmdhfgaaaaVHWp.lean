/- The functions of the program, each with what suffices for its contract: printed by vgen.py, checked by the kernel. -/
import Derived.Test.YthmpdfmdhfgaaaaV0
namespace Go.Proofs.Ythmpdfmdhfgaaaa
open Go Go.Proofs.Ythmpdfmdhfgaaaa.DL
set_option maxRecDepth 100000
def g_impl_copyPool : Cfg := { tb := tb, sg := sg, ann := fun _ => ([], []), pin := [], mv := [], io := io, dy := dy, wr := fun _ => [], gv := gv }
def vc_impl_copyPool (a0 : List DV) (a1 : List DV) (a2 : List DV) (Q : SV → List SV → Prop) : Prop :=
  ∃ (es : List DV), (CallD Try.prog F_slices_Clone_byte [oneC (CV.rd (DV.sl 1 a0))] fun r _ => r = oneC (CV.own (DV.sl 1 es))) ∧ ∃ (es_1 : List DV), (CallD Try.prog F_slices_Clone_int [oneC (CV.rd (DV.sl 1 a1))] fun r _ => r = oneC (CV.own (DV.sl 1 es_1))) ∧ ∃ (es_2 : List DV), (CallD Try.prog F_slices_Clone_int [oneC (CV.rd (DV.sl 1 a2))] fun r _ => r = oneC (CV.own (DV.sl 1 es_2))) ∧ Q (aS [CV.own (DV.sl 1 es), CV.own (DV.sl 1 es_1), CV.own (DV.sl 1 es_2)]) [SV.dead]
theorem v_impl_copyPool (a0 : List DV) (a1 : List DV) (a2 : List DV) (Q : SV → List SV → Prop) : dwp Try.prog g_impl_copyPool (bodyOf Try.f135) (retK g_impl_copyPool Try.f135.results.toList 1 Q) ([.one (.agg [.rd (.sl 1 a0), .rd (.sl 1 a1), .rd (.sl 1 a2)])] ++ List.replicate (Try.f135.ntmps - 1) .und) = vc_impl_copyPool a0 a1 a2 Q := by kernel_rfl
theorem k_impl_copyPool {a0 : List DV} {a1 : List DV} {a2 : List DV} {Q : SV → List SV → Prop} (h : vc_impl_copyPool a0 a1 a2 Q) : CallD Try.prog F_impl_copyPool [.one (.agg [.rd (.sl 1 a0), .rd (.sl 1 a1), .rd (.sl 1 a2)])] Q :=
  callD_of_dwp (C := g_impl_copyPool) tbOk mixed (by kernel_rfl : Try.prog.funcs[135]? = some Try.f135) (code := bodyOf Try.f135) (by kernel_rfl) (by kernel_rfl) (fun t ht => by cases ht) ((v_impl_copyPool a0 a1 a2 Q).mpr h)
def g_spec_l4Copy : Cfg := { tb := tb, sg := sg, ann := fun _ => ([], []), pin := [], mv := [], io := io, dy := dy, wr := fun | 1 => [(3, 3, [3]), (7, 7, [7])] | _ => [], gv := gv }
def vc_spec_l4Copy (a0 : List DV) (a1 : List DV) (a2 : List DV) (Q : SV → List SV → Prop) : Prop :=
  AllVal a0 ∧ ((DV.sl 1 []).n + (DV.sl 1 a0).n) * 1 ≤ 140737488355328 ∧ (DV.sl 1 []).n + (DV.sl 1 a0).n ≤ 140737488355328 ∧ AllVal a1 ∧ ((DV.sl 1 []).n + (DV.sl 1 a1).n) * 8 ≤ 140737488355328 ∧ (DV.sl 1 []).n + (DV.sl 1 a1).n ≤ 140737488355328 ∧ AllVal a2 ∧ ((DV.sl 1 []).n + (DV.sl 1 a2).n) * 8 ≤ 140737488355328 ∧ (DV.sl 1 []).n + (DV.sl 1 a2).n ≤ 140737488355328 ∧ Q (aS [CV.own (DV.sl 1 ([] ++ a0)), CV.own (DV.sl 1 ([] ++ a1)), CV.own (DV.sl 1 ([] ++ a2))]) [SV.dead]
theorem v_spec_l4Copy (a0 : List DV) (a1 : List DV) (a2 : List DV) (Q : SV → List SV → Prop) : dwp Try.prog g_spec_l4Copy (bodyOf Try.f141) (retK g_spec_l4Copy Try.f141.results.toList 1 Q) ([.one (.agg [.rd (.sl 1 a0), .rd (.sl 1 a1), .rd (.sl 1 a2)])] ++ List.replicate (Try.f141.ntmps - 1) .und) = vc_spec_l4Copy a0 a1 a2 Q := by kernel_rfl
theorem k_spec_l4Copy {a0 : List DV} {a1 : List DV} {a2 : List DV} {Q : SV → List SV → Prop} (h : vc_spec_l4Copy a0 a1 a2 Q) : CallD Try.prog F_spec_l4Copy [.one (.agg [.rd (.sl 1 a0), .rd (.sl 1 a1), .rd (.sl 1 a2)])] Q :=
  callD_of_dwp (C := g_spec_l4Copy) tbOk mixed (by kernel_rfl : Try.prog.funcs[141]? = some Try.f141) (code := bodyOf Try.f141) (by kernel_rfl) (by kernel_rfl) (fun t ht => by cases ht) ((v_spec_l4Copy a0 a1 a2 Q).mpr h)
end Go.Proofs.Ythmpdfmdhfgaaaa
