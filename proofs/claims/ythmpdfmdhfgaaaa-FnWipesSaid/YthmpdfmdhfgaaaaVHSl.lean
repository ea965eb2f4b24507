/- The functions of the program, each with what suffices for its contract: printed by vgen.py, checked by the kernel. -/
import Derived.Test.YthmpdfmdhfgaaaaV0
namespace Go.Proofs.Ythmpdfmdhfgaaaa
open Go Go.Proofs.Ythmpdfmdhfgaaaa.DL
set_option maxRecDepth 100000
def g_impl_SlicesOf : Cfg := { tb := tb, sg := sg, ann := fun _ => ([], []), pin := [], mv := [], io := io, dy := dy, wr := fun _ => [], gv := gv }
def vc_impl_SlicesOf (_a0 : Int) (_a1 : Int) (_a2 : Int) (_a3 : Int) (a4 : Int) (_a5 : Int) (b : Int) (Q : SV → List SV → Prop) : Prop :=
  ∃ (n : Int), (CallD Try.prog F_impl_CeilDiv [oneC (iC b), oneC (iC a4)] fun r _ => r = oneC (iC n)) ∧ Q (oneC (iC n)) [SV.dead, SV.dead]
theorem v_impl_SlicesOf (a0 : Int) (a1 : Int) (a2 : Int) (a3 : Int) (a4 : Int) (a5 : Int) (b : Int) (Q : SV → List SV → Prop) : dwp Try.prog g_impl_SlicesOf (bodyOf Try.f36) (retK g_impl_SlicesOf Try.f36.results.toList 2 Q) ([.one (.agg [.sc (.int .i64 a0), .sc (.int .i64 a1), .sc (.int .i64 a2), .sc (.int .i64 a3), .sc (.int .i64 a4), .sc (.int .i64 a5)]), .one (.cell (.sc (.int .i64 b)))] ++ List.replicate (Try.f36.ntmps - 2) .und) = vc_impl_SlicesOf a0 a1 a2 a3 a4 a5 b Q := by kernel_rfl
theorem k_impl_SlicesOf {a0 : Int} {a1 : Int} {a2 : Int} {a3 : Int} {a4 : Int} {a5 : Int} {b : Int} {Q : SV → List SV → Prop} (h : vc_impl_SlicesOf a0 a1 a2 a3 a4 a5 b Q) : CallD Try.prog F_impl_SlicesOf [.one (.agg [.sc (.int .i64 a0), .sc (.int .i64 a1), .sc (.int .i64 a2), .sc (.int .i64 a3), .sc (.int .i64 a4), .sc (.int .i64 a5)]), .one (.cell (.sc (.int .i64 b)))] Q :=
  callD_of_dwp (C := g_impl_SlicesOf) tbOk mixed (by kernel_rfl : Try.prog.funcs[36]? = some Try.f36) (code := bodyOf Try.f36) (by kernel_rfl) (by kernel_rfl) (fun t ht => by cases ht) ((v_impl_SlicesOf a0 a1 a2 a3 a4 a5 b Q).mpr h)
def g_spec_SlicesOf : Cfg := { tb := tb, sg := sg, ann := fun _ => ([], []), pin := [], mv := [], io := io, dy := dy, wr := fun _ => [], gv := gv }
def vc_spec_SlicesOf (_a0 : Int) (_a1 : Int) (_a2 : Int) (_a3 : Int) (a4 : Int) (_a5 : Int) (b : Int) (Q : SV → List SV → Prop) : Prop :=
  ∃ (n : Int), (CallD Try.prog F_spec_CeilDiv [oneC (iC b), oneC (iC a4)] fun r _ => r = oneC (iC n)) ∧ Q (oneC (iC n)) [SV.dead, SV.dead]
theorem v_spec_SlicesOf (a0 : Int) (a1 : Int) (a2 : Int) (a3 : Int) (a4 : Int) (a5 : Int) (b : Int) (Q : SV → List SV → Prop) : dwp Try.prog g_spec_SlicesOf (bodyOf Try.f209) (retK g_spec_SlicesOf Try.f209.results.toList 2 Q) ([.one (.agg [.sc (.int .i64 a0), .sc (.int .i64 a1), .sc (.int .i64 a2), .sc (.int .i64 a3), .sc (.int .i64 a4), .sc (.int .i64 a5)]), .one (.cell (.sc (.int .i64 b)))] ++ List.replicate (Try.f209.ntmps - 2) .und) = vc_spec_SlicesOf a0 a1 a2 a3 a4 a5 b Q := by kernel_rfl
theorem k_spec_SlicesOf {a0 : Int} {a1 : Int} {a2 : Int} {a3 : Int} {a4 : Int} {a5 : Int} {b : Int} {Q : SV → List SV → Prop} (h : vc_spec_SlicesOf a0 a1 a2 a3 a4 a5 b Q) : CallD Try.prog F_spec_SlicesOf [.one (.agg [.sc (.int .i64 a0), .sc (.int .i64 a1), .sc (.int .i64 a2), .sc (.int .i64 a3), .sc (.int .i64 a4), .sc (.int .i64 a5)]), .one (.cell (.sc (.int .i64 b)))] Q :=
  callD_of_dwp (C := g_spec_SlicesOf) tbOk mixed (by kernel_rfl : Try.prog.funcs[209]? = some Try.f209) (code := bodyOf Try.f209) (by kernel_rfl) (by kernel_rfl) (fun t ht => by cases ht) ((v_spec_SlicesOf a0 a1 a2 a3 a4 a5 b Q).mpr h)
end Go.Proofs.Ythmpdfmdhfgaaaa
