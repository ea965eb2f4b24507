/- The functions of the program, each with what suffices for its contract: printed by vgen.py, checked by the kernel. -/
import Derived.Test.YtlffmhhdgedddaaV0
namespace Go.Proofs.Ytlffmhhdgedddaa
open Go Go.Proofs.Ytlffmhhdgedddaa.DL
set_option maxRecDepth 100000
def g_spec_BytesOf : Cfg := { tb := tb, sg := sg, ann := fun _ => ([], []), pin := [], mv := [], io := io, dy := dy, wr := fun _ => [], gv := gv }
def vc_spec_BytesOf (a0 : Int) (a1 : Int) (a2 : Int) (a3 : Int) (a4 : Int) (a5 : Int) (Q : SV → List SV → Prop) : Prop :=
  ∃ (b : Bool), (CallD Try.prog F_spec_ConfOk [aS [iC a0, iC a1, iC a2, iC a3, iC a4, iC a5]] fun r _ => r = oneC (bC b)) ∧ (b = true → Q (oneC (iC (IntKind.i64.wrap (a0 * a1)))) [SV.dead]) ∧ (b = false → Q (oneC (iC 0)) [SV.dead])
theorem v_spec_BytesOf (a0 : Int) (a1 : Int) (a2 : Int) (a3 : Int) (a4 : Int) (a5 : Int) (Q : SV → List SV → Prop) : dwp Try.prog g_spec_BytesOf (bodyOf Try.f50) (retK g_spec_BytesOf Try.f50.results.toList 1 Q) ([.one (.agg [.sc (.int .i64 a0), .sc (.int .i64 a1), .sc (.int .i64 a2), .sc (.int .i64 a3), .sc (.int .i64 a4), .sc (.int .i64 a5)])] ++ List.replicate (Try.f50.ntmps - 1) .und) = vc_spec_BytesOf a0 a1 a2 a3 a4 a5 Q := by kernel_rfl
theorem k_spec_BytesOf {a0 : Int} {a1 : Int} {a2 : Int} {a3 : Int} {a4 : Int} {a5 : Int} {Q : SV → List SV → Prop} (h : vc_spec_BytesOf a0 a1 a2 a3 a4 a5 Q) : CallD Try.prog F_spec_BytesOf [.one (.agg [.sc (.int .i64 a0), .sc (.int .i64 a1), .sc (.int .i64 a2), .sc (.int .i64 a3), .sc (.int .i64 a4), .sc (.int .i64 a5)])] Q :=
  callD_of_dwp (C := g_spec_BytesOf) tbOk mixed (by kernel_rfl : Try.prog.funcs[50]? = some Try.f50) (code := bodyOf Try.f50) (by kernel_rfl) (by kernel_rfl) (fun t ht => by cases ht) ((v_spec_BytesOf a0 a1 a2 a3 a4 a5 Q).mpr h)
def g_impl_BytesOf : Cfg := { tb := tb, sg := sg, ann := fun _ => ([], []), pin := [], mv := [], io := io, dy := dy, wr := fun _ => [], gv := gv }
def vc_impl_BytesOf (a0 : Int) (a1 : Int) (a2 : Int) (a3 : Int) (a4 : Int) (a5 : Int) (Q : SV → List SV → Prop) : Prop :=
  ∃ (b : Bool), (CallD Try.prog F_impl_ConfOk [aS [iC a0, iC a1, iC a2, iC a3, iC a4, iC a5]] fun r _ => r = oneC (bC b)) ∧ (b = true → Q (oneC (iC (IntKind.i64.wrap (a0 * a1)))) [SV.dead]) ∧ (b = false → Q (oneC (iC 0)) [SV.dead])
theorem v_impl_BytesOf (a0 : Int) (a1 : Int) (a2 : Int) (a3 : Int) (a4 : Int) (a5 : Int) (Q : SV → List SV → Prop) : dwp Try.prog g_impl_BytesOf (bodyOf Try.f54) (retK g_impl_BytesOf Try.f54.results.toList 1 Q) ([.one (.agg [.sc (.int .i64 a0), .sc (.int .i64 a1), .sc (.int .i64 a2), .sc (.int .i64 a3), .sc (.int .i64 a4), .sc (.int .i64 a5)])] ++ List.replicate (Try.f54.ntmps - 1) .und) = vc_impl_BytesOf a0 a1 a2 a3 a4 a5 Q := by kernel_rfl
theorem k_impl_BytesOf {a0 : Int} {a1 : Int} {a2 : Int} {a3 : Int} {a4 : Int} {a5 : Int} {Q : SV → List SV → Prop} (h : vc_impl_BytesOf a0 a1 a2 a3 a4 a5 Q) : CallD Try.prog F_impl_BytesOf [.one (.agg [.sc (.int .i64 a0), .sc (.int .i64 a1), .sc (.int .i64 a2), .sc (.int .i64 a3), .sc (.int .i64 a4), .sc (.int .i64 a5)])] Q :=
  callD_of_dwp (C := g_impl_BytesOf) tbOk mixed (by kernel_rfl : Try.prog.funcs[54]? = some Try.f54) (code := bodyOf Try.f54) (by kernel_rfl) (by kernel_rfl) (fun t ht => by cases ht) ((v_impl_BytesOf a0 a1 a2 a3 a4 a5 Q).mpr h)
end Go.Proofs.Ytlffmhhdgedddaa
