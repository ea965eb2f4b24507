/- The functions of the program, each with what suffices for its contract: printed by vgen.py, checked by the kernel. -/
import Derived.Test.YthmpdfmdhfgaaaaV0
namespace Go.Proofs.Ythmpdfmdhfgaaaa
open Go Go.Proofs.Ythmpdfmdhfgaaaa.DL
set_option maxRecDepth 100000
def g_impl_within : Cfg := { tb := tb, sg := sg, ann := fun _ => ([], []), pin := [], mv := [], io := io, dy := dy, wr := fun _ => [], gv := gv }
def vc_impl_within (a : Int) (b : Int) (c : Int) (Q : SV → List SV → Prop) : Prop :=
  (decide (b ≤ a) = true → (decide (a ≤ c) = true → Q (oneC (bC true)) [SV.dead, SV.dead, SV.dead]) ∧ (decide (a ≤ c) = false → Q (oneC (bC false)) [SV.dead, SV.dead, SV.dead])) ∧ (decide (b ≤ a) = false → Q (oneC (bC false)) [SV.dead, SV.dead, SV.dead])
theorem v_impl_within (a : Int) (b : Int) (c : Int) (Q : SV → List SV → Prop) : dwp Try.prog g_impl_within (bodyOf Try.f146) (retK g_impl_within Try.f146.results.toList 3 Q) ([.one (.cell (.sc (.int .i64 a))), .one (.cell (.sc (.int .i64 b))), .one (.cell (.sc (.int .i64 c)))] ++ List.replicate (Try.f146.ntmps - 3) .und) = vc_impl_within a b c Q := by kernel_rfl
theorem k_impl_within {a : Int} {b : Int} {c : Int} {Q : SV → List SV → Prop} (h : vc_impl_within a b c Q) : CallD Try.prog F_impl_within [.one (.cell (.sc (.int .i64 a))), .one (.cell (.sc (.int .i64 b))), .one (.cell (.sc (.int .i64 c)))] Q :=
  callD_of_dwp (C := g_impl_within) tbOk mixed (by kernel_rfl : Try.prog.funcs[146]? = some Try.f146) (code := bodyOf Try.f146) (by kernel_rfl) (by kernel_rfl) (fun t ht => by cases ht) ((v_impl_within a b c Q).mpr h)
def g_slices_Clone_int : Cfg := { tb := tb, sg := sg, ann := fun _ => ([], []), pin := [], mv := [], io := io, dy := dy, wr := fun _ => [], gv := gv }
def vc_slices_Clone_int (a : List DV) (Q : SV → List SV → Prop) : Prop :=
  (a = [] → Q (oneC (CV.own (DV.sl 1 []))) [SV.dead]) ∧ AllVal a ∧ ((DV.sl 1 []).n + (DV.sl 1 a).n) * 8 ≤ 140737488355328 ∧ (DV.sl 1 []).n + (DV.sl 1 a).n ≤ 140737488355328 ∧ Q (oneC (CV.own (DV.sl 1 ([] ++ a)))) [SV.dead]
theorem v_slices_Clone_int (a : List DV) (Q : SV → List SV → Prop) : dwp Try.prog g_slices_Clone_int (bodyOf Try.f205) (retK g_slices_Clone_int Try.f205.results.toList 1 Q) ([.one (.cell (.rd (.sl 1 a)))] ++ List.replicate (Try.f205.ntmps - 1) .und) = vc_slices_Clone_int a Q := by kernel_rfl
theorem k_slices_Clone_int {a : List DV} {Q : SV → List SV → Prop} (h : vc_slices_Clone_int a Q) : CallD Try.prog F_slices_Clone_int [.one (.cell (.rd (.sl 1 a)))] Q :=
  callD_of_dwp (C := g_slices_Clone_int) tbOk mixed (by kernel_rfl : Try.prog.funcs[205]? = some Try.f205) (code := bodyOf Try.f205) (by kernel_rfl) (by kernel_rfl) (fun t ht => by cases ht) ((v_slices_Clone_int a Q).mpr h)
end Go.Proofs.Ythmpdfmdhfgaaaa
