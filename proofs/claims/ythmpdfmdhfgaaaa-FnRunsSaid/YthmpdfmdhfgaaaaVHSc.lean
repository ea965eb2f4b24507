/- The functions of the program, each with what suffices for its contract: printed by vgen.py, checked by the kernel. -/
import Derived.Test.YthmpdfmdhfgaaaaV0
namespace Go.Proofs.Ythmpdfmdhfgaaaa
open Go Go.Proofs.Ythmpdfmdhfgaaaa.DL
set_option maxRecDepth 100000
def g_laws_in : Cfg := { tb := tb, sg := sg, ann := fun | 2 => ([5], [0, 1]) | _ => ([], []), pin := [], mv := [], io := io, dy := dy, wr := fun _ => [], gv := gv }
def vc_laws_in (a : List DV) (b : Int) (Q : SV → List SV → Prop) : Prop :=
  ∃ (I : Int → Nat → Prop), (∃ (n : Nat), I 0 n) ∧ ∀ (n : Int) (n_1 : Nat), I n n_1 → (decide (n < nI (DV.sl 1 a).n) = true → 0 ≤ n ∧ n < nI (DV.sl 1 a).n ∧ 1 ≤ (List.drop (n.toNat * 1) a).length ∧ DV.isI IntKind.i64 (hdD (List.drop (n.toNat * 1) a)) ∧ (decide ((hdD (List.drop (n.toNat * 1) a)).asI = b) = true → Q (oneC (bC true)) [SV.dead, SV.dead]) ∧ (decide ((hdD (List.drop (n.toNat * 1) a)).asI = b) = false → (oneC (CV.rd (DV.sl 1 a)) = oneC (CV.rd (DV.sl 1 a)) ∧ oneC (iC b) = oneC (iC b)) ∧ ∃ (m : Nat), m < n_1 ∧ I (IntKind.i64.wrap (n + 1)) m)) ∧ (decide (n < nI (DV.sl 1 a).n) = false → Q
  (oneC (bC false)) [SV.dead, SV.dead])
theorem v_laws_in (a : List DV) (b : Int) (Q : SV → List SV → Prop) : dwp Try.prog g_laws_in (bodyOf Try.f27) (retK g_laws_in Try.f27.results.toList 2 Q) ([.one (.cell (.rd (.sl 1 a))), .one (.cell (.sc (.int .i64 b)))] ++ List.replicate (Try.f27.ntmps - 2) .und) = vc_laws_in a b Q := by kernel_rfl
theorem k_laws_in {a : List DV} {b : Int} {Q : SV → List SV → Prop} (h : vc_laws_in a b Q) : CallD Try.prog F_laws_in [.one (.cell (.rd (.sl 1 a))), .one (.cell (.sc (.int .i64 b)))] Q :=
  callD_of_dwp (C := g_laws_in) tbOk mixed (by kernel_rfl : Try.prog.funcs[27]? = some Try.f27) (code := bodyOf Try.f27) (by kernel_rfl) (by kernel_rfl) (fun t ht => by cases ht) ((v_laws_in a b Q).mpr h)
end Go.Proofs.Ythmpdfmdhfgaaaa
