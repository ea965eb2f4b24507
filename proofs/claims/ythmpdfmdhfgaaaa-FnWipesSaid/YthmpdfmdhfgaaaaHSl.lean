/- Contracts of small functions: slices of bytes. -/
import Derived.Test.YthmpdfmdhfgaaaaHDa
import Derived.Test.YthmpdfmdhfgaaaaVHSl
namespace Go.Proofs.Ythmpdfmdhfgaaaa
open Go Go.Proofs.Ythmpdfmdhfgaaaa.DL
set_option maxRecDepth 100000

theorem c_SlicesOf (c : Conf) (n : Int) : CallD Try.prog F_impl_SlicesOf [confS c, iS n] fun r _ => r = iS (ceilDiv n c.slice) := k_impl_SlicesOf ⟨_, c_CeilDiv _ _, rfl⟩
theorem c_SlicesOfS (c : Conf) (n : Int) : CallD Try.prog F_spec_SlicesOf [confS c, iS n] fun r _ => r = iS (ceilDiv n c.slice) := k_spec_SlicesOf ⟨_, c_CeilDivS _ _, rfl⟩
end Go.Proofs.Ythmpdfmdhfgaaaa
