/- Texts joined: K4a. -/
import Derived.Test.YtgpbbkmnhakojaaMd
set_option linter.all false
/- The least primitive number, by the kernel. -/
namespace Go.Proofs.Ytgpbbkmnhakojaa
open Go.RowKit
theorem callF_okG {P : Program} {K : Nat → List AV → Option AV} (hm : P.follows .mixedOrders = true) (hK : ∀ f args r, K f args = some r → CallOK P f args r) {n f : Nat} {args : List AV} {r : AV} (h : callF P (tiG P) K (fun _ => false) n f args = some r) : CallOK P f args r :=
  callF_ok (tiG_ok P) hm hK h
end Go.Proofs.Ytgpbbkmnhakojaa
