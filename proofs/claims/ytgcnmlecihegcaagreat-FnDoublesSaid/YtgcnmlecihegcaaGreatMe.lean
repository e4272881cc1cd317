/- Texts joined: K4a. -/
import Derived.Test.YtgcnmlecihegcaaGreatMd
set_option linter.all false
/- The least primitive number, by the kernel. -/
namespace Go.Proofs.YtgcnmlecihegcaaGreat
open Go.RowKit
theorem run100 : callF Tryz.prog ti0 KP (fun _ => false) 20 127 [] = some (i64 38) := by kernel_rfl
theorem callF_okG {P : Program} {K : Nat → List AV → Option AV} (hm : P.follows .mixedOrders = true) (hK : ∀ f args r, K f args = some r → CallOK P f args r) {n f : Nat} {args : List AV} {r : AV} (h : callF P (tiG P) K (fun _ => false) n f args = some r) : CallOK P f args r :=
 callF_ok (tiG_ok P) hm hK h
theorem c100 : CallOK Tryz.prog 127 [] (i64 38) := callF_okG mixed0 KP_ok run100
end Go.Proofs.YtgcnmlecihegcaaGreat
