/- Texts joined: Vmk Vml Vmn. -/
import Derived.MapKept
import Derived.Test.YtbakhfiibjkifaaGreatMc
set_option linter.all false
/- The abstract machine: arrays of numbers, elements of several cells, maps: laws of operations. -/
namespace Go.Proofs.YtbakhfiibjkifaaGreat
open Go.RowKit
section
variable{ro:Ro}{a1:Nat}{a2:Bool}{a3:List Value}{a5:List (Nat×Nat)}{a6:Option IntKind}{a7 a8:Bool}{a9 a10:Option (Nat×Nat)}
abbrev n3(a b c:Int):AV:= .agg [i64 a,i64 b,i64 c]
end
section
variable{P:Program}{ti:Nat→Option TI}{w0:World}{A0:Nat→Prop}{F0:List Nat}{c:Cx}{Φ:Nat→Nat→List Nat}
end
abbrev T3:=Int×Int×Int
def keyV(t:T3):Value:= .agg #[.int .i64 t.1,.int .i64 t.2.1,.int .i64 t.2.2]
def esK(ks:List T3):List (Value×Value):=ks.map fun t=>(keyV t,.bool true)
def n3T(t:T3):AV:=n3 t.1 t.2.1 t.2.2
structure MTy(P:Program)(mt kt et e:Nat):Prop where mkM::
 mm:P.underlying mt=some (.map kt et)
 mk:P.underlying kt=some (.array 3 e)
 me:P.underlying e=some (.int .i64)
 mi: ∃inf,P.info? e=some inf∧inf.size=1
 mz: ∀w,(zeroValue et).run P w= .ok (.bool false) w
section
variable{P:Program}{mt kt et e:Nat}(M:MTy P mt kt et e)
include M
def fk(t:T3):List T3→Nat→Option (Nat×Value)
 | [],_=>none
 |u::ks,i=>if t=u then some (i,.bool true)else fk t ks (i+1)
omit M in
omit M in
def addK(ks:List T3)(t:T3):List T3:=if t∈ks then ks else ks++ [t]
omit M in
end
section
variable{P:Program}{mt kt et e:Nat}
end
end Go.Proofs.YtbakhfiibjkifaaGreat
