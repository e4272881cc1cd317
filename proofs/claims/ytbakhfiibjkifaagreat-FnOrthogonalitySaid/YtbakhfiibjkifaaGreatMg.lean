/- Texts joined: F6 H1 G1 G2 G3 G6 H2 H3 H4 I1. -/
import Derived.Test.YtbakhfiibjkifaaGreatMh
set_option linter.all false
/- The reference's and the program's data. -/
namespace Go.Proofs.YtbakhfiibjkifaaGreat
open Go.RowKit
set_option maxRecDepth 1000000
def Sta2(S:List (List Int))(T:List Int)(i j:Nat):Prop:=atI (row S i) j=atI (row S j) i∧atI (row S 0) i≠0∧atI T i≠0∧atI (row S 0) 0=1∧atI T 0=1
open Classical in
noncomputable def DF(S:List (List Int))(T:List Int):Int:=
 if ¬StaP S T then 0 else if whl S T.length=0 then 1 else if ¬CjP S T then 2 else if ¬TurP S T then 3 else if ¬RingP (cubeL (nmE S T.length (cjL S T)) T.length)then 4 else-1
def DataP(S:List (List Int))(T:List Int):Prop:=ShpP S T∧DF S T= -1
end Go.Proofs.YtbakhfiibjkifaaGreat
/- The field: inverses. -/
namespace Go.Proofs.YtbakhfiibjkifaaGreat
open Go.RowKit
set_option maxRecDepth 1000000
def frm(E x:Nat):Bool:=x ^ E % 55441==1
def frmAll(E:Nat):Nat→Bool
 |0=>true
 |n+1=>frm E (n+1)&&(55441 % (n+2) !=0)&&frmAll E n
theorem frmAll_get{E:Nat}: ∀ {n x:Nat},frmAll E n=true→0<x→x≤n→x ^ E % 55441=1∧55441 % (x+1)≠0
 |0,x,_,h1,h2=>by omega
 |n+1,x,h,h1,h2=>by
  simp only[frmAll,Bool.and_eq_true,frm,beq_iff_eq,bne_iff_ne]at h
  obtain⟨⟨h3,h4⟩,h5⟩:=h
  rcases Nat.lt_or_ge x (n+1)with hx|hx
  ·exact frmAll_get h5 h1 (by omega)
  ·have:x=n+1:=by omega
   subst this
   exact⟨h3,h4⟩
theorem pow_modN(a n:Nat):(a % 55441) ^ n % 55441=a ^ n % 55441:=by
 rw[←Nat.pow_mod]
theorem fermatE{E F:Nat}(hE:E=2*F)(hs:frmAll E 236=true): ∀x:Nat,0<x→x<55441→x ^ E % 55441=1:=by
 intro x
 induction x using Nat.strongRecOn with
 |_ x ih=>
  intro h0 hP
  rcases Nat.lt_or_ge x 237 with hx|hx
  ·exact(frmAll_get hs h0 (by omega)).1
  ·have hdm:=Nat.div_add_mod 55441 x
   have hr:=Nat.mod_lt 55441 h0
   generalize 55441 / x=q at*
   generalize 55441 % x=r at*
   have hq1:0<q:=by
    rcases Nat.eq_zero_or_pos q with h|h
    ·subst h;omega
    ·exact h
   have hq2:q<236:=by
    rcases Nat.lt_or_ge q 236 with h|h
    ·exact h
    ·have:237*236≤x*q:=Nat.mul_le_mul hx h
     omega
   have hr0:0<r:=by
    rcases Nat.eq_zero_or_pos r with h|h
    ·subst h
     have hxq:x*q=55441:=by omega
     have hd:55441 % q=0:=by rw[←hxq];exact Nat.mul_mod_left x q
     have hq3:q≠1:=by rintro rfl;omega
     have:=(frmAll_get hs (x:=q-1) (by omega) (by omega)).2
     rw[Nat.sub_add_cancel (by omega)]at this
     exact absurd hd this
    ·exact h
   have iq:=ih q (by omega) hq1 (by omega)
   have ir:=ih r (by omega) hr0 (by omega)
   have e1:(x*q) ^ E % 55441=r ^ E % 55441:=by
    have e2:x*q*(x*q) % 55441=r*r % 55441:=by
     have hxr:x*q+r=55441:=by omega
     have:x*q*(x*q)+55441*r=r*r+55441*(x*q):=by
      generalize x*q=y at hxr
      have:r+y=55441:=by omega
      rw[←this,Nat.add_mul,Nat.add_mul,Nat.mul_comm y r];omega
     omega
    have hp: ∀a:Nat,a ^ E=(a*a) ^ F:=by
     intro a
     rw[hE,Nat.pow_mul,Nat.pow_two]
    rw[hp (x*q),hp r, ←pow_modN (x*q*(x*q)),e2,pow_modN]
   rw[Nat.mul_pow,Nat.mul_mod,iq,Nat.mul_one,Nat.mod_mod,ir]at e1
   exact e1
theorem frm_small:frmAll (55439+1) 236=true:=by kernel_rfl
theorem pw_nat(n k:Nat):pw n k=((n ^ k % 55441:Nat):Int):=by
 unfold pw
 rw[Int.toNat_natCast,Int.natCast_emod,Int.natCast_pow];rfl
theorem inv_mulE{n k:Nat}(h:n ^ (k+1) % 55441=1):MM (pw n k*n) 1:=by
 unfold MM
 rw[pw_nat]
 have:((n ^ k % 55441:Nat):Int)*n % 55441=((n ^ k % 55441*n % 55441:Nat):Int):=by
  norm_cast
 rw[this,Nat.mod_mul_mod, ←Nat.pow_succ,h];rfl
theorem exp_ex: ∃k:Nat,(k:Int)=55439∧ ∃F,k+1=2*F∧frmAll (k+1) 236=true:=⟨55439,rfl,27720,rfl,frm_small⟩
theorem inv_mul{a:Int}(h:num a)(h0:a≠0):MM (pw a 55439*a) 1:=by
 obtain⟨k,hk,F,hF,hs⟩:=exp_ex
 obtain⟨n,rfl⟩:=Int.eq_ofNat_of_zero_le h.1
 rw[←hk]
 exact inv_mulE (fermatE hF hs n (by omega) (by have:=h.2;omega))
def isLw(a:AV)(xs:List Int):Prop:=a= .imm (xs.map i64)∨(xs=[]∧ ∃o c,a= .sc (.slice o 0 c))
def isLws:List AV→List (List Int)→Prop
 | [],[]=>True
 |a::bs,x::xs=>isLw a x∧isLws bs xs
 |_,_=>False
def isLLw(a:AV)(xss:List (List Int)):Prop:=(∃cs,a= .imm cs∧isLws cs xss)∨(xss=[]∧ ∃o c,a= .sc (.slice o 0 c))
def szV(z:Int):Int:=if z<0 then-1 else z
def szA(S:List (List Int))(l:Int):Nat→Int
 |0=>l
 |i+1=>szA S l i-(row S i).length
def szD(S:List (List Int))(T:List Int)(left:Int):Int:=if szA S (left-S.length) S.length<0 then-1 else szV (szA S (left-S.length) S.length-T.length)
noncomputable def chg(S:List (List Int))(T:List Int)(i:Int):Int:=by
 classical exact if DataP S T then(if 0≤i∧i≤(T.length:Int)-1 then 0 else 2)else 1
section
variable{a b:AV}{S:List (List Int)}{T:List Int}
end
structure Dat(S:List (List Int))(T:List Int):Prop where
 shp:Shp S T
 m16:T.length≤16
 sta:StaP S T
 whl: ¬whl S T.length=0
 cj:CjP S T
 tur:TurP S T
 ring:RingP (cubeL (nmE S T.length (cjL S T)) T.length)
def in2(i j:Nat):Option AV→Option (List AV)
 |some (.row cs)=>match cs[i]? with
  |some (.row ds)=>rowO ds[j]?
  |_=>none
 |_=>none
theorem cells_two(ro:Ro)(s g i j:Nat):ro.cells s g [i,j]=in2 i j (ro s g):=by
 unfold Ro.cells in2 Ro.at
 cases h:ro s g with
 |none=>rfl
 |some a=>
  cases a<;>try rfl
  rename_i cs
  simp only[ath]
  cases h2:cs[i]? with
  |none=>rfl
  |some c=>
   cases c<;>try rfl
   rename_i ds
   simp only[ath]
   cases h3:ds[j]? with
   |none=>rfl
   |some d=>cases d<;>rfl
theorem in2_rws{f:Nat→Nat→List AV}{n m i j:Nat}(hi:i<n)(hj:j<m):in2 i j (some (.row (rws (fun i=> .row (rws (fun j=> .row (f i j)) m)) n)))=some (f i j):=by
 simp only[in2,rws_get _ _ _ hi,rws_get _ _ _ hj,rowO_row]
attribute [go_sem] cells_two in2_rws impE_agg1 kFieldV
def baT(S:List (List Int))(T:List Int)(c j k:Nat):Int:=nmE S T.length (cjL S T) c j k*(atI T k*atI (row S 0) k % 55441)
def baS(S:List (List Int))(T:List Int)(c j:Nat):Nat→Int
 |0=>0
 |k+1=>(baS S T c j k+baT S T c j k) % 55441
def bbT(S:List (List Int))(T:List Int)(c j k:Nat):Int:=nmE S T.length (cjL S T) c j k*atI T k % 55441*atI (row S 0) k % 55441
theorem MM.add{a b c d:Int}(h1:MM a b)(h2:MM c d):MM (a+c) (b+d):=by
 unfold MM at *; rw[Int.add_emod,h1,h2, ←Int.add_emod]
def balV(S:List (List Int))(T:List Int)(c i j:Nat):Int:=baS S T c j T.length*pw (atI T i) 55439 % 55441*pw (atI T j) 55439 % 55441
section
variable{a b:AV}{S:List (List Int)}{T:List Int}
end
section
variable (S:List (List Int))(T:List Int)
def sqT(j:Nat):Int:=atI T j*atI T j % 55441
def upT(j:Nat):Int:=atI (row S 0) j*sqT T j % 55441
def dnT(j:Nat):Int:=atI (row S 0) j*pw (sqT T j) 55439 % 55441
def nmC(i j k:Nat):Int:=nmE S T.length (cjL S T) i j k
def siI(i:Nat)(s:Int)(j:Nat):Nat→Int
 |0=>s
 |k+1=>(siI i s j k+nmC S T j k i*(upT S T j*dnT S T k % 55441)) % 55441
def siO(i:Nat):Nat→Int
 |0=>0
 |j+1=>siI S T i (siO i j) j T.length
def wtT(j k:Nat):Int:=atI (row S 0) j*atI (row S 0) k % 55441*qt (pwz (atI T j) 2) (pwz (atI T k) 2) % 55441
def tmT(i j k:Nat):Int:=nmC S T j k i*wtT S T j k % 55441
def rwT(i j:Nat):Int:=sm (tmT S T i j) T.length
end
def sinV(S:List (List Int))(T:List Int)(i:Nat):Int:=siO S T i T.length*pw (whl S T.length) 55439 % 55441
section
variable{a b:AV}{S:List (List Int)}{T:List Int}
end
theorem sm_zero{f:Nat→Int}: ∀ {n:Nat},(∀k,k<n→f k=0)→sm f n=0
 |0,_=>rfl
 |n+1,h=>by simp only[sm];rw[sm_zero fun k hk=>h k (by omega),h n (by omega)];rfl
theorem sm_addf(f g:Nat→Int): ∀n:Nat,sm (fun k=>f k+g k) n=sm f n+sm g n
 |0=>rfl
 |n+1=>by simp only[sm];rw[sm_addf f g n];omega
theorem sm_comm(f:Nat→Nat→Int)(n:Nat): ∀m:Nat,sm (fun k=>sm (f k) n) m=sm (fun l=>sm (fun k=>f k l) m) n
 |0=>by
  simp only[sm]
  exact(sm_zero fun _ _=>rfl).symm
 |m+1=>by
  simp only[sm]
  rw[sm_comm f n m, ←sm_addf]
theorem MM.of_eq{a b:Int}(h:a=b):MM a b:=by rw[h];exact MM.rfl
section
variable{S:List (List Int)}{T:List Int}
abbrev ss(S:List (List Int))(i j:Nat):Int:=atI (row S i) j
def sg(S:List (List Int))(T:List Int)(i:Nat):Nat:=(cjA S T i).toNat
theorem sm_pick{f:Nat→Int}{j n:Nat}{v:Int}(hj:j<n)(h: ∀k,k<n→f k=if k=j then v else 0):sm f n=v:=by
 rw[sm_one (j:=j) fun k hk hne=>by rw[h k hk,if_neg hne],if_pos hj,h j hj,if_pos rfl]
end
section
variable{S:List (List Int)}{T:List Int}
theorem RF_none{X:List (List (List Int))}(h:RF X=none):F1 X=none∧F2 X=none∧F3 X=none∧F4 X=none:=by
 unfold RF at h
 cases h1:F1 X with
 |some v=>rw[h1]at h;cases h
 |none=>
  rw[h1]at h
  cases h2:F2 X with
  |some v=>rw[h2]at h;cases h
  |none=>
   rw[h2]at h
   cases h3:F3 X with
   |some v=>rw[h3]at h;cases h
   |none=>
    rw[h3]at h
    exact⟨rfl,rfl,rfl,h⟩
def uniR(f:Nat→Int)(n m:Nat):Prop:=m<n∧f m=1∧ ∀k,k<n→k≠m→f k=0
def Inv(S:List (List Int))(T:List Int)(i:Nat):Prop:=uniR (nmC S T i (sg S T i)) T.length 0
open Classical in
noncomputable def mv(S:List (List Int))(T:List Int)(i a:Nat):Nat:=if h: ∃m,uniR (nmC S T a i) T.length m then Classical.choose h else 0
noncomputable def orb(S:List (List Int))(T:List Int)(i:Nat):Nat→Nat
 |0=>i
 |k+1=>mv S T i (orb S T i k)
end
def alV(xs:List Int):Int:=if sm (atI xs) xs.length=1 then ix xs 1 0 else-1
theorem exq_cub{k n i j:Nat}{ro:Ro}{s g:Nat}{F:Nat→Nat→Nat→Int}(h:ro s g=some (cubeA F n))(hi:i<n)(hj:j<n)(hk:2≤k):exq k ro (.ref s g [i,j] 0 n) (immL (rws (F i j) n)):=by
 refine⟨fun q hq=>?_,fun hp=>by simp[pureA]at hp⟩
 obtain⟨p,rfl⟩: ∃p,q=p+2:=⟨q-2,by omega⟩
 simp only[ex,cells_two,h,in2_rws hi hj,List.drop_zero,zff]
 rw[immL,rws_map,rws_map]
section
variable{a b:AV}{S:List (List Int)}{T:List Int}
end
def unE(i k:Nat):Int:=if k=i then 1 else 0
theorem MM_num{a b:Int}(h:MM a b)(ha:num a)(hb:num b):a=b:=by
 unfold MM at h
 rwa [Int.emod_eq_of_lt ha.1 ha.2,Int.emod_eq_of_lt hb.1 hb.2]at h
section
variable (S S':List (List Int))(T T':List Int)
def pS(x y:Nat):Int:=ss S (x / T'.length) (y / T'.length)*ss S' (x % T'.length) (y % T'.length) % 55441
def pT(x:Nat):Int:=atI T (x / T'.length)*atI T' (x % T'.length) % 55441
def PS:List (List Int):=matL (pS S S' T') (T.length*T'.length) (T.length*T'.length)
def PT:List Int:=rws (pT T T') (T.length*T'.length)
def psg(x:Nat):Nat:=sg S T (x / T'.length)*T'.length+sg S' T' (x % T'.length)
end
section
variable{S S':List (List Int)}{T T':List Int}
end
end Go.Proofs.YtbakhfiibjkifaaGreat
