/- Texts joined: F6 H1 G1 G2 G3 G6 H2 H3 H4 I1 I2. -/
import Derived.Test.YtbakhfiibjkifaaGreatMh
set_option linter.all false
/- The reference's and the program's data. -/
namespace Go.Proofs.YtbakhfiibjkifaaGreat
open Go.RowKit
set_option maxRecDepth 1000000
def Sta2(S:List (List Int))(T:List Int)(i j:Nat):Prop:=atI (row S i) j=atI (row S j) i∧atI (row S 0) i≠0∧atI T i≠0∧atI (row S 0) 0=1∧atI T 0=1
open Classical in
noncomputable def DF(S:List (List Int))(T:List Int):Int:=
 if ¬StaP S T then 0 else if whl S T.length=0 then 1 else if ¬CjP S T then 2 else if ¬TurP S T then 3 else if ¬c0y (a0L (nmE S T.length (cjL S T)) T.length)then 4 else-1
def c4v(S:List (List Int))(T:List Int):Prop:=ShpP S T∧DF S T= -1
theorem c1b{F:Nat→Nat→Nat→Int}{n i:Nat}(h:i<n):(mat (a0L F n) i).length=n:=by rw[a1o h,zfe]
theorem a4S{F:Nat→Nat→Nat→Int}{n:Nat}(h0:0<n):a1e (a0L F n)↔(a3K F n∧n≤16):=by
 have hl:(a0L F n).length=n:=zfe _ _
 unfold a1e
 rw[hl]
 constructor
 ·rintro⟨_,h2,h3⟩
  refine⟨fun i hi j hj k hk=>?_,h2⟩
  have:=((h3 i hi).2 j hj).2 k hk
  rwa [a1c hi hj hk]at this
 ·rintro⟨h1,h2⟩
  refine⟨h0,h2,fun i hi=>⟨c1b hi,fun j hj=>⟨by rw[a1o hi,a1A _ hj,zfe],fun k hk=>?_⟩⟩⟩
  rw[a1c hi hj hk];exact h1 i hi j hj k hk
end Go.Proofs.YtbakhfiibjkifaaGreat
/- The field: inverses. -/
namespace Go.Proofs.YtbakhfiibjkifaaGreat
open Go.RowKit
set_option maxRecDepth 1000000
def frm(E x:Nat):Bool:=x ^ E % 55441==1
def a7l(E:Nat):Nat→Bool
 |0=>true
 |n+1=>frm E (n+1)&&(55441 % (n+2) !=0)&&a7l E n
theorem a5d{E:Nat}: ∀ {n x:Nat},a7l E n=true→0<x→x≤n→x ^ E % 55441=1∧55441 % (x+1)≠0
 |0,x,_,h1,h2=>by omega
 |n+1,x,h,h1,h2=>by
  simp only[a7l,Bool.and_eq_true,frm,beq_iff_eq,bne_iff_ne]at h
  obtain⟨⟨h3,h4⟩,h5⟩:=h
  rcases Nat.lt_or_ge x (n+1)with hx|hx
  ·exact a5d h5 h1 (by omega)
  ·have:x=n+1:=by omega
   subst this
   exact⟨h3,h4⟩
theorem b1U(a n:Nat):(a % 55441) ^ n % 55441=a ^ n % 55441:=by
 rw[←Nat.pow_mod]
theorem c1n{E F:Nat}(hE:E=2*F)(hs:a7l E 236=true): ∀x:Nat,0<x→x<55441→x ^ E % 55441=1:=by
 intro x
 induction x using Nat.strongRecOn with
 |_ x ih=>
  intro h0 hP
  rcases Nat.lt_or_ge x 237 with hx|hx
  ·exact(a5d hs h0 (by omega)).1
  ·have hdm:=Nat.div_add_mod 55441 x
   have hr:=Nat.mod_lt 55441 h0
   generalize 55441 / x=q at*
   generalize 55441 % x=r at*
   have hq1:0<q:=by
    rcases Nat.eq_zero_or_pos q with h|h
    ·subst h;omega
    ·exact h
   have hq2:q<236:=by
    rcases Nat.lt_or_ge q 236 with h|h
    ·exact h
    ·have:237*236≤x*q:=Nat.mul_le_mul hx h
     omega
   have hr0:0<r:=by
    rcases Nat.eq_zero_or_pos r with h|h
    ·subst h
     have hxq:x*q=55441:=by omega
     have hd:55441 % q=0:=by rw[←hxq];exact Nat.mul_mod_left x q
     have hq3:q≠1:=by rintro rfl;omega
     have:=(a5d hs (x:=q-1) (by omega) (by omega)).2
     rw[Nat.sub_add_cancel (by omega)]at this
     exact absurd hd this
    ·exact h
   have iq:=ih q (by omega) hq1 (by omega)
   have ir:=ih r (by omega) hr0 (by omega)
   have e1:(x*q) ^ E % 55441=r ^ E % 55441:=by
    have e2:x*q*(x*q) % 55441=r*r % 55441:=by
     have hxr:x*q+r=55441:=by omega
     have:x*q*(x*q)+55441*r=r*r+55441*(x*q):=by
      generalize x*q=y at hxr
      have:r+y=55441:=by omega
      rw[←this,Nat.add_mul,Nat.add_mul,Nat.mul_comm y r];omega
     omega
    have hp: ∀a:Nat,a ^ E=(a*a) ^ F:=by
     intro a
     rw[hE,Nat.pow_mul,Nat.pow_two]
    rw[hp (x*q),hp r, ←b1U (x*q*(x*q)),e2,b1U]
   rw[Nat.mul_pow,Nat.mul_mod,iq,Nat.mul_one,Nat.mod_mod,ir]at e1
   exact e1
theorem b5L:a7l (55439+1) 236=true:=by kernel_rfl
theorem c1P(n k:Nat):pw n k=((n ^ k % 55441:Nat):Int):=by
 unfold pw
 rw[Int.toNat_natCast,Int.natCast_emod,Int.natCast_pow];rfl
theorem b7Q{n k:Nat}(h:n ^ (k+1) % 55441=1):MM (pw n k*n) 1:=by
 unfold MM
 rw[c1P]
 have:((n ^ k % 55441:Nat):Int)*n % 55441=((n ^ k % 55441*n % 55441:Nat):Int):=by
  norm_cast
 rw[this,Nat.mod_mul_mod, ←Nat.pow_succ,h];rfl
theorem c3u: ∃k:Nat,(k:Int)=55439∧ ∃F,k+1=2*F∧a7l (k+1) 236=true:=⟨55439,rfl,27720,rfl,b5L⟩
theorem a4y{a:Int}(h:num a)(h0:a≠0):MM (pw a 55439*a) 1:=by
 obtain⟨k,hk,F,hF,hs⟩:=c3u
 obtain⟨n,rfl⟩:=Int.eq_ofNat_of_zero_le h.1
 rw[←hk]
 exact b7Q (c1n hF hs n (by omega) (by have:=h.2;omega))
def isLw(a:AV)(xs:List Int):Prop:=a= .imm (xs.map i64)∨(xs=[]∧ ∃o c,a= .sc (.slice o 0 c))
def c3I:List AV→List (List Int)→Prop
 | [],[]=>True
 |a::bs,x::xs=>isLw a x∧c3I bs xs
 |_,_=>False
def c5g(a:AV)(xss:List (List Int)):Prop:=(∃cs,a= .imm cs∧c3I cs xss)∨(xss=[]∧ ∃o c,a= .sc (.slice o 0 c))
def szV(z:Int):Int:=if z<0 then-1 else z
def szA(S:List (List Int))(l:Int):Nat→Int
 |0=>l
 |i+1=>szA S l i-(row S i).length
def szD(S:List (List Int))(T:List Int)(left:Int):Int:=if szA S (left-S.length) S.length<0 then-1 else szV (szA S (left-S.length) S.length-T.length)
noncomputable def chg(S:List (List Int))(T:List Int)(i:Int):Int:=by
 classical exact if c4v S T then(if 0≤i∧i≤(T.length:Int)-1 then 0 else 2)else 1
section
variable{a b:AV}{S:List (List Int)}{T:List Int}
end
structure Dat(S:List (List Int))(T:List Int):Prop where
 shp:Shp S T
 m16:T.length≤16
 sta:StaP S T
 whl: ¬whl S T.length=0
 cj:CjP S T
 tur:TurP S T
 ring:c0y (a0L (nmE S T.length (cjL S T)) T.length)
def in2(i j:Nat):Option AV→Option (List AV)
 |some (.row cs)=>match cs[i]? with
  |some (.row ds)=>c3Y ds[j]?
  |_=>none
 |_=>none
attribute [go_sem] a4N a9H
def baT(S:List (List Int))(T:List Int)(c j k:Nat):Int:=nmE S T.length (cjL S T) c j k*(atI T k*atI (row S 0) k % 55441)
def baS(S:List (List Int))(T:List Int)(c j:Nat):Nat→Int
 |0=>0
 |k+1=>(baS S T c j k+baT S T c j k) % 55441
def bbT(S:List (List Int))(T:List Int)(c j k:Nat):Int:=nmE S T.length (cjL S T) c j k*atI T k % 55441*atI (row S 0) k % 55441
theorem MM.add{a b c d:Int}(h1:MM a b)(h2:MM c d):MM (a+c) (b+d):=by
 unfold MM at *; rw[Int.add_emod,h1,h2, ←Int.add_emod]
def balV(S:List (List Int))(T:List Int)(c i j:Nat):Int:=baS S T c j T.length*pw (atI T i) 55439 % 55441*pw (atI T j) 55439 % 55441
section
variable{a b:AV}{S:List (List Int)}{T:List Int}
end
section
variable (S:List (List Int))(T:List Int)
def sqT(j:Nat):Int:=atI T j*atI T j % 55441
def upT(j:Nat):Int:=atI (row S 0) j*sqT T j % 55441
def dnT(j:Nat):Int:=atI (row S 0) j*pw (sqT T j) 55439 % 55441
def nmC(i j k:Nat):Int:=nmE S T.length (cjL S T) i j k
def siI(i:Nat)(s:Int)(j:Nat):Nat→Int
 |0=>s
 |k+1=>(siI i s j k+nmC S T j k i*(upT S T j*dnT S T k % 55441)) % 55441
def siO(i:Nat):Nat→Int
 |0=>0
 |j+1=>siI S T i (siO i j) j T.length
def wtT(j k:Nat):Int:=atI (row S 0) j*atI (row S 0) k % 55441*qt (pwz (atI T j) 2) (pwz (atI T k) 2) % 55441
def tmT(i j k:Nat):Int:=nmC S T j k i*wtT S T j k % 55441
def rwT(i j:Nat):Int:=sm (tmT S T i j) T.length
end
def sinV(S:List (List Int))(T:List Int)(i:Nat):Int:=siO S T i T.length*pw (whl S T.length) 55439 % 55441
section
variable{a b:AV}{S:List (List Int)}{T:List Int}
end
theorem a1M{f:Nat→Int}: ∀ {n:Nat},(∀k,k<n→f k=0)→sm f n=0
 |0,_=>rfl
 |n+1,h=>by simp only[sm];rw[a1M fun k hk=>h k (by omega),h n (by omega)];rfl
theorem a2p(f g:Nat→Int): ∀n:Nat,sm (fun k=>f k+g k) n=sm f n+sm g n
 |0=>rfl
 |n+1=>by simp only[sm];rw[a2p f g n];omega
theorem a3b(f:Nat→Nat→Int)(n:Nat): ∀m:Nat,sm (fun k=>sm (f k) n) m=sm (fun l=>sm (fun k=>f k l) m) n
 |0=>by
  simp only[sm]
  exact(a1M fun _ _=>rfl).symm
 |m+1=>by
  simp only[sm]
  rw[a3b f n m, ←a2p]
theorem c3p(w:Int)(f:Nat→Int)(n:Nat):w*sm f n=sm (fun l=>w*f l) n:=by
 rw[Int.mul_comm,a5b]
 exact a0k fun l _=>Int.mul_comm _ _
theorem MM.of_eq{a b:Int}(h:a=b):MM a b:=by rw[h];exact MM.rfl
section
variable{S:List (List Int)}{T:List Int}
abbrev ss(S:List (List Int))(i j:Nat):Int:=atI (row S i) j
def sg(S:List (List Int))(T:List Int)(i:Nat):Nat:=(cjA S T i).toNat
theorem a4t{f:Nat→Int}{j n:Nat}{v:Int}(hj:j<n)(h: ∀k,k<n→f k=if k=j then v else 0):sm f n=v:=by
 rw[b9l (j:=j) fun k hk hne=>by rw[h k hk,if_neg hne],if_pos hj,h j hj,if_pos rfl]
end
section
variable{S:List (List Int)}{T:List Int}
theorem a6j{X:List (List (List Int))}(h:RF X=none):F1 X=none∧F2 X=none∧F3 X=none∧F4 X=none:=by
 unfold RF at h
 cases h1:F1 X with
 |some v=>rw[h1]at h;cases h
 |none=>
  rw[h1]at h
  cases h2:F2 X with
  |some v=>rw[h2]at h;cases h
  |none=>
   rw[h2]at h
   cases h3:F3 X with
   |some v=>rw[h3]at h;cases h
   |none=>
    rw[h3]at h
    exact⟨rfl,rfl,rfl,h⟩
def uniR(f:Nat→Int)(n m:Nat):Prop:=m<n∧f m=1∧ ∀k,k<n→k≠m→f k=0
def Inv(S:List (List Int))(T:List Int)(i:Nat):Prop:=uniR (nmC S T i (sg S T i)) T.length 0
open Classical in
noncomputable def mv(S:List (List Int))(T:List Int)(i a:Nat):Nat:=if h: ∃m,uniR (nmC S T a i) T.length m then Classical.choose h else 0
noncomputable def orb(S:List (List Int))(T:List Int)(i:Nat):Nat→Nat
 |0=>i
 |k+1=>mv S T i (orb S T i k)
end
def alV(xs:List Int):Int:=if sm (atI xs) xs.length=1 then ix xs 1 0 else-1
section
variable{a b:AV}{S:List (List Int)}{T:List Int}
end
def unE(i k:Nat):Int:=if k=i then 1 else 0
theorem a9k(f:Nat→Int)(a:Nat): ∀b:Nat,sm f (a+b)=sm f a+sm (fun k=>f (a+k)) b
 |0=>by simp[sm]
 |b+1=>by
  rw[←Nat.add_assoc]
  simp only[sm]
  rw[a9k f a b];omega
theorem c3o{n m k:Nat}(hk:k<m):(n*m+k) / m=n∧(n*m+k) % m=k:=by
 have hm:0<m:=by omega
 constructor
 ·rw[Nat.mul_comm,Nat.mul_add_div hm,Nat.div_eq_of_lt hk];rfl
 ·rw[Nat.mul_comm,Nat.mul_add_mod,Nat.mod_eq_of_lt hk]
theorem b1F(f:Nat→Nat→Int)(m:Nat): ∀n:Nat,sm (fun x=>f (x / m) (x % m)) (n*m)=sm (fun i=>sm (f i) m) n
 |0=>by simp[sm]
 |n+1=>by
  rw[Nat.succ_mul,a9k,b1F f m n]
  simp only[sm]
  congr 1
  exact a0k fun k hk=>by rw[(c3o hk).1,(c3o hk).2]
theorem b9z(a b:Nat→Int)(m n:Nat):sm (fun i=>sm (fun j=>a i*b j) m) n=sm a n*sm b m:=by
 rw[a5b]
 exact a0k fun i _=>(c3p _ _ _).symm
theorem a8q(a b:Nat→Int)(n m:Nat):sm (fun x=>a (x / m)*b (x % m)) (n*m)=sm a n*sm b m:=by
 rw[b1F (fun i j=>a i*b j),b9z]
theorem a3j{n m x:Nat}(h:x<n*m):x / m<n∧x % m<m:=by
 have hm:0<m:=by
  rcases Nat.eq_zero_or_pos m with h0|h0
  ·subst h0;simp at h
  ·exact h0
 exact⟨Nat.div_lt_of_lt_mul (by rwa [Nat.mul_comm]at h),Nat.mod_lt _ hm⟩
theorem c5e{n m i j:Nat}(hi:i<n)(hj:j<m):i*m+j<n*m:=by
 have:(i+1)*m≤n*m:=Nat.mul_le_mul_right m hi
 rw[Nat.succ_mul]at this;omega
theorem b1O(x m:Nat):x / m*m+x % m=x:=by rw[Nat.mul_comm];exact Nat.div_add_mod x m
theorem c2b{m i j x:Nat}(hj:j<m):x=i*m+j↔x / m=i∧x % m=j:=by
 constructor
 ·rintro rfl;exact c3o hj
 ·rintro⟨rfl,rfl⟩;exact(b1O x m).symm
theorem b3I{a b:Int}(h:MM a b)(ha:num a)(hb:num b):a=b:=by
 unfold MM at h
 rwa [Int.emod_eq_of_lt ha.1 ha.2,Int.emod_eq_of_lt hb.1 hb.2]at h
section
variable (S S':List (List Int))(T T':List Int)
def pS(x y:Nat):Int:=ss S (x / T'.length) (y / T'.length)*ss S' (x % T'.length) (y % T'.length) % 55441
def pT(x:Nat):Int:=atI T (x / T'.length)*atI T' (x % T'.length) % 55441
def PS:List (List Int):=a1r (pS S S' T') (T.length*T'.length) (T.length*T'.length)
def PT:List Int:=rws (pT T T') (T.length*T'.length)
def psg(x:Nat):Nat:=sg S T (x / T'.length)*T'.length+sg S' T' (x % T'.length)
end
section
variable{S S':List (List Int)}{T T':List Int}
theorem c3N(a b c d:Int):a*b*(c*d)=a*c*(b*d):=by simp only[Int.mul_assoc,Int.mul_left_comm]
end
theorem b7R{F:Nat→Nat→Nat→Int}{n:Nat}(hp:0<n)(h16:n≤16)(hc:a3K F n)(hu: ∀i,i<n→ ∀k,k<n→F 0 i k=dlt i k∧F i 0 k=dlt i k)
  {σ:Nat→Nat} (hs: ∀i,i<n→σ i<n∧σ (σ i)=i) (hd: ∀i,i<n→ ∀j,j<n→F i j 0=if j=σ i then 1 else 0)
  (ht: ∀i,i<n→ ∀j,j<n→ ∀k,k<n→F i j k=F (σ i) k j∧F i j k=F k (σ j) i)
  (ha: ∀i,i<n→ ∀j,j<n→ ∀k,k<n→ ∀l,l<n→sm (fun m=>F i j m*F m k l) n=sm (fun m=>F j k m*F i m l) n):c0y (a0L F n):=by
 have hl:(a0L F n).length=n:=zfe _ _
 have hdl: ∀i,i<n→dlT (a0L F n) i=σ i:=by
  intro i hi
  unfold dlT
  rw[hl]
  refine b7b ⟨(hs i hi).1,?_,fun k hk hne=>?_⟩
  ·show at3 _ _ _ _=_
   rw[a1c hi (hs i hi).1 hp,hd i hi _ (hs i hi).1,if_pos rfl]
  ·show at3 _ _ _ _=_
   rw[a1c hi hk hp,hd i hi _ hk,if_neg hne]
 refine⟨(a4S hp).2 ⟨hc,h16⟩,?_⟩
 have h1:F1 (a0L F n)=none:=by
  unfold F1
  rw[hl]
  refine a0u.2 fun i hi=>a0u.2 fun k hk=>if_pos ?_
  rw[a1c hp hi hk,a1c hi hp hk]
  exact hu i hi k hk
 have h2:F2 (a0L F n)=none:=by
  unfold F2
  rw[hl]
  refine a0u.2 fun i hi=>if_neg ?_
  rw[hdl i hi,Int.toNat_natCast,hdl _ (hs i hi).1,(hs i hi).2]
  intro h
  rcases h with h|h
  ·omega
  ·exact h rfl
 have h3:F3 (a0L F n)=none:=by
  unfold F3
  rw[hl]
  refine a0u.2 fun i hi=>a0u.2 fun j hj=>a0u.2 fun k hk=>if_pos ?_
  rw[hdl i hi,hdl j hj,Int.toNat_natCast,Int.toNat_natCast,a1c hi hj hk,a1c (hs i hi).1 hk hj,a1c hk (hs j hj).1 hi]
  exact ht i hi j hj k hk
 rw[RF4 h1 h2 h3]
 unfold F4
 rw[hl]
 refine a0u.2 fun i hi=>a0u.2 fun j hj=>a0u.2 fun k hk=>a0u.2 fun l hl'=>if_pos ?_
 rw[hl]
 have e1:sm (lft (a0L F n) i j k l) n=sm (fun m=>F i j m*F m k l) n:=a0k fun m hm=>by
  unfold lft;rw[a1c hi hj hm,a1c hm hk hl']
 have e2:sm (rgt (a0L F n) i j k l) n=sm (fun m=>F j k m*F i m l) n:=a0k fun m hm=>by
  unfold rgt;rw[a1c hj hk hm,a1c hi hm hl']
 rw[e1,e2]
 exact ha i hi j hj k hk l hl'
section
variable{S S':List (List Int)}{T T':List Int}
def nn(S S':List (List Int))(T T':List Int)(x y z:Nat):Int:=nmC S T (x / T'.length) (y / T'.length) (z / T'.length)*nmC S' T' (x % T'.length) (y % T'.length) (z % T'.length)
def PCub(S S':List (List Int))(T T':List Int):Prop:= ∀x,x<T.length*T'.length→ ∀y,y<T.length*T'.length→ ∀z,z<T.length*T'.length→nn S S' T T' x y z≤1000
theorem b6G{m x z:Nat}(hm:0<m):dlt (x / m) (z / m)*dlt (x % m) (z % m)=dlt x z:=by
 unfold dlt
 by_cases h:x=z
 ·subst h;rw[if_pos rfl,if_pos rfl,if_pos rfl];rfl
 ·rw[if_neg h]
  by_cases h1:x / m=z / m
  ·by_cases h2:x % m=z % m
   ·exact absurd (by rw[←b1O x m, ←b1O z m,h1,h2]) h
   ·rw[if_neg h2,Int.mul_zero]
  ·rw[if_neg h1,Int.zero_mul]
end
end Go.Proofs.YtbakhfiibjkifaaGreat
