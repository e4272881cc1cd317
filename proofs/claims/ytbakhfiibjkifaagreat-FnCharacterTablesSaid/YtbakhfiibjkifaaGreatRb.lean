/- Texts joined: Da1 Da2 Da3 Da4 Da5. -/
import Derived.Test.YtbakhfiibjkifaaGreatMh
import Derived.Test.YtbakhfiibjkifaaGreatOb
import Derived.Test.YtbakhfiibjkifaaGreatMj
set_option linter.all false
/- Draws: the generator of numbers runs through all its states; so each run meets a window without a given digit. -/
namespace Go.Proofs.YtbakhfiibjkifaaGreat
set_option maxRecDepth 1000000
def lcI(A C:Int):Nat→Int→Int
 |0,x=>x
 |t+1,x=>lcI A C t (A*x+C)
def pwI(A:Int):Nat→Int
 |0=>1
 |t+1=>A*pwI A t
def smI(A:Int):Nat→Int
 |0=>0
 |t+1=>pwI A t+smI A t
theorem a9T(A:Int)(a:Nat): ∀b,pwI A (a+b)=pwI A a*pwI A b
 |0=>by simp[pwI]
 |b+1=>by
  have ih:=a9T A a b
  show A*pwI A (a+b)=pwI A a*(A*pwI A b)
  rw[ih]
  grind
theorem b3s(A:Int)(a:Nat): ∀b,smI A (a+b)=smI A a+pwI A a*smI A b
 |0=>by simp[smI]
 |b+1=>by
  have ih:=b3s A a b
  have h:=a9T A a b
  show pwI A (a+b)+smI A (a+b)=smI A a+pwI A a*(pwI A b+smI A b)
  rw[ih,h]
  grind
theorem b6n(A C:Int): ∀t x,lcI A C t x=pwI A t*x+C*smI A t
 |0,x=>by simp[lcI,pwI,smI]
 |t+1,x=>by
  have ih:=b6n A C t (A*x+C)
  show lcI A C t (A*x+C)=A*pwI A t*x+C*(pwI A t+smI A t)
  rw[ih]
  grind
theorem b6j(A C:Int): ∀a b x,lcI A C (a+b) x=lcI A C b (lcI A C a x)
 |0,b,x=>by rw[Nat.zero_add];rfl
 |a+1,b,x=>by
  rw[show a+1+b=(a+b)+1 by omega]
  exact b6j A C a b (A*x+C)
theorem pw2(k:Nat):(2:Int) ^ (k+1)=2*2 ^ k:=by rw[Int.pow_succ,Int.mul_comm]
section
variable{A C a0 c0:Int}(hA:A=1+4*a0)(hC:C=1+2*c0)
include hA in
theorem b3X: ∀k:Nat, ∃a:Int,pwI A (2 ^ k)=1+4*2 ^ k*a
 |0=>⟨a0,by show A*1=1+4*1*a0;rw[hA];grind⟩
 |k+1=>by
  obtain⟨a,h⟩:=b3X k
  refine⟨a+2*2 ^ k*a*a,?_⟩
  rw[show (2:Nat) ^ (k+1)=2 ^ k+2 ^ k by rw[Nat.pow_succ];omega,a9T,h,pw2]
  grind
include hA in
theorem b8s: ∀k:Nat, ∃b:Int,smI A (2 ^ k)=2 ^ k*(1+2*b)
 |0=>⟨0,by show 1+0=1*(1+2*0);rfl⟩
 |k+1=>by
  obtain⟨b,h⟩:=b8s k
  obtain⟨a,h2⟩:=b3X hA k
  refine⟨b+2 ^ k*a*(1+2*b),?_⟩
  rw[show (2:Nat) ^ (k+1)=2 ^ k+2 ^ k by rw[Nat.pow_succ];omega,b3s,h,h2,pw2]
  grind
include hA hC in
theorem b8R: ∀(k:Nat) (x y:Int), ∃(t:Nat) (z:Int),lcI A C t x=y+2 ^ k*z
 |0,x,y=>⟨0,x-y,by show x=y+1*(x-y);omega⟩
 |k+1,x,y=>by
  obtain⟨t,z,h⟩:=b8R k x y
  rcases Int.emod_two_eq z with e|e
  ·refine⟨t,z / 2,?_⟩
   have hz:z=2*(z / 2):=by omega
   rw[h,pw2]
   generalize z / 2=w at hz
   subst hz
   grind
  ·obtain⟨a,ha⟩:=b3X hA k
   obtain⟨b,hb⟩:=b8s hA k
   have hz:z=2*(z / 2)+1:=by omega
   generalize z / 2=w at hz
   refine⟨t+2 ^ k,w+1+c0+2*c0*b+b+2*a*(y+2 ^ k*z),?_⟩
   rw[b6j,b6n,h,ha,hb,pw2,hC,hz]
   grind
end
end Go.Proofs.YtbakhfiibjkifaaGreat
/- Draws: how long a run may still go on. -/
namespace Go.Proofs.YtbakhfiibjkifaaGreat
set_option maxRecDepth 1000000
def dg(h:Int):Int:=(nxX h).tmod 8
theorem c0P(n:Int):wU n=n % 18446744073709551616:=by
 have e:IntKind.bits .u64=64:=rfl
 have s:IntKind.signed .u64=false:=rfl
 simp only[wU,IntKind.wrap,e,s,Bool.false_and,Bool.false_eq_true,if_false]
 omega
theorem b4i(h:Int):nxH h=(h*6364136223846793005+1442695040888963407) % 18446744073709551616:=by
 unfold nxH
 rw[c0P,c0P]
 omega
theorem c1r(n:Int)(h0:0≤n)(h1:n<18446744073709551616):anU n=n % 16777216:=by
 obtain⟨m,rfl⟩: ∃m:Nat,n=m:=⟨n.toNat,by omega⟩
 have hm:(BitVec.ofInt 64 (m:Int) &&& BitVec.ofInt 64 16777215).toNat=m % 16777216:=by
  rw[BitVec.toNat_and,BitVec.toNat_ofInt,show (BitVec.ofInt 64 16777215).toNat=2 ^ 24-1 from by decide,Nat.and_two_pow_sub_one_eq_mod]
  omega
 unfold anU
 rw[hm]
 show wU _=_
 rw[c0P]
 omega
theorem c4g(h:Int):dg h=(h*6364136223846793005+1442695040888963407) % 68719476736 / 8589934592:=by
 unfold dg nxX
 rw[b4i]
 generalize h*6364136223846793005+1442695040888963407=X
 have hs:shU (X % 18446744073709551616)=X % 18446744073709551616 / 8589934592:=by
  show Int.fdiv _ 8589934592=_
  rw[Int.fdiv_eq_ediv_of_nonneg _ (by decide)]
 rw[hs,c1r _ (by omega) (by omega),Int.tmod_eq_emod_of_nonneg (by omega)]
 omega
def nxN:Nat→Int→Int
 |0,h=>h
 |t+1,h=>nxN t (nxH h)
theorem c3J(t:Nat): ∀h h':Int,h % 68719476736=h' % 68719476736→nxN t h % 68719476736=lcI 6364136223846793005 1442695040888963407 t h' % 68719476736:=by
 induction t with
 |zero=>intro h h' e;exact e
 |succ t ih=>
  intro h h' e
  refine ih _ _ ?_
  rw[b4i]
  omega
def c3Z:Nat→Nat→Bool
 |0,_=>true
 |k+1,x=>((x*6364136223846793005+1442695040888963407) % 68719476736 / 8589934592 !=6)&&c3Z k ((x*6364136223846793005+1442695040888963407) % 68719476736)
theorem b9b: ∀(k x:Nat) (h:Int),c3Z k x=true→h % 68719476736=((x % 68719476736:Nat):Int)→ ∀i,i<k→dg (nxN i h)≠6
 |0,_,_,_,_,i,hi=>by omega
 |k+1,x,h,hw,e,i,hi=>by
  unfold c3Z at hw
  rw[Bool.and_eq_true,bne_iff_ne]at hw
  cases i with
  |zero=>
   show dg h≠6
   have e2:(h*6364136223846793005+1442695040888963407) % 68719476736=(((x*6364136223846793005+1442695040888963407) % 68719476736:Nat):Int):=by omega
   rw[c4g,e2]
   intro h6
   apply hw.1
   omega
  |succ i=>
   refine b9b k _ (nxH h) hw.2 ?_ i (by omega)
   rw[b4i]
   omega
theorem win0:c3Z 70 55135930528=true:=by decide
structure Fu(n k:Nat)(h:Int)(t:Nat):Prop where
 by':n-k≤t-70
 no: ∀i,t-70≤i→i<t→dg (nxN i h)≠6
theorem a9U: ∀a b h,nxN (a+b) h=nxN b (nxN a h)
 |0,b,h=>by rw[Nat.zero_add];rfl
 |a+1,b,h=>by
  rw[show a+1+b=(a+b)+1 by omega]
  exact a9U a b (nxH h)
theorem c5d(n k:Nat)(h:Int): ∃t,70≤t∧Fu n k h t:=by
 obtain⟨t,z,e⟩:=b8R (A:=6364136223846793005) (C:=1442695040888963407) (a0:=1591034055961698251) (c0:=721347520444481703) (by decide) (by decide) 36 (nxN (n-k) h) 55135930528
 refine⟨(n-k)+t+70,by omega,by omega,fun i h1 h2=>?_⟩
 obtain⟨j,rfl⟩: ∃j,i=(n-k)+t+j:=⟨i-(n-k)-t,by omega⟩
 rw[a9U,a9U]
 refine b9b 70 55135930528 _ win0 ?_ j (by omega)
 rw[c3J t _ _ rfl,e]
 have:(2:Int) ^ 36=68719476736:=by decide
 rw[this]
 omega
theorem Fu.step{n k k':Nat}{h:Int}{t:Nat}(f:Fu n k h (t+1))(hk:k'=k+1∨(n≤k∧k'=k)):Fu n k' (nxH h) t:=by
 refine⟨by have:=f.by';omega,fun i h1 h2=>?_⟩
 exact f.no (i+1) (by omega) (by omega)
theorem Fu.last{n k:Nat}{h:Int}{t:Nat}(f:Fu n k h t)(h0:0<t)(hl:t≤70):n≤k∧dg h≠6:=
 ⟨by have:=f.by';omega,f.no 0 (by omega) h0⟩
end Go.Proofs.YtbakhfiibjkifaaGreat
/- Draws: the source of numbers in the caller's memory; how long a run goes on. -/
namespace Go.Proofs.YtbakhfiibjkifaaGreat
open Go.RowKit
set_option maxRecDepth 1000000
structure Cod(a:AV)(bs:List Int):Prop where
 b:isB a bs
 r: ∀k,k<bs.length→0≤atI bs k∧atI bs k<256
 l:bs.length<4611686018427387904
def Src(a:AV)(bs:List Int)(o:Option AV):Prop:= ∃(k:Nat) (h:Int),k≤bs.length∧o=some (b2s a (k:Int) h)
section
variable{a:AV}{bs:List Int}{g:Nat}{ro:Ro}{gn:Nat→Nat}{n:Int}
def NxP(a:AV)(bs:List Int)(g:Nat)(ro:Ro)(gn:Nat→Nat)(n:Int)(r:AV)(ro':Ro)(gn':Nat→Nat):Prop:= ∃v:Int,r=i64 v∧(n<1→v=0)∧(1≤n→0≤v∧v<n)∧gn=gn'∧ ∃w,ro'=upr ro 8288 g w∧Src a bs (some w)
theorem a4q(hc:Cod a bs)(hs:Src a bs (ro 8288 g))(hn:n<4611686018427387904):InS Tryz.prog 68 [.ptr 8288 g [] 0,i64 n] ro gn (NxP a bs g ro gn n):=by
 obtain⟨k,h,hk,hro⟩:=hs
 obtain⟨v,k',h',h1,h2,h3,h4⟩:=c3L hn hc.b hc.r hc.l hk h
 refine(h4 8288 g ro gn hro).toS.mono ?_
 rintro _ _ _ ⟨rfl,rfl,rfl⟩
 exact⟨v,rfl,h2,h3,rfl,_,rfl,k',h',h1,rfl⟩
theorem b5N{ro ro1:Ro}{g:Nat}{w:AV}(h:ro1 8288=ro 8288):upr ro1 8288 g w=a1W [8288] (upr ro 8288 g w) ro1:=by
 funext s
 by_cases hs:s=8288
 ·subst hs
  rw[a2b (by simp)]
  funext y
  rw[zdb,zdb,h]
 ·rw[a0O (by simpa using hs),a2u hs]
theorem b8t{gn gn1:Nat→Nat}(h:gn1 8288=gn 8288):gn1=a1W [8288] gn gn1:=by
 funext s
 by_cases hs:s=8288
 ·subst hs;rw[a2b (by simp),h]
 ·rw[a0O (by simpa using hs)]
theorem NxP.off{r:AV}{ro':Ro}{gn':Nat→Nat}(h:NxP a bs g ro gn n r ro' gn'): ∀s,s∉ [8288]→ro' s=ro s∧gn' s=gn s:=by
 obtain⟨v,_,_,_,rfl,w,rfl,_⟩:=h
 intro s hs
 exact⟨a2u (by simpa using hs),rfl⟩
theorem NxP.ne(hs:Src a bs (ro 8288 g)): ∃r ro' gn',NxP a bs g ro gn n r ro' gn':=by
 obtain⟨k,h,hk,hro⟩:=hs
 exact⟨_,_,_,0,rfl,fun _=>rfl,fun _=>⟨Int.le_refl _,by omega⟩,rfl,_,rfl,k,h,hk,rfl⟩
theorem NxP.loc{r:AV}{ro1 ro':Ro}{gn1 gn':Nat→Nat}(h1:ro1 8288=ro 8288)(h2:gn1 8288=gn 8288)(h:NxP a bs g ro1 gn1 n r ro' gn'): ∃ro2 gn2,NxP a bs g ro gn n r ro2 gn2∧ro'=a1W [8288] ro2 ro1∧gn'=a1W [8288] gn2 gn1:=by
 obtain⟨v,e1,e2,e3,rfl,w,rfl,e4⟩:=h
 exact⟨upr ro 8288 g w,gn,⟨v,e1,e2,e3,rfl,w,rfl,e4⟩,b5N h1,b8t h2⟩
theorem b3T{ops:Array Oper}{i:Nat}{st:St}(hc:Cod a bs)(hs:Src a bs (st.ro 8288 g))(hn:n<4611686018427387904)(ha:a2U ops i=true):inX XX ops i 68 [.ptr 8288 g [] 0,i64 n] st (NxP a bs g st.ro st.gn n) [] [8288]:=
 ⟨fun ro1 gn1 h1 h2=>(a4q hc (by rw[h1 8288 (.inr (by simp))];exact hs) hn).mono fun _ _ _ h=>h.loc (h1 8288 (.inr (by simp))) (h2 8288 (by simp)),fun _ _ _ h=>h.off,ha,.inl (NxP.ne hs)⟩
def PkP(a:AV)(bs:List Int)(g:Nat)(ro:Ro)(gn:Nat→Nat)(xs:List Int)(r:AV)(ro':Ro)(gn':Nat→Nat):Prop:= ∃k,k<xs.length∧r=i64 (atI xs k)∧gn=gn'∧ ∃w,ro'=upr ro 8288 g w∧Src a bs (some w)
theorem b9L{xs:List Int}{k:Nat}(hk:k<xs.length):(List.map i64 xs)[k]?=some (i64 (atI xs k)):=by simp[atI,hk]
theorem c1l{s2 g2:Nat}{xs:List Int}(hc:Cod a bs)(hs:Src a bs (ro 8288 g))(h2:ro s2 g2=some (a0H xs))(hne:s2≠8288)(h0:0<xs.length)(hx:xs.length<4611686018427387904):InS Tryz.prog 106 [.ptr 8288 g [] 0,.ref s2 g2 [] 0 xs.length] ro gn (PkP a bs g ro gn xs):=by
 refine a1U (fn:=Tryz.f106) (code:=a0b Tryz.f106) Tryz.func106 rfl (by kernel_rfl) ?_
 intro sl hs'
 have s0:sl 0= .ptr 8288 g [] 0:=hs' 0
 have s1:sl 1= .ref s2 g2 [] 0 xs.length:=hs' 1
 dsimp only[Tryz.f106,a0b,Option.getD]
 simp(maxSteps:=10000000) (disch:=first|assumption|omega) only[go_sem,s0,s1,h2]
 refine a0p rfl (a4q hc hs (n:=(xs.length:Int)) (by omega)) ?_
 rintro _ _ _ ⟨v,rfl, -, hv,rfl,w,rfl,hw⟩
 obtain⟨v0,v1⟩:=hv (by omega)
 obtain⟨k,rfl⟩:=Int.eq_ofNat_of_zero_le v0
 have hk:k<xs.length:=by omega
 have h2':upr ro 8288 g w s2 g2=some (a0H xs):=by rw[a2u hne];exact h2
 have hkn:((k:Int))<xs.length:=by omega
 simp(maxSteps:=10000000) (disch:=first|assumption|omega) only[go_sem,h2',b9L hk]
 refine⟨.inr rfl,_,rfl,k,hk,?_,rfl,w,rfl,hw⟩
 exact Yfs
theorem PkP.off{xs:List Int}{r:AV}{ro':Ro}{gn':Nat→Nat}(h:PkP a bs g ro gn xs r ro' gn'): ∀s,s∉ [8288]→ro' s=ro s∧gn' s=gn s:=by
 obtain⟨k,_,_,rfl,w,rfl,_⟩:=h
 intro s hs
 exact⟨a2u (by simpa using hs),rfl⟩
theorem PkP.ne{xs:List Int}(hs:Src a bs (ro 8288 g))(h0:0<xs.length): ∃r ro' gn',PkP a bs g ro gn xs r ro' gn':=by
 obtain⟨k,h,hk,hro⟩:=hs
 exact⟨_,_,_,0,h0,rfl,rfl,_,rfl,k,h,hk,rfl⟩
theorem PkP.loc{xs:List Int}{r:AV}{ro1 ro':Ro}{gn1 gn':Nat→Nat}(h1:ro1 8288=ro 8288)(h2:gn1 8288=gn 8288)(h:PkP a bs g ro1 gn1 xs r ro' gn'): ∃ro2 gn2,PkP a bs g ro gn xs r ro2 gn2∧ro'=a1W [8288] ro2 ro1∧gn'=a1W [8288] gn2 gn1:=by
 obtain⟨k,e1,e2,rfl,w,rfl,e4⟩:=h
 exact⟨upr ro 8288 g w,gn,⟨k,e1,e2,rfl,w,rfl,e4⟩,b5N h1,b8t h2⟩
theorem c4F{ops:Array Oper}{i:Nat}{st:St}{s2 g2:Nat}{xs:List Int}(hc:Cod a bs)(hs:Src a bs (st.ro 8288 g))(h2:st.ro s2 g2=some (a0H xs))(hne:s2≠8288)(h0:0<xs.length)(hx:xs.length<4611686018427387904)(ha:a2U ops i=true):
  inX XX ops i 106 [.ptr 8288 g [] 0,.ref s2 g2 [] 0 xs.length] st (PkP a bs g st.ro st.gn xs) [s2] [8288]:=
 ⟨fun ro1 gn1 h3 h4=>(c1l hc (by rw[h3 8288 (.inr (by simp))];exact hs) (by rw[h3 s2 (.inl (by simp))];exact h2) hne h0 hx).mono fun _ _ _ h=>h.loc (h3 8288 (.inr (by simp))) (h4 8288 (by simp)),fun _ _ _ h=>h.off,ha,.inl (PkP.ne hs h0)⟩
end
def SrF(a:AV)(bs:List Int)(t:Nat)(o:Option AV):Prop:= ∃(k:Nat) (h:Int),k≤bs.length∧o=some (b2s a (k:Int) h)∧Fu bs.length k h t
theorem SrF.src{a:AV}{bs:List Int}{t:Nat}{o:Option AV}(h:SrF a bs t o):Src a bs o:=by
 obtain⟨k,h,h1,h2, -⟩:=h
 exact⟨k,h,h1,h2⟩
theorem Src.fuel{a:AV}{bs:List Int}{o:Option AV}(h:Src a bs o): ∃t,70≤t∧SrF a bs t o:=by
 obtain⟨k,h,h1,h2⟩:=h
 obtain⟨t,h3,h4⟩:=c5d bs.length k h
 exact⟨t,h3,k,h,h1,h2,h4⟩
def NxF(a:AV)(bs:List Int)(g:Nat)(ro:Ro)(gn:Nat→Nat)(n:Int)(t:Nat)(r:AV)(ro':Ro)(gn':Nat→Nat):Prop:= ∃v:Int,r=i64 v∧0≤v∧v<n∧gn=gn'∧ ∃w,ro'=upr ro 8288 g w∧SrF a bs t (some w)∧(t<70→n=8→v≠6)
theorem a2L{a:AV}{bs:List Int}{g:Nat}{ro:Ro}{gn:Nat→Nat}{n:Int}{t:Nat}(hc:Cod a bs)(hs:SrF a bs (t+1) (ro 8288 g))(h1:1≤n)(hn:n<4611686018427387904):InS Tryz.prog 68 [.ptr 8288 g [] 0,i64 n] ro gn (NxF a bs g ro gn n t):=by
 obtain⟨k,h,hk,hro,hF⟩:=hs
 have hx:0≤nxX h:=(a6f _).1
 rcases Nat.lt_or_ge k bs.length with h2|h2
 ·have hb:=hc.r k h2
  refine(a9P ⟨h1,hn⟩ hc.b hc.r hc.l h2 hro).toS.mono ?_
  rintro _ _ _ ⟨rfl,rfl,rfl⟩
  refine⟨_,rfl,Int.tmod_nonneg _ (by omega),Int.tmod_lt_of_pos _ (by omega),rfl,_,rfl,⟨k+1,_,h2,rfl,hF.step (.inl rfl)⟩,fun h3 _=>?_⟩
  have:=(hF.last (by omega) (by omega)).1
  omega
 ·refine(a9F ⟨h1,hn⟩ hc.b hc.l (by omega) hro).toS.mono ?_
  rintro _ _ _ ⟨rfl,rfl,rfl⟩
  refine⟨_,rfl,Int.tmod_nonneg _ hx,Int.tmod_lt_of_pos _ (by omega),rfl,_,rfl,⟨k,_,hk,rfl,hF.step (.inr ⟨h2,rfl⟩)⟩,fun h3 e=>?_⟩
  subst e
  exact(hF.last (by omega) (by omega)).2
def itF(f:Nat→C3→C3):Nat→C3→C3
 |0,F=>F
 |k+1,F=>f k (itF f k F)
def prO:List Int→Int
 | []=>1
 |x::O=>x*prO O
theorem b0k(O:List Int)(x:Int):prO (O++ [x])=prO O*x:=by
 induction O with
 |nil=>show x*1=1*x;omega
 |cons y O ih=>show y*prO (O++ [x])=y*prO O*x;rw[ih];grind
structure GrO(O:List Int)(m:Int):Prop where
 l1:1≤O.length
 l4:O.length≤4
 rg: ∀x,x∈O→1≤x
 sz:prO O≤m
theorem a2D: ∀ {O:List Int},(∀x,x∈O→1≤x)→1≤prO O
 | [],_=>Int.le_refl _
 |x::O,h=>by
  have h1:=a2D (O:=O) fun y hy=>h y (List.mem_cons_of_mem _ hy)
  have h2:=h x (by simp)
  have:1*1≤x*prO O:=Int.mul_le_mul h2 h1 (by omega) (by omega)
  show 1≤x*prO O
  omega
theorem b0F: ∀ {O:List Int},(∀x,x∈O→1≤x)→ ∀x,x∈O→x≤prO O
 | [],_,_,h=>by cases h
 |y::O,h,x,hx=>by
  have h1:=a2D (O:=O) fun y hy=>h y (List.mem_cons_of_mem _ hy)
  have h2:=h y (by simp)
  show x≤y*prO O
  rcases List.mem_cons.1 hx with rfl|hx
  ·have:x*1≤x*prO O:=Int.mul_le_mul_of_nonneg_left h1 (by omega)
   omega
  ·have h3:=b0F (O:=O) (fun y hy=>h y (List.mem_cons_of_mem _ hy)) x hx
   have:1*prO O≤y*prO O:=Int.mul_le_mul_of_nonneg_right h2 (by omega)
   omega
theorem b6J{O:List Int}{i:Nat}(hi:i<O.length):prO (O.take (i+1))=prO (O.take i)*atI O i:=by
 rw[List.take_add_one,List.getElem?_eq_getElem hi]
 show prO (O.take i++ [O[i]])=_
 rw[b0k]
 unfold atI
 rw[List.getD_eq_getElem?_getD,List.getElem?_eq_getElem hi]
 rfl
theorem b6Q{O:List Int}{i:Nat}(hi:i<O.length):prO (O.drop i)=atI O i*prO (O.drop (i+1)):=by
 rw[List.drop_eq_getElem_cons hi]
 unfold atI
 rw[List.getD_eq_getElem?_getD,List.getElem?_eq_getElem hi]
 rfl
theorem a9G{O:List Int}(h: ∀x,x∈O→1≤x): ∀ {i:Nat},prO (O.take i)≤prO O:=by
 induction O with
 |nil=>intro i;rw[List.take_nil];exact Int.le_refl _
 |cons y O ih=>
  intro i
  cases i with
  |zero=>exact a2D h
  |succ i=>
   have h3:=ih (fun y hy=>h y (List.mem_cons_of_mem _ hy)) (i:=i)
   exact Int.mul_le_mul_of_nonneg_left h3 (by have:=h y (by simp);omega)
theorem a7c{O:List Int}{i:Nat}(hi:i<O.length):atI O i∈O:=by
 unfold atI
 rw[List.getD_eq_getElem?_getD,List.getElem?_eq_getElem hi]
 exact List.getElem_mem hi
section
variable{o:AV}{O:List Int}
theorem b9S(ho:isL o O)(h:GrO O 16):a0d Tryz.prog 167 [o,i64 16] (i64 (prO O)):=by
 have hl4:=h.l4
 refine a0e (fn:=Tryz.f167) (code:=a0b Tryz.f167) Tryz.func167 rfl (by kernel_rfl) (rfl) ?_
 intro sl hs
 have s0:sl 0=o:=hs 0
 have s1:sl 1=i64 16:=hs 1
 dsimp only[Tryz.f167,a0b,Option.getD]
 refine Yah ?_
 refine a0f (fun i st=>st.sl 0=o∧st.sl 1=i64 16∧st.sl 5=i64 (prO (O.take i))∧st.sl 6=i64 (i:Int)) O.length ?_ ?_ ?_
 ·refine Yac ?_
  exact⟨rfl,rfl⟩
 ·rintro i sl ro gn hi ⟨s0,s1,s5,s6⟩
  dsimp only at s0 s1 s5 s6
  have hi':(i:Int)<(O.length:Nat):=by omega
  have hb:=b0F h.rg _ (a7c hi)
  have hb1:=h.rg _ (a7c hi)
  have hs:=h.sz
  have h2: ¬16<atI O i:=by omega
  have ht:=b6J hi
  have hp:1≤prO (O.take i):=a2D fun x hx=>h.rg x (List.mem_of_mem_take hx)
  have hq:=a9G h.rg (i:=i+1)
  rw[ht]at hq ⊢
  have h3: ¬16<prO (O.take i)*atI O i:=by omega
  have h4:1*1≤prO (O.take i)*atI O i:=Int.mul_le_mul hp hb1 (by omega) (by omega)
  simp(disch:=first|assumption|omega) only[go_sem,s0,s1,s5,s6,hi',eq_false h2,eq_false h3]
  exact a0w (by omega)
 ·rintro sl ro gn ⟨s0,s1,s5,s6⟩
  dsimp only at s0 s1 s5 s6
  have hi': ¬((O.length:Nat):Int)<(O.length:Nat):=by omega
  rw[List.take_length]at s5
  simp(disch:=first|assumption|omega) only[go_sem,s0,s5,s6,hi']
  exact Yaa
def aeK(O:List Int)(x y:Int):Nat→Int×Int×Int×Int
 |0=>(0,1,x,y)
 |k+1=>((aeK O x y k).1+(((aeK O x y k).2.2.1.tmod (atI O (O.length-1-k))+(aeK O x y k).2.2.2.tmod (atI O (O.length-1-k))).tmod (atI O (O.length-1-k)))*(aeK O x y k).2.1,
   (aeK O x y k).2.1*atI O (O.length-1-k),(aeK O x y k).2.2.1.tdiv (atI O (O.length-1-k)),(aeK O x y k).2.2.2.tdiv (atI O (O.length-1-k)))
theorem tdm{u m:Int}(hu:0≤u)(hm:1≤m):0≤u.tmod m∧u.tmod m<m∧0≤u.tdiv m∧u.tdiv m≤u:=by
 rw[Int.tmod_eq_emod_of_nonneg hu,Int.tdiv_eq_ediv_of_nonneg hu]
 exact⟨Int.emod_nonneg _ (by omega),Int.emod_lt_of_pos _ (by omega),Int.ediv_nonneg hu (by omega),Int.ediv_le_self _ hu⟩
theorem b5I{m0 x y:Int}(h:GrO O m0)(hx:0≤x)(hy:0≤y): ∀k,k≤O.length→0≤(aeK O x y k).1∧(aeK O x y k).1<(aeK O x y k).2.1∧(aeK O x y k).2.1=prO (O.drop (O.length-k))∧0≤(aeK O x y k).2.2.1∧(aeK O x y k).2.2.1≤x∧0≤(aeK O x y k).2.2.2∧(aeK O x y k).2.2.2≤y
 |0,_=>by
  simp only[aeK]
  rw[Nat.sub_zero,List.drop_length]
  exact⟨Int.le_refl _,by decide,rfl,hx,Int.le_refl _,hy,Int.le_refl _⟩
 |k+1,hk=>by
  obtain⟨h1,h2,h3,h4,h5,h6,h7⟩:=b5I h hx hy k (by omega)
  have hm:=h.rg _ (a7c (O:=O) (i:=O.length-1-k) (by omega))
  have hd:=b6Q (O:=O) (i:=O.length-1-k) (by omega)
  rw[show O.length-1-k+1=O.length-k by omega, ←h3,show O.length-1-k=O.length-(k+1) by omega]at hd
  rw[show O.length-1-k=O.length-(k+1) by omega]at hm
  simp only[aeK]
  rw[show O.length-1-k=O.length-(k+1) by omega]
  generalize aeK O x y k=t at h1 h2 h3 h4 h5 h6 h7 hd ⊢
  obtain⟨a,s,u,v⟩:=t
  dsimp only at h1 h2 h3 h4 h5 h6 h7 hd ⊢
  generalize atI O (O.length-(k+1))=m at hm hd ⊢
  obtain⟨c1,c2,c3,c4⟩:=tdm h4 hm
  obtain⟨c5,c6,c7,c8⟩:=tdm h6 hm
  obtain⟨c9,c10, -, -⟩:=tdm (u:=u.tmod m+v.tmod m) (by omega) hm
  generalize (u.tmod m+v.tmod m).tmod m=z at c9 c10 ⊢
  have b1:0≤z*s:=Int.mul_nonneg c9 (by omega)
  have b2:z*s≤(m-1)*s:=Int.mul_le_mul_of_nonneg_right (by omega) (by omega)
  have b3:(m-1)*s=s*m-s:=by grind
  refine⟨by omega,by omega,by rw[hd];exact Int.mul_comm _ _,c3,by omega,c7,by omega⟩
theorem c5b(ho:isL o O)(h:GrO O 16){x y:Int}(hx:0≤x∧x<1000)(hy:0≤y∧y<1000):a0d Tryz.prog 169 [o,i64 x,i64 y] (i64 (aeK O x y O.length).1):=by
 have hl1:=h.l1
 have hl4:=h.l4
 refine a0e (fn:=Tryz.f169) (code:=a0b Tryz.f169) Tryz.func169 rfl (by kernel_rfl) (rfl) ?_
 intro sl hs
 have s0:sl 0=o:=hs 0
 have s1:sl 1=i64 x:=hs 1
 have s2:sl 2=i64 y:=hs 2
 dsimp only[Tryz.f169,a0b,Option.getD]
 refine Ydc ?_
 refine a0f (fun k st=>st.sl 0=o∧st.sl 1=i64 (aeK O x y k).2.2.1∧st.sl 2=i64 (aeK O x y k).2.2.2∧st.sl 7=i64 (aeK O x y k).1∧st.sl 8=i64 (aeK O x y k).2.1∧st.sl 9=i64 ((O.length:Int)-1-(k:Int))) O.length ?_ ?_ ?_
 ·refine Ycz ?_
  refine⟨rfl,rfl,rfl,rfl,a0w (by omega)⟩
 ·rintro k sl ro gn hk ⟨s0,s1,s2,s7,s8,s9⟩
  dsimp only at s0 s1 s2 s7 s8 s9
  have hk':(k:Int)<(O.length:Nat):=by omega
  have hidx:((O.length:Int)-1-(k:Int))=((O.length-1-k:Nat):Int):=by omega
  have hge:(0:Int)≤((O.length-1-k:Nat):Int):=by omega
  have hkk:O.length-1-k<O.length:=by omega
  obtain⟨h1,h2,h3,h4,h5,h6,h7⟩:=b5I h hx.1 hy.1 k (by omega)
  have hs1:prO (O.drop (O.length-k))≤prO O:=by
   have: ∀(L:List Int) (i:Nat),(∀x,x∈L→1≤x)→prO (L.drop i)≤prO L:=by
    intro L
    induction L with
    |nil=>intro i _;rw[List.drop_nil];exact Int.le_refl _
    |cons y L ih=>
     intro i hL
     cases i with
     |zero=>exact Int.le_refl _
     |succ i=>
      have h1:=ih i fun y hy=>hL y (List.mem_cons_of_mem _ hy)
      have h2:=hL y (by simp)
      have h3:=a2D (O:=L) fun y hy=>hL y (List.mem_cons_of_mem _ hy)
      have:1*prO L≤y*prO L:=Int.mul_le_mul_of_nonneg_right h2 (by omega)
      show prO (L.drop i)≤y*prO L
      omega
   exact this O _ h.rg
  have hsz:=h.sz
  have hm:=h.rg _ (a7c hkk)
  have hm2:=b0F h.rg _ (a7c hkk)
  simp only[aeK]
  generalize aeK O x y k=t at s1 s2 s7 s8 h1 h2 h3 h4 h5 h6 h7 ⊢
  obtain⟨a,s,u,v⟩:=t
  dsimp only at s1 s2 s7 s8 h1 h2 h3 h4 h5 h6 h7 ⊢
  generalize hmm:atI O (O.length-1-k)=m at hm hm2 ⊢
  obtain⟨c1,c2,c3,c4⟩:=tdm h4 hm
  obtain⟨c5,c6,c7,c8⟩:=tdm h6 hm
  obtain⟨c9,c10, -, -⟩:=tdm (u:=u.tmod m+v.tmod m) (by omega) hm
  have hmz: ¬m=0:=by omega
  have b1:0≤(u.tmod m+v.tmod m).tmod m*s:=Int.mul_nonneg c9 (by omega)
  have b2:(u.tmod m+v.tmod m).tmod m*s≤16*16:=Int.mul_le_mul (by omega) (by omega) (by omega) (by omega)
  have b3:0≤s*m:=Int.mul_nonneg (by omega) (by omega)
  have b4:s*m≤16*16:=Int.mul_le_mul (by omega) (by omega) (by omega) (by omega)
  refine Yga ?_
  refine a0r (by kernel_rfl) ?_
  refine Yga ?_
  exact a0w (by omega)
 ·rintro sl ro gn ⟨s0,s1,s2,s7,s8,s9⟩
  dsimp only at s0 s1 s2 s7 s8 s9
  have hk': ¬((O.length:Nat):Int)<(O.length:Nat):=by omega
  have hlt: ¬(0:Int)≤(O.length:Int)-1-(O.length:Int):=by omega
  simp(disch:=first|assumption|omega) only[go_sem,s7,s9]
  exact Yaa
def adE(O:List Int)(i j:Nat):Nat:=(aeK O (i:Int) (j:Int) O.length).1.toNat
theorem b8W{m0:Int}(h:GrO O m0)(i j:Nat):(aeK O (i:Int) (j:Int) O.length).1=((adE O i j:Nat):Int)∧((adE O i j:Nat):Int)<prO O:=by
 obtain⟨h1,h2,h3, -⟩:=b5I h (Int.natCast_nonneg i) (Int.natCast_nonneg j) O.length (Nat.le_refl _)
 rw[Nat.sub_self,List.drop_zero]at h3
 unfold adE
 omega
def grF(O:List Int)(n:Nat):C3:=itF (fun i=>itF (fun j F=>a0Z F i j (adE O i j) 1) n) n (fun _ _ _=>0)
theorem b1C(ho:isL o O)(h:GrO O 16){m:Nat}(hm:m≤16):a0d Tryz.prog 154 [o,i64 (m:Int)] (a0t (grF O (prO O).toNat) ((prO O).toNat+m)):=by
 have hp:=a2D h.rg
 have hs:=h.sz
 obtain⟨n,hn⟩: ∃n:Nat,prO O=n:=⟨(prO O).toNat,by omega⟩
 have cS:=b9S ho h
 have hal: ∀i j:Nat,i<n→j<n→((adE O i j:Nat):Int)<(n:Int):=fun i j _ _=>by rw[←hn];exact(b8W h i j).2
 have cA: ∀i j:Nat,i<n→j<n→a0d Tryz.prog 169 [o,i64 (i:Int),i64 (j:Int)] (i64 ((adE O i j:Nat):Int)):=fun i j hi hj=>by
  rw[←(b8W h i j).1]
  exact c5b ho h ⟨by omega,by omega⟩ ⟨by omega,by omega⟩
 rw[hn]at cS hs ⊢
 rw[Int.toNat_natCast]
 have hnm:((n:Int)+m)=((n+m:Nat):Int):=by omega
 have hpo:=a1J ho
 have hN:n+m≤a0G:=by unfold a0G;omega
 refine a0e (fn:=Tryz.f154) (code:=a0b Tryz.f154) Tryz.func154 rfl (by kernel_rfl) (a0J _ _) ?_
 intro sl hs
 have s0:sl 0=o:=hs 0
 have s1:sl 1=i64 (m:Int):=hs 1
 dsimp only[Tryz.f154,a0b,Option.getD]
 simp(disch:=first|assumption|omega) only[go_sem,s0]
 refine a0c _ cS PUt rfl rfl ?_
 simp(disch:=first|assumption|omega) only[go_sem,s1,ti2,hnm]
 refine a0c _ (c3V hN) rfl rfl rfl ?_
 simp(disch:=first|assumption|omega) only[go_sem,a0i,zfe]
 refine a0f (fun i st=>st.sl 0=o∧st.sl 5=i64 (n:Int)∧st.sl 6= .ref 12336 1 [] 0 (n+m)∧st.sl 7=i64 (i:Int)∧st.ro 12336 1=some (a0t (itF (fun i=>itF (fun j F=>a0Z F i j (adE O i j) 1) n) i (fun _ _ _=>0)) (n+m))) n ?_ ?_ ?_
 ·refine Yac ?_
  exact⟨rfl,rfl⟩
 ·rintro i sl ro gn hi ⟨s0,s5,s6,s7,r12336⟩
  dsimp only at s0 s5 s6 s7 r12336
  have hi':(i:Int)<(n:Nat):=by omega
  have hi2:i<n+m:=by omega
  generalize hG:itF (fun i=>itF (fun j F=>a0Z F i j (adE O i j) 1) n) i (fun _ _ _=>0)=G at r12336
  have hG2:itF (fun i=>itF (fun j F=>a0Z F i j (adE O i j) 1) n) (i+1) (fun _ _ _=>0)=itF (fun j F=>a0Z F i j (adE O i j) 1) n G:=by rw[←hG];rfl
  rw[hG2]
  simp(disch:=first|assumption|omega) only[go_sem,s5,s7,hi',ti2]
  refine a0f (fun j st=>st.sl 0=o∧st.sl 5=i64 (n:Int)∧st.sl 6= .ref 12336 1 [] 0 (n+m)∧st.sl 7=i64 (i:Int)∧st.sl 8=i64 (j:Int)∧st.ro 12336 1=some (a0t (itF (fun j F=>a0Z F i j (adE O i j) 1) j G) (n+m))) n ?_ ?_ ?_
  ·simp only[↓za, ↓reduceIte,Nat.reduceEqDiff,zb,reduceCtorEq,s0,s5,s6,s7,r12336]
   exact⟨rfl,rfl⟩
  ·rintro j sl ro gn hj ⟨s0,s5,s6,s7,s8,r12336⟩
   dsimp only at s0 s5 s6 s7 s8 r12336
   have hj':(j:Int)<(n:Nat):=by omega
   have hj2:j<n+m:=by omega
   have hz:=hal i j hi hj
   have hz2:adE O i j<n+m:=by omega
   have hz3:((adE O i j:Nat):Int)<((n+m:Nat):Int):=by omega
   have hu:itF (fun j F=>a0Z F i j (adE O i j) 1) (j+1) G=a0Z (itF (fun j F=>a0Z F i j (adE O i j) 1) j G) i j (adE O i j) 1:=rfl
   rw[hu]
   have ca:=cA i j hi hj
   generalize itF (fun j F=>a0Z F i j (adE O i j) 1) j G=H at r12336
   simp(disch:=first|assumption|omega) only[go_sem,s0,s5,s6,s7,s8,r12336,hj',ti2,hi2,hj2]
   refine a0A _ ca PUt rfl ?_
   simp(disch:=first|assumption|omega) only[go_sem,ti2,hz2,a0M r12336 hi2 hj2,a1x r12336 hi2 hj2,a1m r12336 hi2 hj2 hz2]
   refine a0r (by kernel_rfl) ?_
   simp(disch:=first|assumption|omega) only[go_sem,s0,s5,s6,s7,s8,ti2]
   exact a0w (by omega)
  ·rintro sl ro gn ⟨s0,s5,s6,s7,s8,r12336⟩
   dsimp only at s0 s5 s6 s7 s8 r12336
   have hj': ¬((n:Nat):Int)<(n:Nat):=by omega
   simp(disch:=first|assumption|omega) only[go_sem,s0,s5,s6,s7,s8,r12336,hj',ti2]
   exact a0w (by omega)
 ·rintro sl ro gn ⟨s0,s5,s6,s7,r12336⟩
  dsimp only at s0 s5 s6 s7 r12336
  have hi': ¬((n:Nat):Int)<(n:Nat):=by omega
  simp(disch:=first|assumption|omega) only[go_sem,s5,s6,s7,hi',ti2]
  refine Yed ?_
  unfold grF
  rfl
end
def mnI(a b:Int):Int:=if b<a then b else a
def mxI(a b:Int):Int:=if b>a then b else a
theorem c1D(a b:Int):kMin (i64 a) (.sc (.int .i64 b))=some ⟨i64 (mnI a b),none,[],[]⟩:=nr _
theorem c2J(a b:Int):kMax (i64 a) (.sc (.int .i64 b))=some ⟨i64 (mxI a b),none,[],[]⟩:=nr _
attribute [go_sem] c1D c2J
theorem b0J(x n:Nat):Int.tmod (x:Int) (n:Int)=((x % n:Nat):Int):=rfl
theorem b2y(x n:Nat):Int.tdiv (x:Int) (n:Int)=((x / n:Nat):Int):=rfl
def dhZ(n x y:Nat):Nat:=(if n≤x then(x % n+n-y % n) % n else(x % n+y % n) % n)+(if(n≤x)↔(n≤y)then 0 else n)
theorem c1E{n:Nat}(h:1≤n)(x y:Nat):dhZ n x y<2*n:=by
 unfold dhZ
 have h1:(x % n+n-y % n) % n<n:=Nat.mod_lt _ h
 have h2:(x % n+y % n) % n<n:=Nat.mod_lt _ h
 split<;>split<;>omega
def dgF(n:Nat):C3:=itF (fun x=>itF (fun y F=>a0Z F x y (dhZ n x y) 1) (2*n)) (2*n) (fun _ _ _=>0)
theorem c4j{n:Nat}(h1:1≤n)(hn:n≤8):a0d Tryz.prog 156 [i64 (n:Int)] (a0t (dgF n) (2*n)):=by
 have hN:2*n≤a0G:=by unfold a0G;omega
 have h2n:(2:Int)*(n:Int)=((2*n:Nat):Int):=by omega
 have hnz: ¬(n:Int)=0:=by omega
 refine a0e (fn:=Tryz.f156) (code:=a0b Tryz.f156) Tryz.func156 rfl (by kernel_rfl) (a0J _ _) ?_
 intro sl hs
 have s0:sl 0=i64 (n:Int):=hs 0
 dsimp only[Tryz.f156,a0b,Option.getD]
 simp(disch:=first|assumption|omega) only[go_sem,s0,ti2,h2n]
 refine a0c _ (c3V hN) rfl rfl rfl ?_
 simp only[go_sem,a0i,zfe]
 refine a0f (fun x st=>st.sl 0=i64 (n:Int)∧st.sl 3= .ref 8224 1 [] 0 (2*n)∧st.sl 4=i64 (x:Int)∧st.ro 8224 1=some (a0t (itF (fun x=>itF (fun y F=>a0Z F x y (dhZ n x y) 1) (2*n)) x (fun _ _ _=>0)) (2*n))) ((2*n)) ?_ ?_ ?_
 ·refine Yaf ?_
  exact⟨rfl,rfl⟩
 ·rintro x sl ro gn hx ⟨s0,s3,s4,r8224⟩
  dsimp only at s0 s3 s4 r8224
  have hx':(x:Int)<((2*n):Nat):=by omega
  generalize hG:itF (fun x=>itF (fun y F=>a0Z F x y (dhZ n x y) 1) (2*n)) x (fun _ _ _=>0)=G at r8224
  have hG2:itF (fun x=>itF (fun y F=>a0Z F x y (dhZ n x y) 1) (2*n)) (x+1) (fun _ _ _=>0)=itF (fun y F=>a0Z F x y (dhZ n x y) 1) (2*n) G:=by rw[←hG];rfl
  rw[hG2]
  simp(disch:=first|assumption|omega) only[go_sem,s0,s4,hx',ti2,h2n]
  refine a0f (fun y st=>st.sl 0=i64 (n:Int)∧st.sl 3= .ref 8224 1 [] 0 (2*n)∧st.sl 4=i64 (x:Int)∧st.sl 5=i64 (y:Int)∧st.ro 8224 1=some (a0t (itF (fun y F=>a0Z F x y (dhZ n x y) 1) y G) (2*n))) ((2*n)) ?_ ?_ ?_
  ·simp only[↓za, ↓reduceIte,Nat.reduceEqDiff,zb,reduceCtorEq,s0,s3,s4,r8224]
   exact⟨rfl,rfl⟩
  ·rintro y sl ro gn hy ⟨s0,s3,s4,s5,r8224⟩
   dsimp only at s0 s3 s4 s5 r8224
   have hy':(y:Int)<((2*n):Nat):=by omega
   have hz:=c1E h1 x y
   have hz3:((dhZ n x y:Nat):Int)<((2*n:Nat):Int):=by omega
   have hu:itF (fun y F=>a0Z F x y (dhZ n x y) 1) (y+1) G=a0Z (itF (fun y F=>a0Z F x y (dhZ n x y) 1) y G) x y (dhZ n x y) 1:=rfl
   rw[hu]
   generalize itF (fun y F=>a0Z F x y (dhZ n x y) 1) y G=H at r8224
   have m1:x % n<n:=Nat.mod_lt _ h1
   have m2:y % n<n:=Nat.mod_lt _ h1
   have e1:=b0J x n
   have e2:=b0J y n
   have e3:(((x % n:Nat):Int)+((y % n:Nat):Int)).tmod (n:Int)=(((x % n+y % n) % n:Nat):Int):=b0J (x % n+y % n) n
   have e4:(((x % n:Nat):Int)-((y % n:Nat):Int)+(n:Int)).tmod (n:Int)=(((x % n+n-y % n) % n:Nat):Int):=by
    rw[show ((x % n:Nat):Int)-((y % n:Nat):Int)+(n:Int)=((x % n+n-y % n:Nat):Int) by omega]
    exact b0J _ _
   have m3:(x % n+y % n) % n<n:=Nat.mod_lt _ h1
   have m4:(x % n+n-y % n) % n<n:=Nat.mod_lt _ h1
   simp(disch:=first|assumption|omega) only[go_sem,s0,s4,s5,ti2,e1,e2]
   refine a0r (by kernel_rfl) ?_
   by_cases hX:n≤x
   ·have hX':(n:Int)≤(x:Int):=by omega
    by_cases hY:n≤y
    ·have hY':(n:Int)≤(y:Int):=by omega
     have ez:(((x % n+n-y % n) % n:Nat):Int)=((dhZ n x y:Nat):Int):=by unfold dhZ;rw[if_pos hX,if_pos ⟨fun _=>hY,fun _=>hX⟩];omega
     simp(disch:=first|assumption|omega) only[go_sem,s0,s3,s4,s5,r8224,hy,ti2,ti4,e3,e4,ez,hz,a0M r8224 hx hy,a1x r8224 hx hy,a1m r8224 hx hy hz]
     exact a0w (by omega)
    ·have hY': ¬(n:Int)≤(y:Int):=by omega
     have ez:(((x % n+n-y % n) % n:Nat):Int)+(n:Int)=((dhZ n x y:Nat):Int):=by unfold dhZ;rw[if_pos hX,if_neg (fun h=>hY (h.1 hX))];omega
     simp(disch:=first|assumption|omega) only[go_sem,s0,s3,s4,s5,r8224,hy,ti2,ti4,e3,e4,ez,hz,a0M r8224 hx hy,a1x r8224 hx hy,a1m r8224 hx hy hz]
     exact a0w (by omega)
   ·have hX': ¬(n:Int)≤(x:Int):=by omega
    by_cases hY:n≤y
    ·have hY':(n:Int)≤(y:Int):=by omega
     have ez:(((x % n+y % n) % n:Nat):Int)+(n:Int)=((dhZ n x y:Nat):Int):=by unfold dhZ;rw[if_neg hX,if_neg (fun h=>hX (h.2 hY))];omega
     simp(disch:=first|assumption|omega) only[go_sem,s0,s3,s4,s5,r8224,hy,ti2,ti4,e3,ez,hz,a0M r8224 hx hy,a1x r8224 hx hy,a1m r8224 hx hy hz]
     exact a0w (by omega)
    ·have hY': ¬(n:Int)≤(y:Int):=by omega
     have ez:(((x % n+y % n) % n:Nat):Int)=((dhZ n x y:Nat):Int):=by unfold dhZ;rw[if_neg hX,if_pos ⟨fun h=>absurd h hX,fun h=>absurd h hY⟩];omega
     simp(disch:=first|assumption|omega) only[go_sem,s0,s3,s4,s5,r8224,hy,ti2,ti4,e3,ez,hz,a0M r8224 hx hy,a1x r8224 hx hy,a1m r8224 hx hy hz]
     exact a0w (by omega)
  ·rintro sl ro gn ⟨s0,s3,s4,s5,r8224⟩
   dsimp only at s0 s3 s4 s5 r8224
   have hy': ¬(((2*n):Nat):Int)<((2*n):Nat):=by omega
   simp(disch:=first|assumption|omega) only[go_sem,s0,s3,s4,s5,r8224,hy',ti2,h2n]
   exact a0w (by omega)
 ·rintro sl ro gn ⟨s0,s3,s4,r8224⟩
  dsimp only at s0 s3 s4 r8224
  have hx': ¬(((2*n):Nat):Int)<((2*n):Nat):=by omega
  simp(disch:=first|assumption|omega) only[go_sem,s0,s3,s4,hx',ti2,h2n]
  simp only[zr,a1Z,a1H,a2g,zes,zhk, ↓za, ↓reduceIte,r8224]
  unfold dgF
  rfl
def nrF(O:List Int)(n:Nat)(k:Int):C3:=a0Z (itF (fun a F=>a0Z (a0Z (a0Z F a n n 1) n a n 1) n n a 1) n (grF O n)) n n n k
theorem c1R{o:AV}{O:List Int}(ho:isL o O)(h:GrO O 15)(k:Int):a0d Tryz.prog 158 [o,i64 k] (a0t (nrF O (prO O).toNat k) ((prO O).toNat+1)):=by
 have hp:=a2D h.rg
 have hs:=h.sz
 have cG:=b1C ho (m:=1) ⟨h.l1,h.l4,h.rg,by omega⟩ (by decide)
 obtain⟨n,hn⟩: ∃n:Nat,prO O=n:=⟨(prO O).toNat,by omega⟩
 rw[hn]at cG hs ⊢
 rw[Int.toNat_natCast]at cG ⊢
 have hpo:=a1J ho
 have h1n:((n+1:Nat):Int)-1=(n:Int):=by omega
 have hnn:n<n+1:=by omega
 have hnn':(n:Int)<((n+1:Nat):Int):=by omega
 refine a0e (fn:=Tryz.f158) (code:=a0b Tryz.f158) Tryz.func158 rfl (by kernel_rfl) (a0J _ _) ?_
 intro sl hs
 have s0:sl 0=o:=hs 0
 have s1:sl 1=i64 k:=hs 1
 dsimp only[Tryz.f158,a0b,Option.getD]
 simp only[go_sem,s0]
 refine a0c _ cG PUt rfl rfl ?_
 simp(disch:=first|assumption|omega) only[go_sem,a0i,zfe,ti3,h1n]
 refine a0f (fun a st=>st.sl 1=i64 k∧st.sl 5= .ref 8208 1 [] 0 (n+1)∧st.sl 6=i64 (n:Int)∧st.sl 7=i64 (a:Int)∧st.ro 8208 1=some (a0t (itF (fun a F=>a0Z (a0Z (a0Z F a n n 1) n a n 1) n n a 1) a (grF O n)) (n+1))) n ?_ ?_ ?_
 ·refine Yac ?_
  exact⟨rfl,rfl⟩
 ·rintro a sl ro gn ha ⟨s1,s5,s6,s7,r8208⟩
  dsimp only at s1 s5 s6 s7 r8208
  have ha':(a:Int)<(n:Nat):=by omega
  have ha2:a<n+1:=by omega
  have ha3:(a:Int)<((n+1:Nat):Int):=by omega
  have hu:itF (fun a F=>a0Z (a0Z (a0Z F a n n 1) n a n 1) n n a 1) (a+1) (grF O n)=a0Z (a0Z (a0Z (itF (fun a F=>a0Z (a0Z (a0Z F a n n 1) n a n 1) n n a 1) a (grF O n)) a n n 1) n a n 1) n n a 1:=rfl
  rw[hu]
  generalize itF (fun a F=>a0Z (a0Z (a0Z F a n n 1) n a n 1) n n a 1) a (grF O n)=G at r8208
  have hp1:(upr ro 8208 1 (a0t (a0Z G a n n 1) (n+1))) 8208 1=some (a0t (a0Z G a n n 1) (n+1)):=by simp only[↓za, ↓reduceIte,zb]
  have hp2:(upr (upr ro 8208 1 (a0t (a0Z G a n n 1) (n+1))) 8208 1 (a0t (a0Z (a0Z G a n n 1) n a n 1) (n+1))) 8208 1=some (a0t (a0Z (a0Z G a n n 1) n a n 1) (n+1)):=by simp only[↓za, ↓reduceIte,zb]
  simp(disch:=first|assumption|omega) only[go_sem,s1,s5,s6,s7,r8208,ha',ti2,ti3,ha2,hnn,a0M r8208 ha2 hnn,a1x r8208 ha2 hnn,a1m r8208 ha2 hnn hnn,a0M hp1 hnn ha2,a1x hp1 hnn ha2,a1m hp1 hnn ha2 hnn,a0M hp2 hnn hnn,a1x hp2 hnn hnn,a1m hp2 hnn hnn ha2]
  exact a0w (by omega)
 ·rintro sl ro gn ⟨s1,s5,s6,s7,r8208⟩
  dsimp only at s1 s5 s6 s7 r8208
  have ha': ¬((n:Nat):Int)<(n:Nat):=by omega
  generalize hG:itF (fun a F=>a0Z (a0Z (a0Z F a n n 1) n a n 1) n n a 1) n (grF O n)=G at r8208
  simp(disch:=first|assumption|omega) only[go_sem,s1,s5,s6,s7,r8208,ha',ti2,ti3,hnn,a0M r8208 hnn hnn,a1x r8208 hnn hnn,a1m r8208 hnn hnn hnn]
  refine Yab ?_
  rw[←hG]
  rfl
def spI(sp:Nat)(i j:Nat):Nat:=if j≤i then i*sp-j*sp else j*sp-i*sp
def spN(lv sp i j:Nat):Nat:=((mnI ((i*sp:Nat)+(j*sp:Nat):Int) (2*(lv:Int)-(i*sp:Nat)-(j*sp:Nat))-(spI sp i j:Nat)) / 2+1).toNat
def spF(lv sp:Nat)(n:Nat):C3:=itF (fun i=>itF (fun j=>itF (fun t F=>a0Z F i j ((spI sp i j+2*t) / sp) 1) (spN lv sp i j)) n) n (fun _ _ _=>0)
set_option maxHeartbeats 2000000 in
theorem b0N{lv sp:Nat}(hs:sp=1∨sp=2)(hl:lv / sp<16):a0d Tryz.prog 159 [i64 (lv:Int),i64 (sp:Int)] (a0t (spF lv sp (lv / sp+1)) (lv / sp+1)):=by
 have hst:1≤sp:=by omega
 have hst2:sp≤2:=by omega
 have hdm:=Nat.div_add_mod lv sp
 have hmd:=Nat.mod_lt lv (show 0<sp by omega)
 obtain⟨n,hn⟩: ∃n,n=lv / sp+1:=⟨_,rfl⟩
 rw[←hn]
 have hN:n≤a0G:=by unfold a0G;omega
 have e0:=b2y lv sp
 have hsz: ¬(sp:Int)=0:=by omega
 have en:((lv / sp:Nat):Int)+1=(n:Int):=by omega
 have hlv:lv<32:=by
  rcases hs with rfl|rfl<;>omega
 have hmu:sp*(lv / sp)≤lv:=Nat.mul_div_le lv sp
 refine a0e (fn:=Tryz.f159) (code:=a0b Tryz.f159) Tryz.func159 rfl (by kernel_rfl) (a0J _ _) ?_
 intro sl hs
 have s0:sl 0=i64 (lv:Int):=hs 0
 have s1:sl 1=i64 (sp:Int):=hs 1
 dsimp only[Tryz.f159,a0b,Option.getD]
 simp(disch:=first|assumption|omega) only[go_sem,s0,s1,ti2,e0,en]
 refine a0c _ (c3V hN) rfl rfl rfl ?_
 refine Yay ?_
 refine a0f (fun i st=>st.sl 0=i64 (lv:Int)∧st.sl 1=i64 (sp:Int)∧st.sl 5=i64 (n:Int)∧st.sl 6= .ref 12304 1 [] 0 n∧st.sl 7=i64 (i:Int)∧st.ro 12304 1=some (a0t (itF (fun i=>itF (fun j=>itF (fun t F=>a0Z F i j ((spI sp i j+2*t) / sp) 1) (spN lv sp i j)) n) i (fun _ _ _=>0)) n)) n ?_ ?_ ?_
 ·refine Yac ?_
  exact⟨rfl,rfl⟩
 ·rintro i sl ro gn hi ⟨s0,s1,s5,s6,s7,r12304⟩
  dsimp only at s0 s1 s5 s6 s7 r12304
  have hi':(i:Int)<(n:Nat):=by omega
  generalize hG:itF (fun i=>itF (fun j=>itF (fun t F=>a0Z F i j ((spI sp i j+2*t) / sp) 1) (spN lv sp i j)) n) i (fun _ _ _=>0)=G at r12304
  have hG2:itF (fun i=>itF (fun j=>itF (fun t F=>a0Z F i j ((spI sp i j+2*t) / sp) 1) (spN lv sp i j)) n) (i+1) (fun _ _ _=>0)=itF (fun j=>itF (fun t F=>a0Z F i j ((spI sp i j+2*t) / sp) 1) (spN lv sp i j)) n G:=by rw[←hG];rfl
  rw[hG2]
  simp only[go_sem,s5,s7,hi',ti2]
  refine a0f (fun j st=>st.sl 0=i64 (lv:Int)∧st.sl 1=i64 (sp:Int)∧st.sl 5=i64 (n:Int)∧st.sl 6= .ref 12304 1 [] 0 n∧st.sl 7=i64 (i:Int)∧st.sl 8=i64 (j:Int)∧st.ro 12304 1=some (a0t (itF (fun j=>itF (fun t F=>a0Z F i j ((spI sp i j+2*t) / sp) 1) (spN lv sp i j)) j G) n)) n ?_ ?_ ?_
  ·simp only[↓za, ↓reduceIte,Nat.reduceEqDiff,zb,reduceCtorEq,s0,s1,s5,s6,s7,r12304]
   exact⟨rfl,rfl⟩
  ·rintro j sl ro gn hj ⟨s0,s1,s5,s6,s7,s8,r12304⟩
   dsimp only at s0 s1 s5 s6 s7 s8 r12304
   have hj':(j:Int)<(n:Nat):=by omega
   generalize hH:itF (fun j=>itF (fun t F=>a0Z F i j ((spI sp i j+2*t) / sp) 1) (spN lv sp i j)) j G=H at r12304
   have hH2:itF (fun j=>itF (fun t F=>a0Z F i j ((spI sp i j+2*t) / sp) 1) (spN lv sp i j)) (j+1) G=itF (fun t F=>a0Z F i j ((spI sp i j+2*t) / sp) 1) (spN lv sp i j) H:=by rw[←hH];rfl
   rw[hH2]
   have hib:i*sp≤lv:=by
    have:i*sp≤(lv / sp)*sp:=Nat.mul_le_mul_right _ (by omega)
    rw[Nat.mul_comm]at hmu
    omega
   have hjb:j*sp≤lv:=by
    have:j*sp≤(lv / sp)*sp:=Nat.mul_le_mul_right _ (by omega)
    rw[Nat.mul_comm]at hmu
    omega
   have ei:(i:Int)*(sp:Int)=((i*sp:Nat):Int):=by rw[Int.natCast_mul]
   have ej:(j:Int)*(sp:Int)=((j*sp:Nat):Int):=by rw[Int.natCast_mul]
   have emx:mxI (((i*sp:Nat):Int)-((j*sp:Nat):Int)) (((j*sp:Nat):Int)-((i*sp:Nat):Int))=((spI sp i j:Nat):Int):=by
    unfold mxI spI
    rcases Nat.le_total j i with h|h
    ·have:=Nat.mul_le_mul_right sp h
     by_cases h2:j≤i
     ·rw[if_neg (by omega),if_pos h2];omega
     ·omega
    ·have:=Nat.mul_le_mul_right sp h
     by_cases h2:j≤i
     ·have:i=j:=by omega
      subst this
      rw[if_neg (by omega),if_pos h2];omega
     ·rw[if_neg h2]
      split<;>omega
   obtain⟨lim,hlim⟩: ∃lim:Int,mnI (((i*sp:Nat):Int)+((j*sp:Nat):Int)) (2*(lv:Int)-((i*sp:Nat):Int)-((j*sp:Nat):Int))=lim:=⟨_,rfl⟩
   have hl1:2*lim≤2*(lv:Int)∧ -1000≤lim:=by
    rw[←hlim];unfold mnI;split<;>omega
   have hNN:spN lv sp i j=((lim-(spI sp i j:Nat)) / 2+1).toNat:=by unfold spN;rw[hlim]
   generalize hc0:spI sp i j=c0 at emx hNN ⊢
   have hc0b:c0≤100:=by rw[←hc0];unfold spI;split<;>omega
   rw[hNN]
   generalize hNg:((lim-(c0:Nat)) / 2+1).toNat=N
   have hNle:N≤1200:=by omega
   generalize hii:i*sp=ii at ei emx hlim hib
   generalize hjj:j*sp=jj at ej emx hlim hjb
   simp(disch:=first|assumption|omega) only[go_sem,s1,s5,s7,s8,hj',ti2,ei,ej,emx]
   refine a0f (fun t st=>st.sl 0=i64 (lv:Int)∧st.sl 1=i64 (sp:Int)∧st.sl 5=i64 (n:Int)∧st.sl 6= .ref 12304 1 [] 0 n∧st.sl 7=i64 (i:Int)∧st.sl 8=i64 (j:Int)∧st.sl 9=i64 (ii:Int)∧st.sl 10=i64 (jj:Int)∧st.sl 11=i64 ((c0+2*t:Nat):Int)∧st.ro 12304 1=some (a0t (itF (fun t F=>a0Z F i j ((c0+2*t) / sp) 1) t H) n)) N ?_ ?_ ?_
   ·simp only[↓za, ↓reduceIte,Nat.reduceEqDiff,zb,reduceCtorEq,s0,s1,s5,s6,s7,s8,r12304]
    exact⟨a0w (by omega),rfl⟩
   ·rintro t sl ro gn ht ⟨s0,s1,s5,s6,s7,s8,s9,s10,s11,r12304⟩
    dsimp only at s0 s1 s5 s6 s7 s8 s9 s10 s11 r12304
    have ht':(t:Int)<(N:Nat):=by omega
    have hle:((c0+2*t:Nat):Int)≤lim:=by omega
    have hq:(c0+2*t) / sp<n:=by
     have h1:c0+2*t≤lv:=by omega
     have h2:(c0+2*t) / sp≤lv / sp:=Nat.div_le_div_right h1
     omega
    have hq3:(((c0+2*t) / sp:Nat):Int)<(n:Int):=by omega
    have hq4:(((c0+2*t) / sp:Nat):Int)<100:=by omega
    have eq:=b2y (c0+2*t) sp
    have hu:itF (fun t F=>a0Z F i j ((c0+2*t) / sp) 1) (t+1) H=a0Z (itF (fun t F=>a0Z F i j ((c0+2*t) / sp) 1) t H) i j ((c0+2*t) / sp) 1:=rfl
    rw[hu]
    generalize itF (fun t F=>a0Z F i j ((c0+2*t) / sp) 1) t H=K at r12304
    generalize (c0+2*t) / sp=q at hq hq3 hq4 eq ⊢
    simp(disch:=first|assumption|omega) only[go_sem,s0,s1,s6,s7,s8,s9,s10,s11,r12304,ti2,hlim,eq,hq,a0M r12304 hi hj,a1x r12304 hi hj,a1m r12304 hi hj hq]
    refine a0r (by kernel_rfl) ?_
    simp(disch:=first|assumption|omega) only[go_sem,s0,s1,s5,s6,s7,s8,s9,s10,s11,ti2]
    exact a0w (by omega)
   ·rintro sl ro gn ⟨s0,s1,s5,s6,s7,s8,s9,s10,s11,r12304⟩
    dsimp only at s0 s1 s5 s6 s7 s8 s9 s10 s11 r12304
    have ht': ¬((N:Nat):Int)<(N:Nat):=by omega
    have hle: ¬((c0+2*N:Nat):Int)≤lim:=by omega
    simp(disch:=first|assumption|omega) only[go_sem,s0,s1,s5,s6,s7,s8,s9,s10,s11,r12304,ti2,hlim]
    exact a0w (by omega)
  ·rintro sl ro gn ⟨s0,s1,s5,s6,s7,s8,r12304⟩
   dsimp only at s0 s1 s5 s6 s7 s8 r12304
   have hj': ¬((n:Nat):Int)<(n:Nat):=by omega
   simp(disch:=first|assumption|omega) only[go_sem,s0,s1,s5,s6,s7,s8,r12304,hj',ti2]
   exact a0w (by omega)
 ·rintro sl ro gn ⟨s0,s1,s5,s6,s7,r12304⟩
  dsimp only at s0 s1 s5 s6 s7 r12304
  have hi': ¬((n:Nat):Int)<(n:Nat):=by omega
  simp only[go_sem,s5,s6,s7,hi',ti2]
  simp only[zr,a1Z,a1H,a2g,zes,zhk, ↓za, ↓reduceIte,r12304]
  unfold spF
  rfl
def pdF(A B:C3)(m N:Nat):C3:=itF (fun x=>itF (fun y=>itF (fun z F=>a0Z F x y z (wrF (A (x / m) (y / m) (z / m)*B (x % m) (y % m) (z % m)))) N) N) N (fun _ _ _=>0)
theorem c5q{a b:AV}{A B:C3}{n m:Nat}(ha:a0F a (a0L A n))(hb:a0F b (a0L B m))(h1:1≤n)(h2:1≤m)(hnm:n*m≤16):a0d Tryz.prog 160 [a,b] (a0t (pdF A B m (n*m)) (n*m)):=by
 have hn:n≤16:=by have:=Nat.le_mul_of_pos_right n h2;omega
 have hm:m≤16:=by have:=Nat.le_mul_of_pos_left m h1;omega
 have enm:(n:Int)*(m:Int)=((n*m:Nat):Int):=by rw[Int.natCast_mul]
 have lA:(a0L A n).length=n:=c1B A n
 have lB:(a0L B m).length=m:=c1B B m
 have hdiv: ∀x,x<n*m→x / m<n:=fun x hx=>Nat.div_lt_of_lt_mul (by rw[Nat.mul_comm];exact hx)
 have hmod: ∀x,x % m<m:=fun x=>Nat.mod_lt _ h2
 obtain⟨N,hNd⟩: ∃N,n*m=N:=⟨_,rfl⟩
 rw[hNd]at enm hnm hdiv ⊢
 have hN:N≤a0G:=by unfold a0G;omega
 have hmz: ¬(m:Int)=0:=by omega
 refine a0e (fn:=Tryz.f160) (code:=a0b Tryz.f160) Tryz.func160 rfl (by kernel_rfl) (a0J _ _) ?_
 intro sl hs
 have s0:sl 0=a:=hs 0
 have s1:sl 1=b:=hs 1
 dsimp only[Tryz.f160,a0b,Option.getD]
 simp(disch:=first|assumption|omega) only[go_sem,s0,s1,ti2,a0v ha,a0v hb,lA,lB,enm]
 refine a0c _ (c3V hN) rfl rfl rfl ?_
 refine Yay ?_
 refine a0f (fun x st=>st.sl 0=a∧st.sl 1=b∧st.sl 5=i64 (n:Int)∧st.sl 6=i64 (m:Int)∧st.sl 7= .ref 12336 1 [] 0 N∧st.sl 8=i64 (x:Int)∧st.ro 12336 1=some (a0t (itF (fun x=>itF (fun y=>itF (fun z F=>a0Z F x y z (wrF (A (x / m) (y / m) (z / m)*B (x % m) (y % m) (z % m)))) N) N) x (fun _ _ _=>0)) N)) N ?_ ?_ ?_
 ·refine Yac ?_
  exact⟨rfl,rfl⟩
 ·rintro x sl ro gn hx ⟨s0,s1,s5,s6,s7,s8,r12336⟩
  dsimp only at s0 s1 s5 s6 s7 s8 r12336
  have hx':(x:Int)<(N:Nat):=by omega
  generalize hG:itF (fun x=>itF (fun y=>itF (fun z F=>a0Z F x y z (wrF (A (x / m) (y / m) (z / m)*B (x % m) (y % m) (z % m)))) N) N) x (fun _ _ _=>0)=G at r12336
  have hG2:itF (fun x=>itF (fun y=>itF (fun z F=>a0Z F x y z (wrF (A (x / m) (y / m) (z / m)*B (x % m) (y % m) (z % m)))) N) N) (x+1) (fun _ _ _=>0)=itF (fun y=>itF (fun z F=>a0Z F x y z (wrF (A (x / m) (y / m) (z / m)*B (x % m) (y % m) (z % m)))) N) N G:=by rw[←hG];rfl
  rw[hG2]
  simp(disch:=first|assumption|omega) only[go_sem,s5,s6,s8,hx',ti2,enm]
  refine a0f (fun y st=>st.sl 0=a∧st.sl 1=b∧st.sl 5=i64 (n:Int)∧st.sl 6=i64 (m:Int)∧st.sl 7= .ref 12336 1 [] 0 N∧st.sl 8=i64 (x:Int)∧st.sl 9=i64 (y:Int)∧st.ro 12336 1=some (a0t (itF (fun y=>itF (fun z F=>a0Z F x y z (wrF (A (x / m) (y / m) (z / m)*B (x % m) (y % m) (z % m)))) N) y G) N)) N ?_ ?_ ?_
  ·simp only[↓za, ↓reduceIte,Nat.reduceEqDiff,zb,reduceCtorEq,s0,s1,s5,s6,s7,s8,r12336]
   exact⟨rfl,rfl⟩
  ·rintro y sl ro gn hy ⟨s0,s1,s5,s6,s7,s8,s9,r12336⟩
   dsimp only at s0 s1 s5 s6 s7 s8 s9 r12336
   have hy':(y:Int)<(N:Nat):=by omega
   generalize hH:itF (fun y=>itF (fun z F=>a0Z F x y z (wrF (A (x / m) (y / m) (z / m)*B (x % m) (y % m) (z % m)))) N) y G=H at r12336
   have hH2:itF (fun y=>itF (fun z F=>a0Z F x y z (wrF (A (x / m) (y / m) (z / m)*B (x % m) (y % m) (z % m)))) N) (y+1) G=itF (fun z F=>a0Z F x y z (wrF (A (x / m) (y / m) (z / m)*B (x % m) (y % m) (z % m)))) N H:=by rw[←hH];rfl
   rw[hH2]
   simp(disch:=first|assumption|omega) only[go_sem,s5,s6,s9,hy',ti2,enm]
   refine a0f (fun z st=>st.sl 0=a∧st.sl 1=b∧st.sl 5=i64 (n:Int)∧st.sl 6=i64 (m:Int)∧st.sl 7= .ref 12336 1 [] 0 N∧st.sl 8=i64 (x:Int)∧st.sl 9=i64 (y:Int)∧st.sl 10=i64 (z:Int)∧st.ro 12336 1=some (a0t (itF (fun z F=>a0Z F x y z (wrF (A (x / m) (y / m) (z / m)*B (x % m) (y % m) (z % m)))) z H) N)) N ?_ ?_ ?_
   ·simp only[↓za, ↓reduceIte,Nat.reduceEqDiff,zb,reduceCtorEq,s0,s1,s5,s6,s7,s8,s9,r12336]
    exact⟨rfl,rfl⟩
   ·rintro z sl ro gn hz ⟨s0,s1,s5,s6,s7,s8,s9,s10,r12336⟩
    dsimp only at s0 s1 s5 s6 s7 s8 s9 s10 r12336
    have hz':(z:Int)<(N:Nat):=by omega
    have hu:itF (fun z F=>a0Z F x y z (wrF (A (x / m) (y / m) (z / m)*B (x % m) (y % m) (z % m)))) (z+1) H=a0Z (itF (fun z F=>a0Z F x y z (wrF (A (x / m) (y / m) (z / m)*B (x % m) (y % m) (z % m)))) z H) x y z (wrF (A (x / m) (y / m) (z / m)*B (x % m) (y % m) (z % m))):=rfl
    rw[hu]
    generalize itF (fun z F=>a0Z F x y z (wrF (A (x / m) (y / m) (z / m)*B (x % m) (y % m) (z % m)))) z H=K at r12336
    have d1:=hdiv x hx
    have d2:=hdiv y hy
    have d3:=hdiv z hz
    have g1:=hmod x
    have g2:=hmod y
    have g3:=hmod z
    have ma:=a0o ha (k:=x / m) (by omega)
    have lma:(mat (a0L A n) (x / m)).length=n:=c2I d1
    have ra:=a0m ma (k:=y / m) (by omega)
    have lra:(row (mat (a0L A n) (x / m)) (y / m)).length=n:=c4a d1 d2
    have va:atI (row (mat (a0L A n) (x / m)) (y / m)) (z / m)=A (x / m) (y / m) (z / m):=a1c d1 d2 d3
    have mb:=a0o hb (k:=x % m) (by omega)
    have lmb:(mat (a0L B m) (x % m)).length=m:=c2I g1
    have rb:=a0m mb (k:=y % m) (by omega)
    have lrb:(row (mat (a0L B m) (x % m)) (y % m)).length=m:=c4a g1 g2
    have vb:atI (row (mat (a0L B m) (x % m)) (y % m)) (z % m)=B (x % m) (y % m) (z % m):=a1c g1 g2 g3
    have e1:=b2y x m
    have e2:=b2y y m
    have e3:=b2y z m
    have e4:=b0J x m
    have e5:=b0J y m
    have e6:=b0J z m
    generalize x / m=xd at*
    generalize y / m=yd at*
    generalize z / m=zd at*
    generalize x % m=xm at*
    generalize y % m=ym at*
    generalize z % m=zm at*
    simp(disch:=first|assumption|omega) only[go_sem,s0,s1,s5,s6,s7,s8,s9,s10,r12336,hz',hz,ti2,enm,e1,e2,e3,e4,e5,e6,va,vb,a2N ha (k:=xd) (by omega),a2N hb (k:=xm) (by omega),a0S ma (k:=yd) (by omega),a0S mb (k:=ym) (by omega),a0s ra (k:=zd) (by omega),a0s rb (k:=zm) (by omega),a0M r12336 hx hy,a1x r12336 hx hy,a1m r12336 hx hy hz]
    refine a0r (by kernel_rfl) ?_
    simp(disch:=first|assumption|omega) only[go_sem,s0,s1,s5,s6,s7,s8,s9,s10,ti2]
    exact a0w (by omega)
   ·rintro sl ro gn ⟨s0,s1,s5,s6,s7,s8,s9,s10,r12336⟩
    dsimp only at s0 s1 s5 s6 s7 s8 s9 s10 r12336
    have hz': ¬((N:Nat):Int)<(N:Nat):=by omega
    simp(disch:=first|assumption|omega) only[go_sem,s0,s1,s5,s6,s7,s8,s9,s10,r12336,hz',ti2,enm]
    exact a0w (by omega)
  ·rintro sl ro gn ⟨s0,s1,s5,s6,s7,s8,s9,r12336⟩
   dsimp only at s0 s1 s5 s6 s7 s8 s9 r12336
   have hy': ¬((N:Nat):Int)<(N:Nat):=by omega
   simp(disch:=first|assumption|omega) only[go_sem,s0,s1,s5,s6,s7,s8,s9,r12336,hy',ti2,enm]
   exact a0w (by omega)
 ·rintro sl ro gn ⟨s0,s1,s5,s6,s7,s8,r12336⟩
  dsimp only at s0 s1 s5 s6 s7 s8 r12336
  have hx': ¬((N:Nat):Int)<(N:Nat):=by omega
  simp(disch:=first|assumption|omega) only[go_sem,s5,s6,s7,s8,hx',ti2,enm]
  refine Yed ?_
  unfold pdF
  rfl
end Go.Proofs.YtbakhfiibjkifaaGreat
