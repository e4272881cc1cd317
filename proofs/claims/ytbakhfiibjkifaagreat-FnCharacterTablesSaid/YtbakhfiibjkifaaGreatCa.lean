/- Texts joined: Ch0 Ch1 Ch2 T3p Ch3 Ch4. -/
import Derived.Test.YtbakhfiibjkifaaGreatMg
set_option linter.all false
/- Congruences: small rules. -/
namespace Go.Proofs.YtbakhfiibjkifaaGreat
theorem MM.neg{a b:Int}(h:MM a b):MM (-a) (-b):=by
 have:=MM.mul (MM.rfl (a:= -1)) h
 simpa using this
theorem MM.sub{a b c d:Int}(h1:MM a b)(h2:MM c d):MM (a-c) (b-d):=by
 rw[Int.sub_eq_add_neg,Int.sub_eq_add_neg];exact MM.add h1 h2.neg
theorem a6e(f g:Nat→Int)(n:Nat):sm (fun k=>f k-g k) n=sm f n-sm g n:=by
 have h1:=a2p f (fun k=>g k*(-1)) n
 have h2:=a5b g (-1) n
 have h3:sm (fun k=>f k-g k) n=sm (fun k=>f k+g k*(-1)) n:=a0k fun k _=>by omega
 rw[h3,h1, ←h2];omega
theorem a5p{n j:Nat}(hj:j<n)(v:Int):sm (fun k=>if k=j then v else 0) n=v:=a4t hj fun _ _=>rfl
theorem c1F{a x:Int}(ha:num a)(h0:a≠0)(h:MM (a*x) 0):MM x 0:=by
 have h1:=a4y ha h0
 have h2:=MM.mul (MM.rfl (a:=pw a 55439)) h
 rw[Int.mul_zero, ←Int.mul_assoc]at h2
 have h3:=MM.mul h1 (MM.rfl (a:=x))
 rw[Int.one_mul]at h3
 exact h3.symm.trans h2
theorem a3O{d x:Int}(h0:d % 55441≠0)(h:MM (d*x) 0):MM x 0:=by
 have hn:num (d % 55441):=by unfold num;omega
 exact c1F hn h0 ((MM.mul (MM.mod d) MM.rfl).trans h)
theorem a8j{x:Int}(h:MM x 0)(hn:num x):x=0:=b3I h hn (by unfold num;omega)
end Go.Proofs.YtbakhfiibjkifaaGreat
/- Cayley and Hamilton by traces, over the integers: sums of alternating products over all tuples of indices. -/
namespace Go.Proofs.YtbakhfiibjkifaaGreat
def iot(r:Nat→Int):List Nat→(List Nat→Int)→Int
 | [],_=>0
 |c::cs,f=>r c*f cs-iot r cs (fun l=>f (c::l))
def wdg:List (Nat→Int)→List Nat→Int
 | [],cs=>match cs with
  | []=>1
  |_::_=>0
 |r::rs,cs=>iot r cs (wdg rs)
theorem b5Q(r:Nat→Int): ∀(cs:List Nat) (f g:List Nat→Int),iot r cs (fun l=>f l+g l)=iot r cs f+iot r cs g
 | [],_,_=>rfl
 |c::cs,f,g=>by
  simp only[iot]
  rw[b5Q r cs (fun l=>f (c::l)) (fun l=>g (c::l)),Int.mul_add]
  omega
theorem a5U(r:Nat→Int)(k:Int): ∀(cs:List Nat) (f:List Nat→Int),iot r cs (fun l=>k*f l)=k*iot r cs f
 | [],_=>by simp[iot]
 |c::cs,f=>by
  simp only[iot]
  rw[a5U r k cs (fun l=>f (c::l)),Int.mul_sub,Int.mul_left_comm]
theorem b0P(r:Nat→Int)(cs:List Nat)(f:List Nat→Int):iot r cs (fun l=> -f l)= -iot r cs f:=by
 have h:=a5U r (-1) cs f
 have e:(fun l=>(-1)*f l)=fun l=> -f l:=by funext l;omega
 rw[e]at h
 omega
theorem b4n(r:Nat→Int)(cs:List Nat)(f g:List Nat→Int):iot r cs (fun l=>f l-g l)=iot r cs f-iot r cs g:=by
 have h:=b5Q r cs f (fun l=> -g l)
 rw[b0P]at h
 have e:(fun l=>f l+ -g l)=fun l=>f l-g l:=by funext l;omega
 rw[e]at h
 omega
theorem b3z{r s:Nat→Int}: ∀ {cs:List Nat} (f:List Nat→Int),(∀c,c∈cs→r c=s c)→iot r cs f=iot s cs f
 | [],_,_=>rfl
 |c::cs,f,h=>by
  simp only[iot]
  rw[h c (by simp),b3z (fun l=>f (c::l)) fun d hd=>h d (by simp[hd])]
theorem b1Y(a:Nat→Int)(R:Nat→Nat→Int)(n:Nat): ∀(cs:List Nat) (f:List Nat→Int),iot (fun c=>sm (fun z=>a z*R z c) n) cs f=sm (fun z=>a z*iot (R z) cs f) n
 | [],f=>by
  simp only[iot]
  exact(a1M fun z _=>Int.mul_zero _).symm
 |c::cs,f=>by
  simp only[iot]
  rw[b1Y a R n cs (fun l=>f (c::l)),a5b]
  have h:=a2p (fun z=>a z*R z c*f cs) (fun z=> -(a z*iot (R z) cs (fun l=>f (c::l)))) n
  have h2:=a2p (fun z=>a z*iot (R z) cs (fun l=>f (c::l))) (fun z=> -(a z*iot (R z) cs (fun l=>f (c::l)))) n
  have h3:sm (fun k=>a k*iot (R k) cs (fun l=>f (c::l))+ -(a k*iot (R k) cs (fun l=>f (c::l)))) n=0:=a1M fun k _=>by omega
  rw[h3]at h2
  have e:sm (fun z=>a z*(R z c*f cs-iot (R z) cs fun l=>f (c::l))) n=sm (fun k=>a k*R k c*f cs+ -(a k*iot (R k) cs (fun l=>f (c::l)))) n:=a0k fun z _=>by
   rw[Int.mul_sub,Int.mul_assoc]
   omega
  rw[e,h]
  omega
theorem b0V(r s:Nat→Int): ∀(cs:List Nat) (f:List Nat→Int),iot r cs (fun l=>iot s l f)= -iot s cs (fun l=>iot r l f)
 | [],_=>rfl
 |c::cs,f=>by
  simp only[iot]
  have ih:=b0V r s cs (fun l=>f (c::l))
  rw[b4n r cs (fun l=>s c*f l) (fun l=>iot s l fun l=>f (c::l)),b4n s cs (fun l=>r c*f l) (fun l=>iot r l fun l=>f (c::l)),a5U,a5U,ih]
  omega
theorem b7L(a b:Nat→Int)(rs:List (Nat→Int))(cs:List Nat):wdg (a::b::rs) cs= -wdg (b::a::rs) cs:=b0V a b cs (wdg rs)
theorem b1I: ∀(p:List (Nat→Int)) (a b:Nat→Int) (rs:List (Nat→Int)) (cs:List Nat),wdg (p++a::b::rs) cs= -wdg (p++b::a::rs) cs
 | [],a,b,rs,cs=>b7L a b rs cs
 |r::p,a,b,rs,cs=>by
  show iot r cs (wdg (p++a::b::rs))= -iot r cs (wdg (p++b::a::rs))
  rw[←b0P]
  congr 1
  funext l
  exact b1I p a b rs l
def c4M(f:List Nat→Int):Prop:= ∀(p:List Nat) (c d:Nat) (l:List Nat),f (p++c::d::l)= -f (p++d::c::l)
theorem b0U(r:Nat→Int): ∀(p:List Nat) (c d:Nat) (l:List Nat) (f:List Nat→Int),c4M f→iot r (p++c::d::l) f= -iot r (p++d::c::l) f
 | [],c,d,l,f,h=>by
  simp only[iot,List.nil_append]
  have e:(fun l=>f (c::d::l))=fun l=> -f (d::c::l):=by
   funext l
   exact h [] c d l
  rw[e,b0P]
  omega
 |b::p,c,d,l,f,h=>by
  simp only[iot,List.cons_append]
  rw[b0U r p c d l (fun l=>f (b::l)) fun q x y t=>h (b::q) x y t,h p c d l]
  have e:r b* -f (p++d::c::l)= -(r b*f (p++d::c::l)):=Int.mul_neg _ _
  rw[e]
  omega
theorem b1y: ∀(rs:List (Nat→Int)),c4M (wdg rs)
 | [],p,c,d,l=>by cases p<;>rfl
 |r::rs,p,c,d,l=>b0U r p c d l (wdg rs) (b1y rs)
theorem b4I{f:List Nat→Int}(h:c4M f)(c:Nat)(t:List Nat): ∀(q p:List Nat),f (p++c::(q++c::t))=0
 | [],p=>by
  have:=h p c c t
  simp only[List.nil_append]
  omega
 |d::q,p=>by
  have h1:=h p c d (q++c::t)
  have h2:=b4I h c t q (p++ [d])
  simp only[List.append_assoc,List.cons_append,List.nil_append]at h2
  simp only[List.cons_append]
  omega
theorem a9y: ∀(l:List Nat), ¬l.Nodup→ ∃p c q t,l=p++c::(q++c::t)
 | [],h=>absurd List.nodup_nil h
 |a::l,h=>by
  by_cases ha:a∈l
  ·obtain⟨q,t,rfl⟩:=List.append_of_mem ha
   exact⟨[],a,q,t,rfl⟩
  ·have: ¬l.Nodup:=fun hn=>h (List.nodup_cons.2 ⟨ha,hn⟩)
   obtain⟨p,c,q,t,rfl⟩:=a9y l this
   exact⟨a::p,c,q,t,rfl⟩
theorem a5O: ∀(m:Nat) (l:List Nat),l.Nodup→(∀x,x∈l→x<m)→l.length≤m
 |0,l,_,h=>by
  cases l with
  |nil=>simp
  |cons a l=>exact absurd (h a (by simp)) (Nat.not_lt_zero _)
 |m+1,l,hn,h=>by
  by_cases hm:m∈l
  ·have h1:=a5O m (l.erase m) (hn.erase m) fun x hx=>by
    have h2:=(List.Nodup.mem_erase_iff hn).1 hx
    have:=h x h2.2
    omega
   rw[List.length_erase_of_mem hm]at h1
   have:0<l.length:=List.length_pos_of_mem hm
   omega
  ·have h1:=a5O m l hn fun x hx=>by
    have h2:=h x hx
    have:x≠m:=fun e=>hm (by rw[←e];exact hx)
    omega
   omega
theorem b7O{m:Nat}(rs:List (Nat→Int))(l:List Nat)(h: ∀x,x∈l→x<m)(hl:m<l.length):wdg rs l=0:=by
 have: ¬l.Nodup:=fun hn=>by have:=a5O m l hn h;omega
 obtain⟨p,c,q,t,rfl⟩:=a9y l this
 exact b4I (b1y rs) c t q p
def tup(m:Nat):Nat→(List Nat→Int)→Int
 |0,F=>F []
 |k+1,F=>sm (fun i=>tup m k (fun l=>F (i::l))) m
theorem a6A{m:Nat}: ∀ {k:Nat} {F G:List Nat→Int},(∀l,l.length=k→(∀c,c∈l→c<m)→F l=G l)→tup m k F=tup m k G
 |0,F,G,h=>h [] rfl (by simp)
 |k+1,F,G,h=>by
  unfold tup
  exact a0k fun i hi=>a6A fun l hl hc=>h (i::l) (by simp[hl]) fun c hcc=>by
   rcases List.mem_cons.1 hcc with e|e
   ·rw[e];exact hi
   ·exact hc c e
theorem b5Z(m:Nat): ∀(k:Nat) (F G:List Nat→Int),tup m k (fun l=>F l+G l)=tup m k F+tup m k G
 |0,_,_=>rfl
 |k+1,F,G=>by
  unfold tup
  rw[←a2p]
  exact a0k fun i _=>b5Z m k (fun l=>F (i::l)) (fun l=>G (i::l))
theorem a0T(f:Nat→Int)(w:Int)(n:Nat):sm (fun l=>w*f l) n=w*sm f n:=by
 rw[Int.mul_comm,a5b]
 exact a0k fun k _=>Int.mul_comm _ _
theorem a4c(m:Nat)(a:Int): ∀(k:Nat) (F:List Nat→Int),tup m k (fun l=>a*F l)=a*tup m k F
 |0,_=>rfl
 |k+1,F=>by
  unfold tup
  rw[←a0T]
  exact a0k fun i _=>a4c m a k (fun l=>F (i::l))
theorem b6x(m k:Nat)(F:List Nat→Int):tup m k (fun l=> -F l)= -tup m k F:=by
 have h:=a4c m (-1) k F
 have e:(fun l=>(-1)*F l)=fun l=> -F l:=by funext l;omega
 rw[e]at h
 omega
theorem b3S(m k:Nat)(F G:List Nat→Int):tup m k (fun l=>F l-G l)=tup m k F-tup m k G:=by
 have h:=b5Z m k F (fun l=> -G l)
 rw[b6x]at h
 have e:(fun l=>F l+ -G l)=fun l=>F l-G l:=by funext l;omega
 rw[e]at h
 omega
theorem b3M(m n:Nat): ∀(k:Nat) (F:Nat→List Nat→Int),tup m k (fun l=>sm (fun z=>F z l) n)=sm (fun z=>tup m k (F z)) n
 |0,_=>rfl
 |k+1,F=>by
  unfold tup
  rw[a3b]
  exact a0k fun i _=>b3M m n k (fun z l=>F z (i::l))
theorem b4M(f:Nat→Int)(n:Nat):sm (fun k=> -f k) n= -sm f n:=by
 have h:=a0T f (-1) n
 have e:(fun l=>(-1)*f l)=fun l=> -f l:=by funext l;omega
 rw[e]at h
 omega
def a4m(x:Nat):Nat→Int:=fun c=>if c=x then 1 else 0
def c5c(G:List Nat→List Nat→Int):Prop:= ∀(p:List Nat) (i j:Nat) (l c:List Nat),G (p++i::j::l) c= -G (p++j::i::l) c
theorem b4j{m x:Nat}(hx:x<m): ∀(k:Nat) (G:List Nat→List Nat→Int),c5c G→tup m (k+1) (fun l=>iot (a4m x) l (G l))=((k+1:Nat):Int)*tup m k (fun l=>G (x::l) l)
 |k,G,hG=>by
  have e1:tup m (k+1) (fun l=>iot (a4m x) l (G l))=sm (fun i=>tup m k (fun l=>a4m x i*G (i::l) l)) m-sm (fun i=>tup m k (fun l=>iot (a4m x) l (fun c=>G (i::l) (i::c)))) m:=by
   have h:=a2p (fun i=>tup m k (fun l=>a4m x i*G (i::l) l)) (fun i=> -tup m k (fun l=>iot (a4m x) l (fun c=>G (i::l) (i::c)))) m
   rw[b4M]at h
   have e:tup m (k+1) (fun l=>iot (a4m x) l (G l))=sm (fun i=>tup m k (fun l=>a4m x i*G (i::l) l)+ -tup m k (fun l=>iot (a4m x) l (fun c=>G (i::l) (i::c)))) m:=a0k fun i _=>by
    show tup m k (fun l=>a4m x i*G (i::l) l-iot (a4m x) l (fun c=>G (i::l) (i::c)))=_
    rw[b3S]
    omega
   rw[e,h]
   omega
  have e2:sm (fun i=>tup m k (fun l=>a4m x i*G (i::l) l)) m=tup m k (fun l=>G (x::l) l):=a4t hx fun i _=>by
   rw[a4c]
   unfold a4m
   by_cases e:i=x
   ·subst e;simp
   ·have e': ¬x=i:=fun h=>e h.symm
    simp[e]
  rw[e1,e2]
  cases k with
  |zero=>
   have e3:sm (fun i=>tup m 0 (fun l=>iot (a4m x) l (fun c=>G (i::l) (i::c)))) m=0:=a1M fun i _=>rfl
   rw[e3]
   omega
  |succ k=>
   have e3:sm (fun i=>tup m (k+1) (fun l=>iot (a4m x) l (fun c=>G (i::l) (i::c)))) m=sm (fun i=>((k+1:Nat):Int)*tup m k (fun l=>G (i::x::l) (i::l))) m:=a0k fun i _=>
    b4j hx k (fun l c=>G (i::l) (i::c)) fun p a b l c=>hG (i::p) a b l (i::c)
   have e4:sm (fun i=>((k+1:Nat):Int)*tup m k (fun l=>G (i::x::l) (i::l))) m= -(((k+1:Nat):Int)*tup m (k+1) (fun l=>G (x::l) l)):=by
    rw[a0T]
    have:sm (fun i=>tup m k (fun l=>G (i::x::l) (i::l))) m= -tup m (k+1) (fun l=>G (x::l) l):=by
     show _= -sm (fun i=>tup m k (fun l=>G (x::i::l) (i::l))) m
     rw[←b4M]
     refine a0k fun i _=>?_
     rw[←b6x]
     congr 1
     funext l
     exact hG [] i x l (i::l)
    rw[this,Int.mul_neg]
   rw[e3,e4]
   have e5:((k+1+1:Nat):Int)*tup m (k+1) (fun l=>G (x::l) l)=tup m (k+1) (fun l=>G (x::l) l)+((k+1:Nat):Int)*tup m (k+1) (fun l=>G (x::l) l):=by
    have:((k+1+1:Nat):Int)=1+((k+1:Nat):Int):=by omega
    rw[this,Int.add_mul,Int.one_mul]
   rw[e5]
   omega
section
variable (A:Nat→Nat→Int)(m:Nat)
def chE(k:Nat):Int:=tup m k (fun l=>wdg (l.map A) l)
def chN(k:Nat)(x y:Nat):Int:=tup m k (fun l=>wdg (a4m x::l.map A) (y::l))
theorem b2j(x y:Nat):chN A m 0 x y=a4m x y:=by
 show wdg [a4m x] [y]=_
 simp only[wdg,iot]
 omega
variable{A m}
theorem c2C{k x y:Nat}(hy:y<m):tup m k (fun l=>wdg (A x::l.map A) (y::l))=sm (fun z=>A x z*chN A m k z y) m:=by
 have e:tup m k (fun l=>wdg (A x::l.map A) (y::l))=tup m k (fun l=>sm (fun z=>A x z*wdg (a4m z::l.map A) (y::l)) m):=a6A fun l hl hc=>by
  show iot (A x) (y::l) (wdg (l.map A))=_
  rw[b3z (s:=fun c=>sm (fun z=>A x z*a4m z c) m) _ fun c hcc=>?_]
  ·exact b1Y (A x) a4m m (y::l) (wdg (l.map A))
  ·have hcm:c<m:=by
    rcases List.mem_cons.1 hcc with e|e
    ·rw[e];exact hy
    ·exact hc c e
   exact(a4t hcm fun z _=>by
    unfold a4m
    by_cases e:z=c
    ·subst e;simp
    ·rw[if_neg (fun h=>e h.symm),if_neg e];simp).symm
 rw[e,b3M]
 exact a0k fun z _=>a4c _ _ _ _
theorem b7E(k:Nat):chE A m (k+1)=sm (fun i=>sm (fun z=>A i z*chN A m k z i) m) m:=by
 show sm (fun i=>tup m k (fun l=>wdg ((i::l).map A) (i::l))) m=_
 exact a0k fun i hi=>c2C hi
theorem b1N{k x y:Nat}(hx:x<m)(hy:y<m):chN A m (k+1) x y=a4m x y*chE A m (k+1)-((k+1:Nat):Int)*sm (fun z=>A x z*chN A m k z y) m:=by
 have e:chN A m (k+1) x y=tup m (k+1) (fun l=>a4m x y*wdg (l.map A) l)-tup m (k+1) (fun l=>iot (a4m x) l (fun c=>wdg (l.map A) (y::c))):=by
  rw[←b3S]
  rfl
 rw[e,a4c,b4j hx k (fun l c=>wdg (l.map A) (y::c)) fun p i j l c=>by
  simp only[List.map_append,List.map_cons]
  exact b1I _ _ _ _ _]
 show _-_*tup m k (fun l=>wdg (A x::l.map A) (y::l))=_
 rw[c2C hy]
 rfl
theorem b6P{x y:Nat}(hy:y<m):chN A m m x y=0:=by
 have:chN A m m x y=tup m m (fun _=>0*0):=a6A fun l hl hc=>by
  rw[b7O (m:=m) _ (y::l) (fun c hcc=>?_) (by simp[hl])]
  ·rfl
  ·rcases List.mem_cons.1 hcc with e|e
   ·rw[e];exact hy
   ·exact hc c e
 rw[this,a4c m 0 m (fun _=>0)]
 omega
end
end Go.Proofs.YtbakhfiibjkifaaGreat
/- Eigenvalues are roots of the polynomial of Faddeev and LeVerrier, modulo the prime. Polynomials: values, quotients by roots. -/
namespace Go.Proofs.YtbakhfiibjkifaaGreat
def fsg:Nat→Int
 |0=>1
 |k+1=> -((k+1:Nat):Int)*fsg k
theorem b4o{x:Int}: ∀ {k:Nat},k≤16→MM (fsg k*x) 0→MM x 0
 |0,_,h=>by
  unfold fsg at h
  rwa [Int.one_mul]at h
 |k+1,hk,h=>by
  unfold fsg at h
  rw[Int.mul_assoc]at h
  exact b4o (by omega) (a3O (by omega) h)
section
variable{A:Nat→Nat→Int}{n:Nat}{M:Nat→Nat→Nat→Int}{c:Nat→Int}
structure Fad(A:Nat→Nat→Int)(n:Nat)(M:Nat→Nat→Nat→Int)(c:Nat→Int):Prop where
 m0: ∀x y,x<n→y<n→MM (M 0 x y) 0
 c0:MM (c 0) 1
 ms: ∀k,k<n→ ∀x y,x<n→y<n→MM (M (k+1) x y) (sm (fun z=>A x z*M k z y) n+(if x=y then c k else 0))
 cs: ∀k,k<n→MM (((k+1:Nat):Int)*c (k+1)) (-sm (fun i=>sm (fun z=>A i z*M (k+1) z i) n) n)
theorem c3m(h:Fad A n M c){x y:Nat}(hn:0<n)(hx:x<n)(hy:y<n):MM (M 1 x y) (a4m x y):=by
 have h1:=h.ms 0 hn x y hx hy
 have h2:MM (sm (fun z=>A x z*M 0 z y) n) 0:=by
  have:=a1P (n:=n) (f:=fun z=>A x z*M 0 z y) (g:=fun z=>A x z*0) fun z hz=>MM.mul MM.rfl (h.m0 z y hz hy)
  rwa [a1M (f:=fun z=>A x z*0) fun z _=>Int.mul_zero _]at this
 refine h1.trans ((MM.add h2 ?_).trans (MM.of_eq (Int.zero_add _)))
 unfold a4m
 by_cases e:x=y
 ·rw[if_pos e,if_pos e.symm];exact h.c0
 ·rw[if_neg e,if_neg (fun h=>e h.symm)];exact MM.rfl
theorem c2Q(h:Fad A n M c): ∀k,k<n→(∀x y,x<n→y<n→MM (fsg k*M (k+1) x y) (chN A n k x y))∧MM (fsg (k+1)*c (k+1)) (chE A n (k+1))
 |0,hk=>by
  have h1: ∀x y,x<n→y<n→MM (fsg 0*M 1 x y) (chN A n 0 x y):=fun x y hx hy=>by
   rw[b2j]
   unfold fsg
   rw[Int.one_mul]
   exact c3m h hk hx hy
  exact⟨h1,fad_E h hk h1⟩
 |k+1,hk=>by
  obtain⟨h1,h2⟩:=c2Q h k (by omega)
  have h3: ∀x y,x<n→y<n→MM (fsg (k+1)*M (k+1+1) x y) (chN A n (k+1) x y):=fun x y hx hy=>by
   rw[b1N hx hy]
   have e1:=MM.mul (MM.rfl (a:=fsg (k+1))) (h.ms (k+1) hk x y hx hy)
   refine e1.trans ?_
   have e2:MM (sm (fun z=>A x z*(fsg k*M (k+1) z y)) n) (sm (fun z=>A x z*chN A n k z y) n):=a1P fun z hz=>MM.mul MM.rfl (h1 z y hz hy)
   have e3:fsg (k+1)*sm (fun z=>A x z*M (k+1) z y) n= -((k+1:Nat):Int)*sm (fun z=>A x z*(fsg k*M (k+1) z y)) n:=by
    rw[←a0T, ←a0T]
    refine a0k fun z _=>?_
    show-((k+1:Nat):Int)*fsg k*_=_
    rw[Int.mul_assoc,Int.mul_left_comm (fsg k)]
   rw[Int.mul_add,e3]
   have e4:MM (fsg (k+1)*(if x=y then c (k+1)else 0)) (a4m x y*chE A n (k+1)):=by
    unfold a4m
    by_cases e:x=y
    ·rw[if_pos e,if_pos e.symm,Int.one_mul];exact h2
    ·rw[if_neg e,if_neg (fun h=>e h.symm),Int.mul_zero,Int.zero_mul];exact MM.rfl
   refine(MM.add (MM.mul MM.rfl e2) e4).trans (MM.of_eq ?_)
   rw[Int.neg_mul]
   omega
  exact⟨h3,fad_E h hk h3⟩
where
 fad_E (h:Fad A n M c) {k:Nat} (hk:k<n) (h1: ∀x y,x<n→y<n→MM (fsg k*M (k+1) x y) (chN A n k x y)):MM (fsg (k+1)*c (k+1)) (chE A n (k+1)):=by
  rw[b7E]
  have e1:=MM.mul (MM.rfl (a:=fsg k)) (h.cs k hk)
  have e2:fsg (k+1)*c (k+1)= -(fsg k*(((k+1:Nat):Int)*c (k+1))):=by
   show-((k+1:Nat):Int)*fsg k*_=_
   rw[Int.mul_left_comm (fsg k),Int.neg_mul,Int.neg_mul,Int.mul_assoc]
  rw[e2]
  refine e1.neg.trans ?_
  have e3: -(fsg k* -sm (fun i=>sm (fun z=>A i z*M (k+1) z i) n) n)=sm (fun i=>sm (fun z=>A i z*(fsg k*M (k+1) z i)) n) n:=by
   rw[Int.mul_neg,Int.neg_neg, ←a0T]
   refine a0k fun i _=>?_
   rw[←a0T]
   exact a0k fun z _=>Int.mul_left_comm _ _ _
  rw[e3]
  exact a1P fun i hi=>a1P fun z hz=>MM.mul MM.rfl (h1 z i hz hi)
def muH(c:Nat→Int)(v:Int):Nat→Int
 |0=>0
 |k+1=>v*muH c v k+c k
theorem b9j(h:Fad A n M c){v:Int}{w:Nat→Int}(hw: ∀x,x<n→MM (sm (fun z=>A x z*w z) n) (v*w x)):
  ∀k,k≤n→ ∀x,x<n→MM (sm (fun y=>chN A n k x y*w y) n) (fsg k*muH c v (k+1)*w x)
 |0,hk,x,hx=>by
  have e:sm (fun y=>chN A n 0 x y*w y) n=w x:=a4t hx fun y _=>by
   rw[b2j]
   unfold a4m
   by_cases e:y=x
   ·subst e;simp
   ·simp[e]
  rw[e]
  have e2:fsg 0*muH c v 1*w x=c 0*w x:=by
   simp only[fsg,muH,Int.mul_zero,Int.zero_add,Int.one_mul]
  rw[e2]
  exact((MM.mul h.c0 (MM.rfl (a:=w x))).trans (MM.of_eq (Int.one_mul _))).symm
 |k+1,hk,x,hx=>by
  have ih:=b9j h hw k (by omega)
  have hE:=(c2Q h k (by omega)).2
  have e1:sm (fun y=>chN A n (k+1) x y*w y) n=chE A n (k+1)*w x-((k+1:Nat):Int)*sm (fun z=>A x z*sm (fun y=>chN A n k z y*w y) n) n:=by
   have a1:sm (fun y=>chN A n (k+1) x y*w y) n=sm (fun y=>a4m x y*chE A n (k+1)*w y-((k+1:Nat):Int)*(sm (fun z=>A x z*chN A n k z y) n*w y)) n:=a0k fun y hy=>by
    rw[b1N hx hy,Int.sub_mul,Int.mul_assoc ((k+1:Nat):Int)]
   rw[a1,a6e,a0T]
   have a2:sm (fun y=>a4m x y*chE A n (k+1)*w y) n=chE A n (k+1)*w x:=a4t hx fun y _=>by
    unfold a4m
    by_cases e:y=x
    ·subst e;simp
    ·simp[e]
   have a3:sm (fun y=>sm (fun z=>A x z*chN A n k z y) n*w y) n=sm (fun z=>A x z*sm (fun y=>chN A n k z y*w y) n) n:=by
    have b1:sm (fun y=>sm (fun z=>A x z*chN A n k z y) n*w y) n=sm (fun y=>sm (fun z=>A x z*(chN A n k z y*w y)) n) n:=a0k fun y _=>by
     rw[a5b]
     exact a0k fun z _=>Int.mul_assoc _ _ _
    rw[b1,a3b]
    exact a0k fun z _=>a0T _ _ _
   rw[a2,a3]
  rw[e1]
  have e2:MM (sm (fun z=>A x z*sm (fun y=>chN A n k z y*w y) n) n) (sm (fun z=>A x z*(fsg k*muH c v (k+1)*w z)) n):=a1P fun z hz=>MM.mul MM.rfl (ih z hz)
  have e3:sm (fun z=>A x z*(fsg k*muH c v (k+1)*w z)) n=fsg k*muH c v (k+1)*sm (fun z=>A x z*w z) n:=by
   rw[←a0T]
   exact a0k fun z _=>Int.mul_left_comm _ _ _
  rw[e3]at e2
  have e4:=e2.trans (MM.mul MM.rfl (hw x hx))
  refine(MM.sub (MM.mul hE.symm MM.rfl) (MM.mul MM.rfl e4)).trans (MM.of_eq ?_)
  show fsg (k+1)*c (k+1)*w x-_=fsg (k+1)*(v*muH c v (k+1)+c (k+1))*w x
  have e5:fsg (k+1)= -((k+1:Nat):Int)*fsg k:=rfl
  rw[Int.mul_add,Int.add_mul]
  have e6:fsg (k+1)*(v*muH c v (k+1))*w x= -(((k+1:Nat):Int)*(fsg k*muH c v (k+1)*(v*w x))):=by
   rw[e5]
   generalize ((k+1:Nat):Int)=a
   generalize fsg k=b
   generalize muH c v (k+1)=m
   generalize w x=t
   simp only[Int.neg_mul]
   congr 1
   simp only[Int.mul_assoc]
   rw[Int.mul_left_comm m v]
  rw[e6]
  omega
theorem b6L(h:Fad A n M c)(hn:n≤16){v:Int}{w:Nat→Int}(hw: ∀x,x<n→MM (sm (fun z=>A x z*w z) n) (v*w x)){x:Nat}(hx:x<n)(h0: ¬MM (w x) 0):MM (muH c v (n+1)) 0:=by
 have h1:=b9j h hw n (Nat.le_refl _) x hx
 have e:sm (fun y=>chN A n n x y*w y) n=0:=a1M fun y hy=>by rw[b6P hy,Int.zero_mul]
 rw[e]at h1
 have h2:MM (fsg n*(muH c v (n+1)*w x)) 0:=by rw[←Int.mul_assoc];exact h1.symm
 have h3:=b4o hn h2
 have h4:(w x) % 55441≠0:=fun e=>h0 e
 rw[Int.mul_comm]at h3
 exact a3O h4 h3
end
def hv(z:Int):List Int→Int
 | []=>0
 |c::cs=>(hv z cs*z+c) % 55441
def dvp(r:Int):List Int→List Int
 | []=>[]
 | [_]=>[]
 |_::d::cs=>hv r (d::cs)::dvp r (d::cs)
theorem a7b(z:Int): ∀P,num (hv z P)
 | []=>by unfold num hv;decide
 |c::cs=>by unfold hv;exact a0E _
theorem a4v(r:Int): ∀P,(dvp r P).length=P.length-1
 | []=>rfl
 | [_]=>rfl
 |_::d::cs=>by
  have:=a4v r (d::cs)
  simp only[dvp,List.length_cons]at this ⊢
  omega
theorem b8V(z r:Int): ∀P,MM (hv z P) ((z-r)*hv z (dvp r P)+hv r P)
 | []=>by simp[hv,dvp,MM]
 | [c]=>by simp[hv,dvp,MM]
 |c::d::cs=>by
  have ih:=b8V z r (d::cs)
  show MM ((hv z (d::cs)*z+c) % 55441) ((z-r)*((hv z (dvp r (d::cs))*z+hv r (d::cs)) % 55441)+(hv r (d::cs)*r+c) % 55441)
  have e1:MM ((hv z (d::cs)*z+c) % 55441) (((z-r)*hv z (dvp r (d::cs))+hv r (d::cs))*z+c):=(MM.mod _).trans (MM.add (MM.mul ih MM.rfl) MM.rfl)
  have e2:MM ((z-r)*((hv z (dvp r (d::cs))*z+hv r (d::cs)) % 55441)+(hv r (d::cs)*r+c) % 55441) ((z-r)*(hv z (dvp r (d::cs))*z+hv r (d::cs))+(hv r (d::cs)*r+c)):=MM.add (MM.mul MM.rfl (MM.mod _)) (MM.mod _)
  refine e1.trans (MM.trans (MM.of_eq ?_) e2.symm)
  generalize hv z (dvp r (d::cs))=D
  generalize hv r (d::cs)=h
  have a1:((z-r)*D+h)*z+c=(z-r)*D*z+h*z+c:=by rw[Int.add_mul]
  have a2:(z-r)*(D*z+h)=(z-r)*D*z+(z*h-r*h):=by rw[Int.mul_add, ←Int.mul_assoc,Int.sub_mul z r h]
  rw[a1,a2,Int.mul_comm h z,Int.mul_comm h r]
  omega
def Mon(P:List Int):Prop:=P.getLast?=some 1
theorem a9K(r:Int): ∀P:List Int,Mon P→1<P.length→Mon (dvp r P)
 | [],h,_=>by simp[Mon]at h
 | [_],_,h=>by simp at h
 | [c,d],h,_=>by
  simp only[Mon,List.getLast?_cons_cons,List.getLast?_singleton,Option.some.injEq]at h
  subst h
  simp[dvp,hv,Mon]
 |c::d::e::cs,h,_=>by
  have h1:Mon (d::e::cs):=by simpa [Mon]using h
  have ih:=a9K r (d::e::cs) h1 (by simp)
  show Mon (hv r (d::e::cs)::dvp r (d::e::cs))
  unfold Mon at ih ⊢
  have:dvp r (d::e::cs)=hv r (e::cs)::dvp r (e::cs):=rfl
  rw[this]at ih ⊢
  rw[List.getLast?_cons_cons]
  exact ih
theorem b9A{P:List Int}{v:Int}(h:Mon P)(h0:hv v P=0):1<P.length:=by
 match P,h with
 | [],h=>simp[Mon]at h
 | [c],h=>
  simp only[Mon,List.getLast?_singleton,Option.some.injEq]at h
  subst h
  simp[hv]at h0
 |_::_::_,_=>simp
theorem b7v{P:List Int}{v z:Int}(hv0:hv v P=0)(hz:hv z P=0)(hd:(v-z) % 55441≠0):hv v (dvp z P)=0:=by
 have h:=b8V v z P
 rw[hv0,hz,Int.add_zero]at h
 exact a8j (a3O hd h.symm) (a7b _ _)
def b0I(z:Int):Nat→List Int→List Int
 |0,P=>P
 |f+1,P=>if 1<P.length∧hv z P=0 then b0I z f (dvp z P)else P
def b3b(z:Int)(P:List Int):List Int:=b0I z P.length P
theorem b4W{z:Int}{P:List Int}(h:1<P.length)(h0:hv z P=0):b3b z P=b3b z (dvp z P):=by
 unfold b3b
 rw[a4v]
 obtain⟨k,hk⟩: ∃k,P.length=k+1:=⟨P.length-1,by omega⟩
 rw[hk]
 show (if 1<P.length∧hv z P=0 then b0I z k (dvp z P)else P)=_
 rw[if_pos ⟨h,h0⟩]
 rfl
theorem b4t{z:Int}{P:List Int}(h: ¬(1<P.length∧hv z P=0)):b3b z P=P:=by
 unfold b3b
 cases hP:P.length with
 |zero=>rfl
 |succ k=>
  show (if 1<P.length∧hv z P=0 then b0I z k (dvp z P)else P)=_
  rw[if_neg h]
theorem a6Z{v z:Int}(hd:(v-z) % 55441≠0): ∀(f:Nat) (P:List Int),Mon P→(Mon (b0I z f P)∧(hv v P=0→hv v (b0I z f P)=0))
 |0,P,h=>⟨h,id⟩
 |f+1,P,h=>by
  unfold b0I
  split
  ·rename_i hc
   obtain⟨h1,h2⟩:=a6Z hd f (dvp z P) (a9K z P h hc.1)
   exact⟨h1,fun h0=>h2 (b7v h0 hc.2 hd)⟩
  ·exact⟨h,id⟩
def evl:Nat→Int→List Int→List Int
 |0,_,_=>[]
 |f+1,z,P=>if 1<P.length then(if hv z P=0 then z::evl f (z+1) (b3b z P)else evl f (z+1) P)else []
theorem a9N: ∀(f:Nat) (z:Int) (P:List Int),0≤z→z+f≤55441→Mon P→ ∀v,z≤v→v<z+f→hv v P=0→v∈evl f z P
 |0,z,P,_,_,_,v,h1,h2,_=>by omega
 |f+1,z,P,h0,hf,hm,v,h1,h2,hr=>by
  unfold evl
  rw[if_pos (b9A hm hr)]
  by_cases hz:hv z P=0
  ·rw[if_pos hz]
   by_cases e:v=z
   ·rw[e];exact List.mem_cons_self
   ·have hd:(v-z) % 55441≠0:=by omega
    obtain⟨k1,k2⟩:=a6Z hd P.length P hm
    exact List.mem_cons_of_mem _ (a9N f (z+1) (b3b z P) (by omega) (by omega) k1 v (by omega) (by omega) (k2 hr))
  ·rw[if_neg hz]
   have:v≠z:=fun e=>hz (by rw[←e];exact hr)
   exact a9N f (z+1) P (by omega) (by omega) hm v (by omega) (by omega) hr
theorem a5m: ∀(f:Nat) (z:Int) (P:List Int),(evl f z P).Pairwise (· <·)∧ ∀v,v∈evl f z P→z≤v∧v<z+f
 |0,z,P=>⟨List.Pairwise.nil,fun v h=>by cases h⟩
 |f+1,z,P=>by
  unfold evl
  split
  ·split
   ·obtain⟨h1,h2⟩:=a5m f (z+1) (b3b z P)
    refine⟨List.pairwise_cons.2 ⟨fun v hv=>by have:=h2 v hv;omega,h1⟩,fun v hv=>?_⟩
    rcases List.mem_cons.1 hv with e|e
    ·omega
    ·have:=h2 v e;omega
   ·obtain⟨h1,h2⟩:=a5m f (z+1) P
    exact⟨h1,fun v hv=>by have:=h2 v hv;omega⟩
  ·exact⟨List.Pairwise.nil,fun v h=>by cases h⟩
end Go.Proofs.YtbakhfiibjkifaaGreat
/- Reduced bases: the plain rule. -/
namespace Go.Proofs.YtbakhfiibjkifaaGreat
open Go.RowKit
set_option maxRecDepth 1000000
def b2u(p:Nat→Bool):Nat→Nat→Nat
 |d,0=>d
 |d,r+1=>if p d then d else b2u p (d+1) r
theorem a3T(p:Nat→Bool): ∀(d r:Nat),d≤b2u p d r∧b2u p d r≤d+r∧(∀x,d≤x→x<b2u p d r→p x=false)∧(b2u p d r<d+r→p (b2u p d r)=true)
 |d,0=>⟨Nat.le_refl _,Nat.le_refl _,fun x h1 h2=>by simp only[b2u]at h2;omega,fun h=>by simp only[b2u]at h;omega⟩
 |d,r+1=>by
  simp only[b2u]
  split
  ·rename_i hp
   exact⟨Nat.le_refl _,by omega,fun x h1 h2=>by omega,fun _=>hp⟩
  ·rename_i hp
   obtain⟨h1,h2,h3,h4⟩:=a3T p (d+1) r
   refine⟨by omega,by omega,fun x g1 g2=>?_,fun h=>h4 (by omega)⟩
   rcases Nat.eq_or_lt_of_le g1 with e|e
   ·subst e;simpa using hp
   ·exact h3 x e g2
theorem b5F{p:Nat→Bool}{d r f:Nat}(h1:d≤f)(h2:f≤d+r)(h3: ∀x,d≤x→x<f→p x=false)(h4:f<d+r→p f=true):b2u p d r=f:=by
 obtain⟨g1,g2,g3,g4⟩:=a3T p d r
 rcases Nat.lt_trichotomy (b2u p d r) f with h|h|h
 ·have a:=h3 _ g1 h
  rw[g4 (by omega)]at a;cases a
 ·exact h
 ·have a:=g3 f h1 h
  rw[h4 (by omega)]at a;cases a
def fdf(M:Nat→Nat→Int)(k n d:Nat):Nat:=b2u (fun x=>!decide (M x k=0)) d (n-d)
theorem a2z(M:Nat→Nat→Int){k n d:Nat}(h:d≤n):d≤fdf M k n d∧fdf M k n d≤n∧(∀x,d≤x→x<fdf M k n d→M x k=0)∧(fdf M k n d<n→M (fdf M k n d) k≠0):=by
 obtain⟨h1,h2,h3,h4⟩:=a3T (fun x=>!decide (M x k=0)) d (n-d)
 refine⟨h1,by unfold fdf;omega,fun x g1 g2=>?_,fun g=>?_⟩
 ·simpa using h3 x g1 g2
 ·have:=h4 (by unfold fdf at g;omega)
  unfold fdf;simpa using this
theorem b7N{M:Nat→Nat→Int}{k n d f:Nat}(h1:d≤f)(h2:f≤n)(h3: ∀x,d≤x→x<f→M x k=0)(h4:f<n→M f k≠0):fdf M k n d=f:=
 b5F h1 (by omega) (fun x a b=>by simpa using h3 x a b) (fun h=>by simpa using h4 (by omega))
def swp(M:Nat→Nat→Int)(f d:Nat)(i j:Nat):Int:=M (if i=d then f else if i=f then d else i) j
def nrm(M:Nat→Nat→Int)(d k j:Nat):Int:=M d j*pw (M d k) 55439 % 55441
def elm(M:Nat→Nat→Int)(d k:Nat)(i j:Nat):Int:=if i=d then nrm M d k j else(M i j-M i k*nrm M d k j) % 55441
def elx(G:Nat→Nat→Int)(f d k x i j:Nat):Int:=if i=d then nrm (swp G f d) d k j else if i<x then elm (swp G f d) d k i j else swp G f d i j
theorem a9g(G:Nat→Nat→Int)(f d k x j:Nat):elx G f d k x d j=nrm (swp G f d) d k j:=if_pos rfl
theorem a6L{G:Nat→Nat→Int}{f d k x i j:Nat}(h1:i≠d)(h2:x≤i):elx G f d k x i j=swp G f d i j:=by unfold elx;rw[if_neg h1,if_neg (by omega)]
theorem b1o{G:Nat→Nat→Int}{f d k x i j:Nat}(h:i≠x):elx G f d k (x+1) i j=elx G f d k x i j:=by
 unfold elx
 by_cases h1:i=d
 ·rw[if_pos h1,if_pos h1]
 ·rw[if_neg h1,if_neg h1]
  by_cases h2:i<x
  ·rw[if_pos h2,if_pos (by omega)]
  ·rw[if_neg h2,if_neg (by omega)]
theorem a4Q{G:Nat→Nat→Int}{f d k i j:Nat}:elx G f d k (d+1) i j=elx G f d k d i j:=by
 by_cases h:i=d
 ·subst h;rw[a9g,a9g]
 ·exact b1o h
theorem b5X{G:Nat→Nat→Int}{f d k x j:Nat}(h:x≠d):elx G f d k (x+1) x j=(swp G f d x j-swp G f d x k*nrm (swp G f d) d k j) % 55441:=by
 unfold elx
 rw[if_neg h,if_pos (by omega)]
 unfold elm
 rw[if_neg h]
theorem b0E{G:Nat→Nat→Int}{f d k n i j:Nat}(h:i<n):elx G f d k n i j=elm (swp G f d) d k i j:=by
 unfold elx
 by_cases h1:i=d
 ·subst h1;rw[if_pos rfl];unfold elm;rw[if_pos rfl]
 ·rw[if_neg h1,if_pos h]
theorem b9P(G:Nat→Nat→Int)(f d k j:Nat):nrm (swp G f d) d k j=G f j*pw (G f k) 55439 % 55441:=by
 unfold nrm swp;rw[if_pos rfl]
theorem a2M{G:Nat→Nat→Int}(h: ∀i j,num (G i j))(f d i j:Nat):num (swp G f d i j):=h _ _
theorem a8r(G:Nat→Nat→Int)(d k j:Nat):num (nrm G d k j):=a0E _
def gst(n k:Nat)(x:(Nat→Nat→Int)×Nat×Int):(Nat→Nat→Int)×Nat×Int:=
 if fdf x.1 k n x.2.1=n then(x.1,x.2.1,0)
 else(elm (swp x.1 (fdf x.1 k n x.2.1) x.2.1) x.2.1 k,x.2.1+1,(if x.2.1<fdf x.1 k n x.2.1 then-x.2.2 % 55441 else x.2.2)*x.1 (fdf x.1 k n x.2.1) k % 55441)
def gj(n:Nat)(M:Nat→Nat→Int):Nat→(Nat→Nat→Int)×Nat×Int
 |0=>(M,0,1)
 |k+1=>gst n k (gj n M k)
def a1G(M:Nat→Nat→Int):Prop:= ∀i j,num (M i j)
theorem c0O{M:Nat→Nat→Int}(d k:Nat):a1G (elm M d k):=by
 intro i j
 unfold elm
 split
 ·exact a0E _
 ·exact a0E _
theorem a3o{n:Nat}{M:Nat→Nat→Int}(h:a1G M): ∀k,a1G (gj n M k).1∧(gj n M k).2.1≤n∧num (gj n M k).2.2
 |0=>⟨h,Nat.zero_le _,by show num 1;unfold num;decide⟩
 |k+1=>by
  obtain⟨h1,h2,h3⟩:=a3o h k
  obtain⟨f1,f2,f3,f4⟩:=a2z (gj n M k).1 (k:=k) h2
  simp only[gj,gst]
  split
  ·exact⟨h1,h2,by show num 0;unfold num;decide⟩
  ·exact⟨c0O _ _,by simp only;omega,a0E _⟩
theorem c3W(x:Int):qt 1 x=pw x 55439:=by
 have:=b3H x 55439
 have:=a3Z x 55439
 unfold qt;rw[Int.one_mul];exact Int.emod_eq_of_lt (by omega) (by omega)
theorem a6I(a k:Int):num (pw a k):=⟨a3Z a k,b3H a k⟩
theorem a8R(a f r:Int):(a+(-f % 55441)*r) % 55441=(a-f*r) % 55441:=by
 have e: -f % 55441= -f-55441*(-f / 55441):=Int.emod_def _ _
 have:a+(-f % 55441)*r=a-f*r+55441*(-(-f / 55441)*r):=by
  rw[e]
  simp only[Int.sub_mul,Int.neg_mul,Int.mul_neg,Int.mul_assoc]
  omega
 rw[this,Int.add_mul_emod_self_left]
end Go.Proofs.YtbakhfiibjkifaaGreat
/- Similar matrices with zeros below the numbers under the diagonal: eigenvalues are roots of the polynomials of the upper left parts. -/
namespace Go.Proofs.YtbakhfiibjkifaaGreat
def prd(H:Nat→Nat→Int)(i:Nat):Nat→Int
 |0=>1
 |k+1=>if k+1≤i then 1 else prd H i k*H (k+1) k
theorem a8V{H:Nat→Nat→Int}{i:Nat}: ∀ {k:Nat},k≤i→prd H i k=1
 |0,_=>rfl
 |k+1,h=>by unfold prd;rw[if_pos h]
theorem a7P{H:Nat→Nat→Int}{i k:Nat}(h:i≤k):prd H i (k+1)=prd H i k*H (k+1) k:=by
 conv=>lhs;unfold prd
 rw[if_neg (by omega)]
theorem a8n{H:Nat→Nat→Int}{i k:Nat}(h1:i≤k): ∀ {m:Nat},k≤m→prd H i m=prd H i k*prd H k m
 |0,h2=>by
  obtain rfl:k=0:=by omega
  rw[a8V (Nat.zero_le 0),Int.mul_one]
 |m+1,h2=>by
  by_cases e:k=m+1
  ·subst e
   rw[a8V (Nat.le_refl _),Int.mul_one]
  ·rw[a7P (by omega),a7P (by omega),a8n h1 (by omega),Int.mul_assoc]
theorem a7J{H:Nat→Nat→Int}{i k:Nat}(h:i<k):prd H i k=H (i+1) i*prd H (i+1) k:=by
 rw[a8n (k:=i+1) (by omega) h,a7P (Nat.le_refl i),a8V (Nat.le_refl i),Int.one_mul]
theorem b3P{f:Nat→Int}{m:Nat}: ∀ {n:Nat},m≤n→(∀k,m≤k→k<n→MM (f k) 0)→MM (sm f n) (sm f m)
 |0,h,_=>by
  obtain rfl:m=0:=by omega
  exact MM.rfl
 |n+1,h,hf=>by
  by_cases e:m=n+1
  ·subst e;exact MM.rfl
  ·have h1:=b3P (f:=f) (m:=m) (n:=n) (by omega) fun k a b=>hf k a (by omega)
   exact(MM.add h1 (hf n (by omega) (by omega))).trans (MM.of_eq (Int.add_zero _))
theorem a2e(f:Nat→Int)(n:Nat):sm f (n+1)=sm f n+f n:=rfl
structure c3P(H:Nat→Nat→Int)(n:Nat)(z:Int)(P:Nat→Int):Prop where
 p0:MM (P 0) 1
 ps: ∀k,k<n→MM (P (k+1)) ((z-H k k)*P k-sm (fun i=>prd H i k*H i k*P i) k)
def b8N(H:Nat→Nat→Int)(n k:Nat):Prop:= ∀j,j<k→ ∀i,j+2≤i→i<n→H i j=0
theorem b5c{w:Nat→Int}: ∀ {n:Nat},(∃x,x<n∧ ¬MM (w x) 0)→ ∃m,m<n∧ ¬MM (w m) 0∧ ∀x,m<x→x<n→MM (w x) 0
 |0,⟨x,h,_⟩=>by omega
 |n+1,⟨x,h,h0⟩=>by
  by_cases e:MM (w n) 0
  ·have hx:x<n:=by
    rcases Nat.lt_or_eq_of_le (Nat.le_of_lt_succ h)with h'|h'
    ·exact h'
    ·subst h';exact absurd e h0
   obtain⟨m,h1,h2,h3⟩:=b5c ⟨x,hx,h0⟩
   refine⟨m,by omega,h2,fun y a b=>?_⟩
   rcases Nat.lt_or_eq_of_le (Nat.le_of_lt_succ b)with h'|h'
   ·exact h3 y a h'
   ·subst h';exact e
  ·exact⟨n,by omega,e,fun y a b=>by omega⟩
theorem b9r{H:Nat→Nat→Int}{n:Nat}{z:Int}{P:Nat→Int}(h:c3P H n z P)(hu:b8N H n n){m k:Nat}(hm:m<n)(hk:k<m):
  MM (sm (fun i=>prd H i m*P i*H i k) (m+1)) (z*(prd H k m*P k)):=by
 have e1:MM (sm (fun i=>prd H i m*P i*H i k) (m+1)) (sm (fun i=>prd H i m*P i*H i k) (k+1+1)):=b3P (by omega) fun i a b=>by
  rw[hu k (by omega) i (by omega) (by omega),Int.mul_zero];exact MM.rfl
 refine e1.trans ?_
 rw[a2e,a2e]
 have e2:sm (fun i=>prd H i m*P i*H i k) k=prd H k m*sm (fun i=>prd H i k*H i k*P i) k:=by
  rw[←a0T]
  refine a0k fun i hi=>?_
  rw[a8n (k:=k) (by omega) (by omega:k≤m)]
  generalize prd H i k=a
  generalize prd H k m=b
  generalize P i=p
  generalize H i k=x
  rw[Int.mul_comm a b,Int.mul_assoc,Int.mul_assoc,Int.mul_assoc,Int.mul_comm p x]
 have e3:prd H (k+1) m*P (k+1)*H (k+1) k=prd H k m*P (k+1):=by
  rw[a7J hk]
  generalize prd H (k+1) m=a
  generalize P (k+1)=p
  generalize H (k+1) k=x
  rw[Int.mul_comm (a*p) x,Int.mul_assoc]
 have hp:=h.ps k (by omega)
 rw[e2,e3]
 refine(MM.add MM.rfl (MM.mul MM.rfl hp)).trans (MM.of_eq ?_)
 generalize sm (fun i=>prd H i k*H i k*P i) k=s
 generalize prd H k m=b
 generalize P k=p
 generalize H k k=x
 rw[Int.mul_sub,Int.sub_mul,Int.mul_sub,Int.mul_assoc,Int.mul_comm p x,Int.mul_left_comm z b p]
 omega
theorem b6E{H:Nat→Nat→Int}{n:Nat}{v:Int}{P:Nat→Int}(h:c3P H n v P)(hu:b8N H n n){w:Nat→Int}(h0: ∃x,x<n∧ ¬MM (w x) 0)
  (hw: ∀x,x<n→MM (sm (fun z=>H x z*w z) n) (v*w x)):MM (P n) 0:=by
 obtain⟨m,hm,hm0,hmz⟩:=b5c h0
 have hw2: ∀x,x<n→MM (sm (fun z=>H x z*w z) (m+1)) (v*w x):=fun x hx=>
  (b3P (by omega) fun k a b=>(MM.mul MM.rfl (hmz k (by omega) b)).trans (MM.of_eq (Int.mul_zero _))).symm.trans (hw x hx)
 -- the first root
 have r1:MM (P (m+1)) 0:=by
  have s1:MM (sm (fun i=>prd H i m*P i*sm (fun z=>H i z*w z) (m+1)) (m+1)) (sm (fun i=>v*(prd H i m*P i)*w i) (m+1)):=a1P fun i hi=>by
   refine(MM.mul MM.rfl (hw2 i (by omega))).trans (MM.of_eq ?_)
   rw[Int.mul_left_comm, ←Int.mul_assoc]
  have s2:sm (fun i=>prd H i m*P i*sm (fun z=>H i z*w z) (m+1)) (m+1)=sm (fun z=>sm (fun i=>prd H i m*P i*H i z) (m+1)*w z) (m+1):=by
   have b1:sm (fun i=>prd H i m*P i*sm (fun z=>H i z*w z) (m+1)) (m+1)=sm (fun i=>sm (fun z=>prd H i m*P i*H i z*w z) (m+1)) (m+1):=a0k fun i _=>by
    rw[←a0T]
    exact a0k fun z _=>(Int.mul_assoc _ _ _).symm
   rw[b1,a3b]
   exact a0k fun z _=>(a5b _ _ _).symm
  rw[s2]at s1
  have s1:MM (sm (fun z=>sm (fun i=>prd H i m*P i*H i z) (m+1)*w z) m+sm (fun i=>prd H i m*P i*H i m) (m+1)*w m) (sm (fun i=>v*(prd H i m*P i)*w i) m+v*(prd H m m*P m)*w m):=s1
  have s3:MM (sm (fun z=>sm (fun i=>prd H i m*P i*H i z) (m+1)*w z) m) (sm (fun i=>v*(prd H i m*P i)*w i) m):=a1P fun z hz=>MM.mul (b9r h hu hm hz) MM.rfl
  have s4:MM (sm (fun i=>prd H i m*P i*H i m) (m+1)*w m) (v*(prd H m m*P m)*w m):=by
   have a1:=MM.add s1 s3.neg
   generalize sm (fun z=>sm (fun i=>prd H i m*P i*H i z) (m+1)*w z) m=X at a1
   generalize sm (fun i=>v*(prd H i m*P i)*w i) m=Y at a1
   generalize sm (fun i=>prd H i m*P i*H i m) (m+1)*w m=Z at a1 ⊢
   generalize v*(prd H m m*P m)*w m=U at a1 ⊢
   have e1:X+Z+ -X=Z:=by omega
   have e2:Y+U+ -Y=U:=by omega
   rw[e1,e2]at a1
   exact a1
  rw[a2e,a8V (Nat.le_refl m),Int.one_mul]at s4
  have e5:sm (fun i=>prd H i m*P i*H i m) m=sm (fun i=>prd H i m*H i m*P i) m:=a0k fun i _=>by rw[Int.mul_assoc,Int.mul_comm (P i), ←Int.mul_assoc]
  rw[e5]at s4
  have hp:=h.ps m hm
  have s5:MM (P (m+1)*w m) 0:=by
   refine(MM.mul hp MM.rfl).trans ?_
   generalize sm (fun i=>prd H i m*H i m*P i) m=s at s4 ⊢
   have a1:=MM.sub (MM.rfl (a:=v*P m*w m)) s4
   have e1:v*P m*w m-(s+P m*H m m)*w m=((v-H m m)*P m-s)*w m:=by
    rw[Int.sub_mul,Int.sub_mul,Int.sub_mul,Int.add_mul,Int.mul_comm (P m) (H m m)]
    omega
   rw[e1]at a1
   exact a1.trans (MM.of_eq (Int.sub_self _))
  rw[Int.mul_comm]at s5
  exact a3O (fun e=>hm0 e) s5
 by_cases hmn:m+1=n
 ·rw[←hmn];exact r1
 -- the number under the diagonal is 0
 have r2:MM (H (m+1) m) 0:=by
  have a1:=hw2 (m+1) (by omega)
  have a2:=(MM.mul (MM.rfl (a:=v)) (hmz (m+1) (by omega) (by omega))).trans (MM.of_eq (Int.mul_zero _))
  have a3:=a1.trans a2
  rw[a2e]at a3
  have a4:sm (fun z=>H (m+1) z*w z) m=0:=a1M fun z hz=>by rw[hu z (by omega) (m+1) (by omega) (by omega),Int.zero_mul]
  rw[a4,Int.zero_add,Int.mul_comm]at a3
  exact a3O (fun e=>hm0 e) a3
 have r3: ∀k,m+1≤k→k≤n→MM (P k) 0:=by
  intro k
  induction k using Nat.strongRecOn with
  |_ k ih=>
   intro h1 h2
   by_cases e:k=m+1
   ·rw[e];exact r1
   ·obtain⟨j,rfl⟩: ∃j,k=j+1:=⟨k-1,by omega⟩
    refine(h.ps j (by omega)).trans ?_
    have b1:MM (sm (fun i=>prd H i j*H i j*P i) j) 0:=by
     have:=a1P (n:=j) (f:=fun i=>prd H i j*H i j*P i) (g:=fun _=>0) fun i hi=>by
      by_cases him:i≤m
      ·have e1:prd H i j=H (m+1) m*(prd H i m*prd H (m+1) j):=by
        rw[a8n (k:=m) him (by omega:m≤j),a7J (by omega:m<j),Int.mul_left_comm]
       rw[e1,Int.mul_assoc,Int.mul_assoc]
       exact(MM.mul r2 MM.rfl).trans (MM.of_eq (Int.zero_mul _))
      ·exact(MM.mul MM.rfl (ih i (by omega) (by omega) (by omega))).trans (MM.of_eq (Int.mul_zero _))
     rwa [a1M (f:=fun _=>0) fun _ _=>rfl]at this
    have b2:=(MM.mul (MM.rfl (a:=v-H j j)) (ih j (by omega) (by omega) (by omega))).trans (MM.of_eq (Int.mul_zero _))
    exact(MM.sub b2 b1).trans (MM.of_eq (Int.sub_self _))
 exact r3 n (by omega) (Nat.le_refl _)
def Eig(H:Nat→Nat→Int)(n:Nat)(v:Int):Prop:= ∃w:Nat→Int,(∃x,x<n∧ ¬MM (w x) 0)∧ ∀x,x<n→MM (sm (fun z=>H x z*w z) n) (v*w x)
def sgm(f d i:Nat):Nat:=if i=d then f else if i=f then d else i
theorem b9g{f d i n:Nat}(hf:f<n)(hd:d<n)(hi:i<n):sgm f d i<n:=by
 unfold sgm
 by_cases h1:i=d
 ·rw[if_pos h1];exact hf
 ·rw[if_neg h1]
  by_cases h2:i=f
  ·rw[if_pos h2];exact hd
  ·rw[if_neg h2];exact hi
theorem c1d(f d i:Nat):sgm f d (sgm f d i)=i:=by
 unfold sgm
 by_cases h1:i=d
 ·subst h1
  rw[if_pos rfl]
  by_cases h2:f=i
  ·subst h2;rw[if_pos rfl]
  ·rw[if_neg h2,if_pos rfl]
 ·rw[if_neg h1]
  by_cases h2:i=f
  ·subst h2;rw[if_pos rfl,if_pos rfl]
  ·rw[if_neg h2,if_neg h1,if_neg h2]
theorem c2y(g:Nat→Int){f d n:Nat}(hf:f<n)(hd:d<n):sm (fun z=>g (sgm f d z)) n=sm g n:=by
 by_cases e:f=d
 ·subst e
  refine a0k fun z _=>?_
  have:sgm f f z=z:=by
   unfold sgm
   by_cases h:z=f
   ·rw[if_pos h,h]
   ·rw[if_neg h,if_neg h]
  rw[this]
 ·have h1:sm (fun z=>g (sgm f d z)) n=sm (fun z=>g z+((if z=d then g f-g d else 0)+(if z=f then g d-g f else 0))) n:=a0k fun z _=>by
   unfold sgm
   by_cases h1:z=d
   ·subst h1
    rw[if_pos rfl,if_pos rfl,if_neg (fun h=>e h.symm)]
    omega
   ·rw[if_neg h1,if_neg h1]
    by_cases h2:z=f
    ·subst h2
     rw[if_pos rfl,if_pos rfl]
     omega
    ·rw[if_neg h2,if_neg h2]
     omega
  rw[h1,a2p,a2p,a5p hd,a5p hf]
  omega
def csw(H:Nat→Nat→Int)(f d i j:Nat):Int:=H (sgm f d i) (sgm f d j)
theorem b9U{H:Nat→Nat→Int}{n f d:Nat}{v:Int}(hf:f<n)(hd:d<n)(h:Eig H n v):Eig (csw H f d) n v:=by
 obtain⟨w,⟨x,hx,h0⟩,hw⟩:=h
 refine⟨fun z=>w (sgm f d z),⟨sgm f d x,b9g hf hd hx,by show ¬MM (w (sgm f d (sgm f d x))) 0;rw[c1d];exact h0⟩,fun y hy=>?_⟩
 have:=c2y (fun z=>H (sgm f d y) z*w z) hf hd
 show MM (sm (fun z=>H (sgm f d y) (sgm f d z)*w (sgm f d z)) n) _
 rw[this]
 exact hw _ (b9g hf hd hy)
def rop(H:Nat→Nat→Int)(i d:Nat)(c:Int)(x y:Nat):Int:=if x=i then(H i y+(-c % 55441)*H d y) % 55441 else H x y
def cop(H:Nat→Nat→Int)(i d:Nat)(c:Int)(m x y:Nat):Int:=if y=d∧x<m then(H x d+c*H x i) % 55441 else H x y
theorem c1K{H:Nat→Nat→Int}{n i d:Nat}{v c:Int}(hi:i<n)(hd:d<n)(hid:i≠d)(h:Eig H n v):Eig (cop (rop H i d c) i d c n) n v:=by
 obtain⟨w,⟨x,hx,h0⟩,hw⟩:=h
 have hdi:d≠i:=fun e=>hid e.symm
 refine⟨fun z=>if z=i then w i-c*w d else w z,?_,fun y hy=>?_⟩
 ·by_cases e:x=i
  ·by_cases hwd:MM (w d) 0
   ·refine⟨i,hi,?_⟩
    show ¬MM (if i=i then w i-c*w d else w i) 0
    rw[if_pos rfl]
    intro h1
    subst e
    have h2:=MM.add h1 ((MM.mul (MM.rfl (a:=c)) hwd).trans (MM.of_eq (Int.mul_zero _)))
    rw[Int.sub_add_cancel]at h2
    exact h0 h2
   ·exact⟨d,hd,by show ¬MM (if d=i then w i-c*w d else w d) 0;rw[if_neg hdi];exact hwd⟩
  ·exact⟨x,hx,by show ¬MM (if x=i then w i-c*w d else w x) 0;rw[if_neg e];exact h0⟩
 ·have R:MM (sm (fun z=>cop (rop H i d c) i d c n y z*(if z=i then w i-c*w d else w z)) n) (sm (fun z=>rop H i d c y z*w z) n):=by
   have e1:MM (sm (fun z=>cop (rop H i d c) i d c n y z*(if z=i then w i-c*w d else w z)) n)
     (sm (fun z=>rop H i d c y z*w z+((if z=d then c*rop H i d c y i*w d else 0)+(if z=i then-(c*rop H i d c y i*w d)else 0))) n):=a1P fun z hz=>by
    by_cases h1:z=d
    ·subst h1
     unfold cop
     rw[if_pos ⟨rfl,hy⟩,if_neg hdi,if_pos rfl,if_neg hdi]
     refine(MM.mul (MM.mod _) MM.rfl).trans (MM.of_eq ?_)
     rw[Int.add_mul]
     omega
    ·unfold cop
     rw[if_neg (fun h=>h1 h.1),if_neg h1]
     by_cases h2:z=i
     ·subst h2
      rw[if_pos rfl,if_pos rfl,Int.mul_sub]
      refine MM.of_eq ?_
      rw[Int.mul_left_comm (rop H z d c y z) c (w d), ←Int.mul_assoc]
      omega
     ·rw[if_neg h2,if_neg h2]
      exact MM.of_eq (by omega)
   refine e1.trans (MM.of_eq ?_)
   rw[a2p,a2p,a5p hd,a5p hi]
   omega
  refine R.trans ?_
  show MM _ (v*(if y=i then w i-c*w d else w y))
  by_cases e:y=i
  ·subst e
   rw[if_pos rfl]
   have e1:MM (sm (fun z=>rop H y d c y z*w z) n) (sm (fun z=>H y z*w z-c*(H d z*w z)) n):=a1P fun z _=>by
    unfold rop
    rw[if_pos rfl]
    have e2:MM ((H y z+(-c % 55441)*H d z) % 55441) (H y z+ -c*H d z):=(MM.mod _).trans (MM.add MM.rfl (MM.mul (MM.mod _) MM.rfl))
    refine(MM.mul e2 MM.rfl).trans (MM.of_eq ?_)
    rw[Int.add_mul,Int.neg_mul,Int.neg_mul,Int.mul_assoc]
    omega
   refine e1.trans ?_
   rw[a6e,a0T]
   refine(MM.sub (hw y hy) (MM.mul MM.rfl (hw d hd))).trans (MM.of_eq ?_)
   rw[Int.mul_sub,Int.mul_left_comm]
  ·rw[if_neg e]
   have e1:sm (fun z=>rop H i d c y z*w z) n=sm (fun z=>H y z*w z) n:=a0k fun z _=>by
    unfold rop
    rw[if_neg e]
   rw[e1]
   exact hw y hy
def hin(n k:Nat)(fac:Int)(H:Nat→Nat→Int):Nat→Nat→Nat→Int
 |0=>H
 |t+1=>cop (rop (hin n k fac H t) (k+2+t) (k+1) (hin n k fac H t (k+2+t) k*fac % 55441)) (k+2+t) (k+1) (hin n k fac H t (k+2+t) k*fac % 55441) n
def hst(n k:Nat)(H:Nat→Nat→Int):Nat→Nat→Int:=
 if fdf H k n (k+1)=n then H else hin n k (pw (csw H (fdf H k n (k+1)) (k+1) (k+1) k) 55439) (csw H (fdf H k n (k+1)) (k+1)) (n-(k+2))
def hes(n:Nat)(H:Nat→Nat→Int):Nat→Nat→Nat→Int
 |0=>H
 |k+1=>hst n k (hes n H k)
theorem a8m{H:Nat→Nat→Int}(h:a1G H)(i d:Nat)(c:Int):a1G (rop H i d c):=by
 intro x y
 unfold rop
 split
 ·exact a0E _
 ·exact h x y
theorem b6l{H:Nat→Nat→Int}(h:a1G H)(i d:Nat)(c:Int)(m:Nat):a1G (cop H i d c m):=by
 intro x y
 unfold cop
 split
 ·exact a0E _
 ·exact h x y
structure c4L(n k:Nat)(v q:Int)(t:Nat)(G:Nat→Nat→Int):Prop where
 nu:a1G G
 ei:Eig G n v
 up:b8N G n k
 zk: ∀i,k+2≤i→i<k+2+t→G i k=0
 pv:G (k+1) k=q
theorem b9e{n k:Nat}{v q:Int}{H:Nat→Nat→Int}(hq:num q)(hq0:q≠0)(hk:k+2<n)(h:c4L n k v q 0 H): ∀t,k+2+t≤n→c4L n k v q t (hin n k (pw q 55439) H t)
 |0,_=>h
 |t+1,ht=>by
  have ih:=b9e hq hq0 hk h t (by omega)
  show c4L n k v q (t+1) (cop (rop (hin n k (pw q 55439) H t) (k+2+t) (k+1) (hin n k (pw q 55439) H t (k+2+t) k*pw q 55439 % 55441)) (k+2+t) (k+1) (hin n k (pw q 55439) H t (k+2+t) k*pw q 55439 % 55441) n)
  generalize hin n k (pw q 55439) H t=G at ih
  obtain⟨a1,a2,a3,a4,a5⟩:=ih
  have hcol: ∀x j,j≤k→cop (rop G (k+2+t) (k+1) (G (k+2+t) k*pw q 55439 % 55441)) (k+2+t) (k+1) (G (k+2+t) k*pw q 55439 % 55441) n x j=rop G (k+2+t) (k+1) (G (k+2+t) k*pw q 55439 % 55441) x j:=fun x j hj=>by
   unfold cop
   rw[if_neg (fun h=>by omega)]
  refine⟨b6l (a8m a1 _ _ _) _ _ _ _,c1K (by omega) (by omega) (by omega) a2,fun j hj i h1 h2=>?_,fun i h1 h2=>?_,?_⟩
  ·rw[hcol i j (by omega)]
   unfold rop
   split
   ·rename_i e
    rw[a3 j hj (k+2+t) (by omega) (by omega),a3 j hj (k+1) (by omega) (by omega),Int.mul_zero]
    rfl
   ·exact a3 j hj i h1 h2
  ·rw[hcol i k (Nat.le_refl _)]
   unfold rop
   split
   ·rename_i e
    rw[a5]
    have e1:MM (G (k+2+t) k+(-(G (k+2+t) k*pw q 55439 % 55441) % 55441)*q) (G (k+2+t) k+ -(G (k+2+t) k*pw q 55439)*q):=
     MM.add MM.rfl (MM.mul ((MM.mod _).trans (MM.mod _).neg) MM.rfl)
    have e2:MM (G (k+2+t) k+ -(G (k+2+t) k*pw q 55439)*q) 0:=by
     have e3:=MM.mul (MM.rfl (a:=G (k+2+t) k)) (a4y hq hq0)
     rw[Int.mul_one, ←Int.mul_assoc]at e3
     rw[Int.neg_mul]
     exact(MM.add MM.rfl e3.neg).trans (MM.of_eq (by omega))
    exact e1.trans e2
   ·exact a4 i h1 (by omega)
  ·rw[hcol (k+1) k (Nat.le_refl _)]
   unfold rop
   rw[if_neg (by omega)]
   exact a5
theorem c2w{n k:Nat}{v:Int}{H:Nat→Nat→Int}(hk:k+2<n)(hn:a1G H)(he:Eig H n v)(hu:b8N H n k):a1G (hst n k H)∧Eig (hst n k H) n v∧b8N (hst n k H) n (k+1):=by
 obtain⟨f1,f2,f3,f4⟩:=a2z H (k:=k) (n:=n) (d:=k+1) (by omega)
 unfold hst
 split
 ·rename_i hf
  rw[hf]at f3
  refine⟨hn,he,fun j hj i h1 h2=>?_⟩
  rcases Nat.lt_or_eq_of_le (Nat.le_of_lt_succ hj)with h|h
  ·exact hu j h i h1 h2
  ·subst h;exact f3 i (by omega) h2
 ·rename_i hf
  generalize fdf H k n (k+1)=f at f1 f2 f3 f4 hf
  have hfn:f<n:=by omega
  have hnc:a1G (csw H f (k+1)):=fun i j=>hn _ _
  have hp:csw H f (k+1) (k+1) k=H f k:=by
   unfold csw sgm
   rw[if_pos rfl,if_neg (by omega),if_neg (by omega)]
  have hup:b8N (csw H f (k+1)) n k:=fun j hj i h1 h2=>by
   unfold csw
   have e1:sgm f (k+1) j=j:=by unfold sgm;rw[if_neg (by omega),if_neg (by omega)]
   rw[e1]
   unfold sgm
   split
   ·exact hu j hj f (by omega) hfn
   ·split
    ·exact hu j hj (k+1) (by omega) (by omega)
    ·exact hu j hj i h1 h2
  have:=b9e (v:=v) (q:=csw H f (k+1) (k+1) k) (hnc _ _) (by rw[hp];exact f4 hfn) hk ⟨hnc,b9U hfn (by omega) he,hup,fun i h1 h2=>by omega,rfl⟩ (n-(k+2)) (by omega)
  refine⟨this.nu,this.ei,fun j hj i h1 h2=>?_⟩
  rcases Nat.lt_or_eq_of_le (Nat.le_of_lt_succ hj)with h|h
  ·exact this.up j h i h1 h2
  ·subst h;exact this.zk i (by omega) (by omega)
theorem b8X{n:Nat}{v:Int}{H:Nat→Nat→Int}(hn:a1G H)(he:Eig H n v): ∀k,k+2≤n∨k=0→a1G (hes n H k)∧Eig (hes n H k) n v∧b8N (hes n H k) n k
 |0,_=>⟨hn,he,fun j hj=>absurd hj (Nat.not_lt_zero _)⟩
 |k+1,hk=>by
  obtain⟨a1,a2,a3⟩:=b8X hn he k (by omega)
  exact c2w (by omega) a1 a2 a3
theorem b7p{n:Nat}{v:Int}{H:Nat→Nat→Int}(hn:a1G H)(he:Eig H n v):a1G (hes n H (n-2))∧Eig (hes n H (n-2)) n v∧b8N (hes n H (n-2)) n n:=by
 obtain⟨a1,a2,a3⟩:=b8X hn he (n-2) (by omega)
 exact⟨a1,a2,fun j hj i h1 h2=>a3 j (by omega) i h1 h2⟩
theorem c1f{n:Nat}{v:Int}{H:Nat→Nat→Int}(hn:a1G H)(he:Eig H n v){P:Nat→Int}(hP:c3P (hes n H (n-2)) n v P):MM (P n) 0:=by
 obtain⟨a1,⟨w,h0,hw⟩,a3⟩:=b7p hn he
 exact b6E hP a3 h0 hw
end Go.Proofs.YtbakhfiibjkifaaGreat
/- Reduced bases: kernels, ranks, pivots. Conditions that a common vector fulfils. -/
namespace Go.Proofs.YtbakhfiibjkifaaGreat
def a6W(M:Nat→Nat→Int)(n w:Nat)(x:Nat→Int):Prop:= ∀i,i<n→MM (sm (fun j=>M i j*x j) w) 0
theorem b9O{G:Nat→Nat→Int}{n w f d k:Nat}{x:Nat→Int}(hf:f<n)(hd:d<n)(h:a6W G n w x):a6W (elm (swp G f d) d k) n w x:=by
 have hs: ∀i,i<n→MM (sm (fun j=>swp G f d i j*x j) w) 0:=fun i hi=>by
  unfold swp
  by_cases e:i=d
  ·rw[if_pos e];exact h f hf
  ·rw[if_neg e]
   by_cases e2:i=f
   ·rw[if_pos e2];exact h d hd
   ·rw[if_neg e2];exact h i hi
 have hn:MM (sm (fun j=>nrm (swp G f d) d k j*x j) w) 0:=by
  have e1:MM (sm (fun j=>nrm (swp G f d) d k j*x j) w) (sm (fun j=>pw (swp G f d d k) 55439*(swp G f d d j*x j)) w):=a1P fun j _=>by
   unfold nrm
   refine(MM.mul (MM.mod _) MM.rfl).trans (MM.of_eq ?_)
   rw[Int.mul_comm (swp G f d d j),Int.mul_assoc]
  rw[a0T]at e1
  exact e1.trans ((MM.mul MM.rfl (hs d hd)).trans (MM.of_eq (Int.mul_zero _)))
 intro i hi
 by_cases e:i=d
 ·have e1:sm (fun j=>elm (swp G f d) d k i j*x j) w=sm (fun j=>nrm (swp G f d) d k j*x j) w:=a0k fun j _=>by
   unfold elm
   rw[if_pos e]
  rw[e1]
  exact hn
 ·have e1:MM (sm (fun j=>elm (swp G f d) d k i j*x j) w) (sm (fun j=>swp G f d i j*x j-swp G f d i k*(nrm (swp G f d) d k j*x j)) w):=a1P fun j _=>by
   unfold elm
   rw[if_neg e]
   refine(MM.mul (MM.mod _) MM.rfl).trans (MM.of_eq ?_)
   rw[Int.sub_mul,Int.mul_assoc (swp G f d i k)]
  rw[a6e,a0T]at e1
  exact e1.trans ((MM.sub (hs i hi) (MM.mul MM.rfl hn)).trans (MM.of_eq (by rw[Int.mul_zero];rfl)))
theorem b3x{M:Nat→Nat→Int}{n w:Nat}{x:Nat→Int}(hM:a1G M)(h:a6W M n w x): ∀k,a6W (gj n M k).1 n w x
 |0=>h
 |k+1=>by
  have ih:=b3x hM h k
  obtain⟨h1,h2,h3⟩:=a3o (n:=n) hM k
  obtain⟨f1,f2,f3,f4⟩:=a2z (gj n M k).1 (k:=k) h2
  simp only[gj,gst]
  split
  ·exact ih
  ·exact b9O (by omega) (by omega) ih
structure Piv(n k r:Nat)(G:Nat→Nat→Int):Prop where
 le:r≤k
 pc: ∀i,i<r→ ∃c,c<k∧ ∀a,a<n→G a c=if a=i then 1 else 0
 zr: ∀a,r≤a→a<n→ ∀j,j<k→G a j=0
 un:r=k→ ∀j,j<k→ ∀a,a<n→G a j=if a=j then 1 else 0
theorem b7h{G:Nat→Nat→Int}{d k:Nat}(hn:num (G d k))(h0:G d k≠0):nrm G d k k=1:=by
 have h1:=a4y hn h0
 rw[Int.mul_comm]at h1
 have h2:MM (nrm G d k k) 1:=(MM.mod _).trans h1
 exact b3I h2 (a8r _ _ _ _) (by unfold num;omega)
theorem b1r{G:Nat→Nat→Int}{n f d k c i:Nat}(hG:a1G G)(hf:f<n)(hdf:d≤f)(h: ∀a,a<n→G a c=if a=i then 1 else 0)(hi:i<d): ∀a,a<n→elm (swp G f d) d k a c=if a=i then 1 else 0:=by
 intro a ha
 have hs: ∀b,b<n→swp G f d b c=if b=i then 1 else 0:=fun b hb=>by
  unfold swp
  by_cases e:b=d
  ·rw[if_pos e,h f hf,if_neg (by omega),if_neg (by omega)]
  ·rw[if_neg e]
   by_cases e2:b=f
   ·rw[if_pos e2,h d (by omega),if_neg (by omega),if_neg (by omega)]
   ·rw[if_neg e2];exact h b hb
 have hz:nrm (swp G f d) d k c=0:=by
  unfold nrm
  rw[hs d (by omega),if_neg (by omega),Int.zero_mul]
  rfl
 unfold elm
 by_cases e:a=d
 ·rw[if_pos e,hz,if_neg (by omega)]
 ·rw[if_neg e,hz,Int.mul_zero,Int.sub_zero,hs a ha]
  split<;>rfl
theorem a6E{M:Nat→Nat→Int}{n:Nat}(hM:a1G M): ∀k,Piv n k (gj n M k).2.1 (gj n M k).1
 |0=>⟨Nat.le_refl _,fun i hi=>absurd hi (Nat.not_lt_zero _),fun a _ _ j hj=>absurd hj (Nat.not_lt_zero _),fun _ j hj=>absurd hj (Nat.not_lt_zero _)⟩
 |k+1=>by
  obtain⟨p1,p2,p3,p4⟩:=a6E hM k
  obtain⟨h1,h2,h3⟩:=a3o (n:=n) hM k
  obtain⟨f1,f2,f3,f4⟩:=a2z (gj n M k).1 (k:=k) h2
  simp only[gj,gst]
  split
  ·rename_i hf
   rw[hf]at f3
   refine⟨Nat.le_succ_of_le p1,fun i hi=>?_,fun a ha1 ha2 j hj=>?_,fun h=>by dsimp only at h;omega⟩
   ·obtain⟨c,hc,hcc⟩:=p2 i hi
    exact⟨c,by omega,hcc⟩
   ·rcases Nat.lt_or_eq_of_le (Nat.le_of_lt_succ hj)with e|e
    ·exact p3 a ha1 ha2 j e
    ·subst e;exact f3 a ha1 ha2
  ·rename_i hf
   dsimp only
   generalize (gj n M k).1=G at*
   generalize (gj n M k).2.1=d at*
   generalize fdf G k n d=f at*
   have hfn:f<n:=by omega
   have hp0:swp G f d d k≠0:=by
    unfold swp
    rw[if_pos rfl]
    exact f4 hfn
   have hself:=b7h (G:=swp G f d) (a2M h1 f d d k) hp0
   have hcol: ∀a,a<n→elm (swp G f d) d k a k=if a=d then 1 else 0:=fun a ha=>by
    unfold elm
    by_cases e:a=d
    ·rw[if_pos e,if_pos e];exact hself
    ·rw[if_neg e,if_neg e,hself,Int.mul_one,Int.sub_self];rfl
   refine⟨by omega,fun i hi=>?_,fun a ha1 ha2 j hj=>?_,fun h j hj a ha=>?_⟩
   ·rcases Nat.lt_or_eq_of_le (Nat.le_of_lt_succ hi)with e|e
    ·obtain⟨c,hc,hcc⟩:=p2 i e
     exact⟨c,by omega,b1r h1 hfn f1 hcc e⟩
    ·subst e
     exact⟨k,by omega,hcol⟩
   ·rcases Nat.lt_or_eq_of_le (Nat.le_of_lt_succ hj)with e|e
    ·have hz:nrm (swp G f d) d k j=0:=by
      unfold nrm swp
      rw[if_pos rfl,p3 f f1 hfn j e,Int.zero_mul]
      rfl
     have hs:swp G f d a j=0:=by
      unfold swp
      rw[if_neg (by omega)]
      split
      ·exact p3 d (Nat.le_refl _) (by omega) j e
      ·exact p3 a (by omega) ha2 j e
     unfold elm
     rw[if_neg (by omega),hz,hs,Int.mul_zero]
     rfl
    ·subst e
     rw[hcol a ha2,if_neg (by omega)]
   ·have hd:d=k:=by omega
    rcases Nat.lt_or_eq_of_le (Nat.le_of_lt_succ hj)with e|e
    ·exact b1r h1 hfn f1 (p4 hd j e) (by omega) a ha
    ·subst e
     rw[hcol a ha,hd]
theorem b2V{M:Nat→Nat→Int}{n w:Nat}{x:Nat→Int}(hM:a1G M)(h:a6W M n w x)(h0: ∃j,j<w∧ ¬MM (x j) 0):(gj n M w).2.1<w:=by
 have hp:=a6E (n:=n) hM w
 have hk:=b3x hM h w
 have hn:=(a3o (n:=n) hM w).2.1
 refine Nat.lt_of_le_of_ne hp.le fun e=>?_
 obtain⟨j,hj,hj0⟩:=h0
 have h1:=hk j (by omega)
 have e1:sm (fun l=>(gj n M w).1 j l*x l) w=x j:=a4t hj fun l hl=>by
  rw[hp.un e l hl j (by omega)]
  by_cases e2:l=j
  ·rw[if_pos e2.symm,if_pos e2,Int.one_mul,e2]
  ·rw[if_neg (fun h=>e2 h.symm),if_neg e2,Int.zero_mul]
 rw[e1]at h1
 exact hj0 h1
theorem b5H{M:Nat→Nat→Int}{n:Nat}: ∀k,(gj n M k).2.1=0→(gj n M k).1=M
 |0,_=>rfl
 |k+1,h=>by
  simp only[gj,gst]at h ⊢
  split at h
  ·rename_i hf
   rw[if_pos hf]
   exact b5H k h
  ·simp at h
theorem b5f{M:Nat→Nat→Int}{n:Nat}: ∀k,(gj n M k).2.1≤(gj n M (k+1)).2.1
 |k=>by
  simp only[gj,gst]
  split<;>simp
theorem b1g{M:Nat→Nat→Int}{n k:Nat}: ∀m,(gj n M k).2.1≤(gj n M (k+m)).2.1
 |0=>Nat.le_refl _
 |m+1=>Nat.le_trans (b1g m) (b5f _)
theorem c2h{M:Nat→Nat→Int}{n w i j:Nat}(hi:i<n)(hj:j<w)(h:M i j≠0):1≤(gj n M w).2.1:=by
 have h1:1≤(gj n M (j+1)).2.1:=by
  by_cases h0:(gj n M j).2.1=0
  ·have e:=b5H j h0
   obtain⟨f1,f2,f3,f4⟩:=a2z M (k:=j) (n:=n) (d:=0) (Nat.zero_le _)
   simp only[gj,gst]
   rw[e,h0]
   split
   ·rename_i hf
    rw[hf]at f3
    exact absurd (f3 i (Nat.zero_le _) hi) h
   ·simp
  ·have:=b5f (n:=n) (M:=M) j
   omega
 have h2:=b1g (n:=n) (M:=M) (k:=j+1) (w-(j+1))
 have e:j+1+(w-(j+1))=w:=by omega
 rw[e]at h2
 omega
def stk(r:Nat)(R L:Nat→Nat→Int)(i j:Nat):Int:=if i<r then R i j else L (i-r) j
def lsM(T:Nat→Nat→Int)(v:Int)(i j:Nat):Int:=if j=i then(T i i-v) % 55441 else T i j
def cmn(n:Nat)(L:Nat→Nat→Nat→Int):Nat→(Nat→Nat→Int)×Nat
 |0=>(fun _ _=>0,0)
 |k+1=>((gj ((cmn n L k).2+n) (stk (cmn n L k).2 (cmn n L k).1 (L k)) n).1,(gj ((cmn n L k).2+n) (stk (cmn n L k).2 (cmn n L k).1 (L k)) n).2.1)
theorem a3E{r:Nat}{R L:Nat→Nat→Int}(h1:a1G R)(h2:a1G L):a1G (stk r R L):=by
 intro i j
 unfold stk
 split
 ·exact h1 i j
 ·exact h2 _ j
theorem a3C{T:Nat→Nat→Int}(h:a1G T)(v:Int):a1G (lsM T v):=by
 intro i j
 unfold lsM
 split
 ·exact a0E _
 ·exact h i j
theorem a2v{n:Nat}{L:Nat→Nat→Nat→Int}(h: ∀k,a1G (L k)): ∀k,a1G (cmn n L k).1
 |0=>fun _ _=>by show num 0;unfold num;decide
 |k+1=>(a3o (a3E (a2v h k) (h k)) n).1
theorem b1z{n:Nat}{L:Nat→Nat→Nat→Int}(h: ∀k,a1G (L k)): ∀k,(cmn n L k).2≤n
 |0=>Nat.zero_le _
 |k+1=>(a6E (a3E (a2v h k) (h k)) n).le
theorem a9Q{n:Nat}{L:Nat→Nat→Nat→Int}{x:Nat→Int}(hL: ∀k,a1G (L k)): ∀ {K:Nat},(∀k,k<K→a6W (L k) n n x)→a6W (cmn n L K).1 (cmn n L K).2 n x∧(0<K→(∃j,j<n∧ ¬MM (x j) 0)→(cmn n L K).2<n)
 |0,_=>⟨fun i hi=>absurd hi (Nat.not_lt_zero _),fun h=>absurd h (Nat.lt_irrefl _)⟩
 |K+1,h=>by
  obtain⟨ih, -⟩:=a9Q hL (K:=K) fun k hk=>h k (by omega)
  have hs:a6W (stk (cmn n L K).2 (cmn n L K).1 (L K)) ((cmn n L K).2+n) n x:=fun i hi=>by
   unfold stk
   by_cases e:i<(cmn n L K).2
   ·simp only[if_pos e];exact ih i e
   ·simp only[if_neg e];exact h K (by omega) _ (by omega)
  have hn:=a3E (a2v (n:=n) hL K) (hL K) (r:=(cmn n L K).2)
  have h1:=b3x hn hs n
  refine⟨fun i hi=>h1 i ?_,fun _ h0=>b2V hn hs h0⟩
  have:=(a3o (n:=(cmn n L K).2+n) hn n).2.1
  exact Nat.lt_of_lt_of_le hi this
theorem b4u{T:Nat→Nat→Int}{n:Nat}{v:Int}{x:Nat→Int}(h: ∀i,i<n→MM (sm (fun j=>T i j*x j) n) (v*x i)):a6W (lsM T v) n n x:=fun i hi=>by
 have e1:MM (sm (fun j=>lsM T v i j*x j) n) (sm (fun j=>T i j*x j+(if j=i then-(v*x i)else 0)) n):=a1P fun j _=>by
  unfold lsM
  by_cases e:j=i
  ·subst e
   rw[if_pos rfl,if_pos rfl]
   refine(MM.mul (MM.mod _) MM.rfl).trans (MM.of_eq ?_)
   rw[Int.sub_mul]
   omega
  ·rw[if_neg e,if_neg e,Int.add_zero]
   exact MM.rfl
 rw[a2p,a5p hi]at e1
 exact e1.trans ((MM.add (h i hi) MM.rfl).trans (MM.of_eq (by omega)))
def fsr(G:Nat→Nat→Int)(w i:Nat):Nat:=b2u (fun j=>!decide (G i j=0)) 0 w
theorem c3n{n k r i:Nat}{G:Nat→Nat→Int}(h:Piv n k r G)(hi:i<r)(hr:r≤n):fsr G k i<k:=by
 obtain⟨c,hc,h1⟩:=h.pc i hi
 obtain⟨f1,f2,f3,f4⟩:=a3T (fun j=>!decide (G i j=0)) 0 k
 unfold fsr
 refine Decidable.byContradiction fun hge=>?_
 have h2:=f3 c (Nat.zero_le _) (by omega)
 rw[h1 i (by omega),if_pos rfl]at h2
 simp at h2
theorem b1D{r w:Nat}{p:Nat→Nat}(h:r<w): ∃k,k<w∧ ∀i,i<r→p i≠k:=by
 refine Classical.byContradiction fun hc=>?_
 have h1: ∀k,k<w→ ∃i,i<r∧p i=k:=fun k hk=>Classical.byContradiction fun h2=>hc ⟨k,hk,fun i hi e=>h2 ⟨i,hi,e⟩⟩
 have h2: ∃g:Nat→Nat, ∀k,k<w→g k<r∧p (g k)=k:=⟨fun k=>if hk:k<w then(h1 k hk).choose else 0,fun k hk=>by
  simp only[dif_pos hk]
  exact(h1 k hk).choose_spec⟩
 obtain⟨g,hg⟩:=h2
 have h3:=a5O r ((List.range w).map g) (by
  refine List.Pairwise.map _ ?_ (List.nodup_range.imp_of_mem (S:=fun a b=>g a≠g b) fun {a b} ha hb hab e=>?_)
  ·exact fun a b h=>h
  ·have e1:=(hg a (List.mem_range.1 ha)).2
   have e2:=(hg b (List.mem_range.1 hb)).2
   rw[e]at e1
   exact hab (e1.symm.trans e2)) fun x hx=>by
  obtain⟨k,hk,rfl⟩:=List.mem_map.1 hx
  exact(hg k (List.mem_range.1 hk)).1
 simp at h3
 omega
end Go.Proofs.YtbakhfiibjkifaaGreat
