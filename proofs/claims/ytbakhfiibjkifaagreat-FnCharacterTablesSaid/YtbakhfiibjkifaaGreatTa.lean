/- Texts joined: Cq1 Cq2 Cq3 Cq4. -/
import Derived.Test.YtbakhfiibjkifaaGreatMh
import Derived.Test.YtbakhfiibjkifaaGreatMg
import Derived.Test.YtbakhfiibjkifaaGreatCd
import Derived.Test.YtbakhfiibjkifaaGreatCg
set_option linter.all false
/- Characters: what a table and duals tell (plain mathematics). -/
namespace Go.Proofs.YtbakhfiibjkifaaGreat
open Go.RowKit
def tC(n:Nat)(d:Nat→Nat)(x:List Int):Int:=sm (fun k=>atI x k*atI x (d k)) n % 55441
def tW(n:Nat)(d:Nat→Nat)(i j k:Nat)(x:List Int):Int:=atI x i*atI x j*atI x (d k)*pw (tC n d x) 55439
def tN(X:List (List Int))(d:Nat→Nat)(i j k:Nat):Int:=sm (fun m=>tW X.length d i j k (X.getD m [])) X.length % 55441
def tR(X:List (List Int))(d:Nat→Nat):List (List (List Int)):=a0L (tN X d) X.length
def TlP(X:List (List Int))(d:Nat→Nat):Prop:=(∀m,m<X.length→tC X.length d (X.getD m [])≠0)∧a2j (tR X d)∧ ∀i,i<X.length→dd (tR X d) i=d i
def c3Q(n:Nat)(d:Nat→Nat):Prop:= ∀k,k<n→d k<n∧d (d k)=k
def SqP(X:List (List Int)):Prop:= ∀m,m<X.length→(X.getD m []).length=X.length∧a2s (X.getD m [])
section
variable{X Y:List (List Int)}{d d':Nat→Nat}
theorem a3I(X:List (List Int))(d:Nat→Nat):(tR X d).length=X.length:=zfe _ _
theorem c3a{i j k:Nat}(hi:i<X.length)(hj:j<X.length)(hk:k<X.length):at3 (tR X d) i j k=tN X d i j k:=a1c hi hj hk
theorem c0c(X:List (List Int))(d:Nat→Nat)(i j k:Nat):tN X d i j k=tN X d j i k:=by
 unfold tN tW
 exact congrArg (· % 55441) (a0k fun m _=>by rw[Int.mul_comm (atI (X.getD m []) i)])
theorem b9Q(X:List (List Int))(d:Nat→Nat):CmP (tR X d):=fun i hi j hj=>by
 rw[a3I]at hi
 unfold tR
 rw[a1o hi,a1o (show j<X.length by omega),a1A _ (show j<X.length by omega),a1A _ hi]
 exact a0g fun k _=>c0c X d i j k
theorem a4H(hS:SqP X)(hT:TlP X d){m l:Nat}(hm:m<X.length)(hl:l<X.length):MM (sm (fun k=>atI (X.getD l []) k*atI (X.getD m []) (d k)) X.length) (if l=m then tC X.length d (X.getD m [])else 0)∧atI (X.getD m []) 0=1:=by
 obtain⟨h0,hR,hd⟩:=hT
 have hn:0<X.length:=by omega
 have hlen:=a3I X d
 have hu: ∀j,j<X.length→ ∀k,k<X.length→MM (sm (fun m=>atI (X.getD m []) j*(atI (X.getD m []) 0*atI (X.getD m []) (d k)*pw (tC X.length d (X.getD m [])) 55439)) X.length) (if j=k then 1 else 0):=fun j hj k hk=>by
  have h1:=b9G hR (i:=j) (k:=k) (by omega) (by omega)
  rw[c3a hn hj hk]at h1
  unfold dlt at h1
  refine MM.trans ?_ (MM.of_eq h1)
  unfold tN tW
  refine MM.trans (MM.of_eq ?_) (MM.mod _).symm
  exact a0k fun m _=>by ac_rfl
 have hind: ∀c:Nat→Int,(∀m,m<X.length→MM (sm (fun j=>c j*atI (X.getD m []) j) X.length) 0)→ ∀k,k<X.length→MM (c k) 0:=fun c hc k hk=>by
  have e1:MM (sm (fun j=>c j*(if j=k then 1 else 0)) X.length) (sm (fun j=>c j*sm (fun m=>atI (X.getD m []) j*(atI (X.getD m []) 0*atI (X.getD m []) (d k)*pw (tC X.length d (X.getD m [])) 55439)) X.length) X.length):=a1P fun j hj=>MM.mul MM.rfl (hu j hj k hk).symm
  have e2:sm (fun j=>c j*(if j=k then 1 else 0)) X.length=c k:=by
   rw[←a5p hk (c k)]
   refine a0k fun j _=>?_
   by_cases e:j=k
   ·rw[if_pos e,if_pos e,Int.mul_one,e]
   ·rw[if_neg e,if_neg e,Int.mul_zero]
  rw[e2]at e1
  refine e1.trans ?_
  have e3:sm (fun j=>c j*sm (fun m=>atI (X.getD m []) j*(atI (X.getD m []) 0*atI (X.getD m []) (d k)*pw (tC X.length d (X.getD m [])) 55439)) X.length) X.length=sm (fun m=>(atI (X.getD m []) 0*atI (X.getD m []) (d k)*pw (tC X.length d (X.getD m [])) 55439)*sm (fun j=>c j*atI (X.getD m []) j) X.length) X.length:=by
   have e4:sm (fun j=>c j*sm (fun m=>atI (X.getD m []) j*(atI (X.getD m []) 0*atI (X.getD m []) (d k)*pw (tC X.length d (X.getD m [])) 55439)) X.length) X.length=sm (fun j=>sm (fun m=>(atI (X.getD m []) 0*atI (X.getD m []) (d k)*pw (tC X.length d (X.getD m [])) 55439)*(c j*atI (X.getD m []) j)) X.length) X.length:=a0k fun j _=>by
    rw[←a0T]
    exact a0k fun m _=>by ac_rfl
   rw[e4,a3b]
   exact a0k fun m _=>a0T _ _ _
  rw[e3]
  refine(a1P (g:=fun _=>0) fun m hm=>?_).trans (MM.of_eq (a1M fun _ _=>Eq.refl _))
  exact(MM.mul MM.rfl (hc m hm)).trans (MM.of_eq (Int.mul_zero _))
 have hv: ∀l,l<X.length→ ∀m,m<X.length→MM (sm (fun k=>atI (X.getD m []) 0*atI (X.getD m []) (d k)*pw (tC X.length d (X.getD m [])) 55439*atI (X.getD l []) k) X.length-(if m=l then 1 else 0)) 0:=fun l hl=>by
  refine b7Z (y:=fun j m=>atI (X.getD m []) j) hind (v:=fun m=>sm (fun k=>atI (X.getD m []) 0*atI (X.getD m []) (d k)*pw (tC X.length d (X.getD m [])) 55439*atI (X.getD l []) k) X.length-(if m=l then 1 else 0)) fun j hj=>?_
  have e1:sm (fun m=>atI (X.getD m []) j*(sm (fun k=>atI (X.getD m []) 0*atI (X.getD m []) (d k)*pw (tC X.length d (X.getD m [])) 55439*atI (X.getD l []) k) X.length-(if m=l then 1 else 0))) X.length=sm (fun k=>atI (X.getD l []) k*sm (fun m=>atI (X.getD m []) j*(atI (X.getD m []) 0*atI (X.getD m []) (d k)*pw (tC X.length d (X.getD m [])) 55439)) X.length) X.length-atI (X.getD l []) j:=by
   have e2:sm (fun m=>atI (X.getD m []) j*(sm (fun k=>atI (X.getD m []) 0*atI (X.getD m []) (d k)*pw (tC X.length d (X.getD m [])) 55439*atI (X.getD l []) k) X.length-(if m=l then 1 else 0))) X.length=sm (fun m=>sm (fun k=>atI (X.getD l []) k*(atI (X.getD m []) j*(atI (X.getD m []) 0*atI (X.getD m []) (d k)*pw (tC X.length d (X.getD m [])) 55439))) X.length-(if m=l then atI (X.getD l []) j else 0)) X.length:=a0k fun m _=>by
    rw[Int.mul_sub, ←a0T]
    congr 1
    ·exact a0k fun k _=>by ac_rfl
    ·split
     ·rename_i e;rw[e,Int.mul_one]
     ·exact Int.mul_zero _
   rw[e2,a6e,a5p hl,a3b]
   congr 1
   exact a0k fun k _=>a0T _ _ _
  rw[e1]
  have e3:MM (sm (fun k=>atI (X.getD l []) k*sm (fun m=>atI (X.getD m []) j*(atI (X.getD m []) 0*atI (X.getD m []) (d k)*pw (tC X.length d (X.getD m [])) 55439)) X.length) X.length) (atI (X.getD l []) j):=by
   refine(a1P (g:=fun k=>if k=j then atI (X.getD l []) j else 0) fun k hk=>?_).trans (MM.of_eq (a5p hj _))
   refine(MM.mul MM.rfl (hu j hj k hk)).trans (MM.of_eq ?_)
   by_cases e:k=j
   ·rw[if_pos e,if_pos e.symm,Int.mul_one,e]
   ·rw[if_neg e,if_neg (fun e'=>e e'.symm),Int.mul_zero]
  exact(MM.sub e3 MM.rfl).trans (MM.of_eq (Int.sub_self _))
 have hs: ∀m,m<X.length→ ∀l,l<X.length→MM (atI (X.getD m []) 0*pw (tC X.length d (X.getD m [])) 55439*sm (fun k=>atI (X.getD l []) k*atI (X.getD m []) (d k)) X.length) (if m=l then 1 else 0):=fun m hm l hl=>by
  have h1:=MM.add (hv l hl m hm) (MM.rfl (a:=if m=l then(1:Int)else 0))
  rw[Int.zero_add]at h1
  refine(MM.of_eq ?_).trans h1
  rw[Int.sub_add_cancel, ←a0T]
  exact a0k fun k _=>by ac_rfl
 have hci: ∀m,m<X.length→MM (pw (tC X.length d (X.getD m [])) 55439*tC X.length d (X.getD m [])) 1:=fun m hm=>a4y (a0E _) (h0 m hm)
 have h1:atI (X.getD m []) 0=1:=by
  have a:=hs m hm m hm
  rw[if_pos rfl]at a
  refine b3I ?_ ((hS m hm).2 0) (by unfold num;decide)
  refine MM.trans ?_ a
  have b:=MM.mul (MM.rfl (a:=atI (X.getD m []) 0)) (hci m hm)
  rw[Int.mul_one, ←Int.mul_assoc]at b
  exact b.symm.trans (MM.mul MM.rfl (MM.mod _))
 refine⟨?_,h1⟩
 by_cases e:l=m
 ·subst e
  rw[if_pos rfl]
  exact(MM.mod _).symm
 ·rw[if_neg e]
  have a:=hs m hm l hl
  rw[if_neg (fun e'=>e e'.symm),h1,Int.one_mul]at a
  have b:=MM.mul (MM.rfl (a:=tC X.length d (X.getD m []))) a
  rw[Int.mul_zero, ←Int.mul_assoc]at b
  refine MM.trans ?_ b
  have c:=MM.mul (hci m hm) (MM.rfl (a:=sm (fun k=>atI (X.getD l []) k*atI (X.getD m []) (d k)) X.length))
  rw[Int.one_mul,Int.mul_comm (pw _ _)]at c
  exact c.symm
theorem a8f(hS:SqP X)(hT:TlP X d){l:Nat}(hl:l<X.length):chP (tR X d) (X.getD l []):=by
 refine⟨fun i hi j hj=>?_,(a4H hS hT hl hl).2⟩
 rw[a3I]at hi hj
 have h0:=hT.1 l hl
 unfold b8Q
 rw[a3I]
 have e1:MM (sm (fun k=>at3 (tR X d) i j k*atI (X.getD l []) k) X.length) (sm (fun k=>sm (fun m=>atI (X.getD m []) i*atI (X.getD m []) j*pw (tC X.length d (X.getD m [])) 55439*(atI (X.getD l []) k*atI (X.getD m []) (d k))) X.length) X.length):=a1P fun k hk=>by
  rw[c3a hi hj hk]
  unfold tN tW
  refine(MM.mul (MM.mod _) MM.rfl).trans (MM.of_eq ?_)
  rw[a5b]
  exact a0k fun m _=>by ac_rfl
 refine e1.trans ?_
 rw[a3b]
 have e2:MM (sm (fun m=>sm (fun k=>atI (X.getD m []) i*atI (X.getD m []) j*pw (tC X.length d (X.getD m [])) 55439*(atI (X.getD l []) k*atI (X.getD m []) (d k))) X.length) X.length) (sm (fun m=>if m=l then atI (X.getD l []) i*atI (X.getD l []) j else 0) X.length):=a1P fun m hm=>by
  rw[a0T]
  refine(MM.mul MM.rfl (a4H hS hT hm hl).1).trans ?_
  by_cases e:m=l
  ·subst e
   rw[if_pos rfl,if_pos rfl,Int.mul_assoc]
   exact(MM.mul MM.rfl (a4y (a0E _) h0)).trans (MM.of_eq (Int.mul_one _))
  ·rw[if_neg (fun e'=>e e'.symm),if_neg e,Int.mul_zero]
   exact MM.rfl
 exact e2.trans (MM.of_eq (a5p hl _))
theorem a7h(hS:SqP X)(hT:TlP X d):X.Nodup:=by
 rw[List.Nodup,List.pairwise_iff_getElem]
 intro a b ha hb hab e
 have ea:X.getD a []=X[a]:=by rw[List.getD_eq_getElem?_getD,List.getElem?_eq_getElem ha];rfl
 have eb:X.getD b []=X[b]:=by rw[List.getD_eq_getElem?_getD,List.getElem?_eq_getElem hb];rfl
 have h1:=(a4H hS hT ha hb).1
 have h2:=(a4H hS hT ha ha).1
 rw[if_neg (by omega),eb,ea, ←e]at h1
 rw[if_pos rfl,ea]at h2
 have h3:=hT.1 a ha
 rw[ea]at h3
 exact h3 (a8j (h2.symm.trans h1) (a0E _))
theorem b6N(hS:SqP X)(hT:TlP X d){y:List Int}(hy:y∈b2T (tR X d)):y∈X:=by
 refine Classical.byContradiction fun hn=>?_
 have hR:=hT.2.1
 obtain⟨hl,ny,hb⟩:=(a7I hR.1).1 hy
 have hc:=(a3B _ _).1 hb
 have hlen:=a3I X d
 have hrow: ∀i,i<X.length→X.getD i []∈X:=fun i hi=>a2X hi
 have few:X.length+1≤X.length:=by
  have hnd:=List.pairwise_iff_getElem.1 (a7h hS hT)
  refine b6d (A:=a1R (tR X d)) (n:=X.length) (K:=X.length) (m:=X.length+1) (x:=fun i=>atI (if i<X.length then X.getD i []else y)) (y:=fun i=>atI (if i<X.length then X.getD i []else y)) ?_ ?_ ?_
  ·intro i hi t ht l hl'
   by_cases e:i<X.length
   ·rw[if_pos e]
    have:=a8L (a8f hS hT e) (i:=t) (by omega) l (by omega)
    rw[hlen]at this
    exact this
   ·rw[if_neg e]
    have:=a8L hc (i:=t) (by omega) l (by omega)
    rw[hlen]at this
    exact this
  ·intro i hi
   by_cases e:i<X.length
   ·rw[if_pos e]
    have:=b7x (by omega) (a8f hS hT e)
    rw[hlen]at this
    exact this
   ·rw[if_neg e]
    have:=b7x (by rw[hlen];exact Nat.lt_of_lt_of_le (by rw[←hlen];exact hR.1.1) (Nat.le_refl _)) hc
    rw[hlen]at this
    exact this
  ·intro i i' hii hi'
   rw[if_pos (show i<X.length by omega)]
   have key: ∀z:List Int,z.length=X.length→a2s z→X.getD i []≠z→ ∃t,t<X.length∧(atI (X.getD i []) t-atI z t) % 55441≠0:=fun z hz nz hne=>by
    have hi1:=hS i (by omega)
    have:=b9y (T:=tR X d) hi1.2 nz (by rw[hlen];exact hi1.1) (by rw[hlen];exact hz) hne
    rw[hlen]at this
    exact this
   by_cases e:i'<X.length
   ·rw[if_pos e]
    refine key _ (hS i' e).1 (hS i' e).2 ?_
    have:=hnd i i' (by omega) e hii
    rw[List.getD_eq_getElem?_getD,List.getD_eq_getElem?_getD,List.getElem?_eq_getElem (show i<X.length by omega),List.getElem?_eq_getElem e]
    exact this
   ·rw[if_neg e]
    exact key _ (by omega) ny fun h=>hn (h▸hrow i (by omega))
 omega
theorem b4R(hS:SqP X)(hT:TlP X d):(b2T (tR X d)).Perm X:=by
 have hR:=hT.2.1
 have hlen:=a3I X d
 refine(List.perm_ext_iff_of_nodup ?_ (a7h hS hT)).2 fun y=>⟨b6N hS hT,fun hy=>?_⟩
 ·rw[List.Nodup]
  exact(b9B _).imp fun h e=>by subst e;exact a8X h h
 ·obtain⟨i,hi,e⟩:=List.mem_iff_getElem.1 hy
  have ey:X.getD i []=y:=by rw[List.getD_eq_getElem?_getD,List.getElem?_eq_getElem hi,e];rfl
  have h1:=hS i hi
  rw[ey]at h1
  have h2:=a8f hS hT hi
  rw[ey]at h2
  exact(a7I hR.1).2 ⟨by rw[hlen];exact h1.1,h1.2,(a3B _ _).2 h2⟩
def b4v(f:List Int→Int):List (List Int)→Int
 | []=>0
 |x::l=>f x+b4v f l
theorem b5u{f:List Int→Int}{X Y:List (List Int)}(h:X.Perm Y):b4v f X=b4v f Y:=by
 induction h with
 |nil=>rfl
 |cons x _ ih=>simp only[b4v,ih]
 |swap x y l=>simp only[b4v];omega
 |trans _ _ ih1 ih2=>exact ih1.trans ih2
theorem a8F(f:List Int→Int)(x:List Int): ∀L:List (List Int),b4v f (L++ [x])=b4v f L+f x
 | []=>by simp only[List.nil_append,b4v];omega
 |y::L=>by
  show f y+b4v f (L++ [x])=f y+b4v f L+f x
  rw[a8F f x L];omega
theorem a9Y(f:List Int→Int)(X:List (List Int)): ∀n,n≤X.length→sm (fun m=>f (X.getD m [])) n=b4v f (X.take n)
 |0,_=>by rw[List.take_zero];rfl
 |n+1,h=>by
  rw[a2e,a9Y f X n (by omega),List.take_add_one,List.getElem?_eq_getElem (show n<X.length by omega),List.getD_eq_getElem?_getD,List.getElem?_eq_getElem (show n<X.length by omega)]
  exact(a8F _ _ _).symm
theorem c1u(h:X.Perm Y)(hd: ∀k,k<X.length→d k=d' k){i j k:Nat}(hk:k<X.length):tN X d i j k=tN Y d' i j k:=by
 have hl:=h.length_eq
 have hf:tW X.length d i j k=tW Y.length d' i j k:=by
  funext x
  unfold tW tC
  rw[hl,hd k hk]
  rw[show sm (fun k=>atI x k*atI x (d k)) Y.length=sm (fun k=>atI x k*atI x (d' k)) Y.length from a0k fun q hq=>by rw[hd q (by omega)]]
 have e1:=a9Y (tW X.length d i j k) X X.length (Nat.le_refl _)
 have e2:=a9Y (tW Y.length d' i j k) Y Y.length (Nat.le_refl _)
 rw[List.take_length]at e1 e2
 unfold tN
 rw[e1,e2,hf,b5u h]
theorem b5a(h:X.Perm Y)(hd: ∀k,k<X.length→d k=d' k):tR X d=tR Y d':=by
 have hl:=h.length_eq
 unfold tR a0L
 rw[←hl]
 exact a0g fun i _=>a0g fun j _=>a0g fun k hk=>c1u h hd hk
theorem TlP.perm(h:X.Perm Y)(hd: ∀k,k<X.length→d k=d' k)(hT:TlP X d):TlP Y d':=by
 have hl:=h.length_eq
 obtain⟨h1,h2,h3⟩:=hT
 rw[b5a h hd]at h2 h3
 refine⟨fun m hm=>?_,h2,fun i hi=>by rw[h3 i (by omega),hd i (by omega)]⟩
 have hm':Y.getD m []∈X:=h.symm.subset (a2X hm)
 obtain⟨q,hq,e⟩:=List.mem_iff_getElem.1 hm'
 have eq':X.getD q []=Y.getD m []:=by rw[List.getD_eq_getElem?_getD,List.getElem?_eq_getElem hq,e];rfl
 have:=h1 q hq
 rw[eq']at this
 unfold tC at this ⊢
 rw[←hl,show sm (fun k=>atI (Y.getD m []) k*atI (Y.getD m []) (d' k)) X.length=sm (fun k=>atI (Y.getD m []) k*atI (Y.getD m []) (d k)) X.length from a0k fun q hq=>by rw[hd q hq]]
 exact this
end
set_option maxRecDepth 1000000
def dvN(dl:List Int)(k:Nat):Nat:=(atI dl k).toNat
def DuP(n:Nat)(dl:List Int):Prop:=dl.length=n∧ ∀k,k<n→(0≤atI dl k∧atI dl k<n)∧atI dl (dvN dl k)=k
section
variable{dl:List Int}{n:Nat}{b:AV}
theorem DuP.inv(h:DuP n dl):c3Q n (dvN dl):=fun k hk=>by
 obtain⟨⟨h1,h2⟩,h3⟩:=h.2 k hk
 refine⟨by unfold dvN;omega,?_⟩
 unfold dvN at h3 ⊢
 rw[h3]
 exact Int.toNat_natCast k
theorem DuP.at(h:DuP n dl){k:Nat}(hk:k<n):atI dl k=(dvN dl k:Nat):=by
 have:=(h.2 k hk).1.1
 unfold dvN
 omega
theorem DuP.eq(h:DuP n dl):dl=rws (fun i=>((dvN dl i:Nat):Int)) n:=by
 refine a3s (by rw[zfe];exact h.1) fun j hj=>?_
 have hj':j<n:=by have:=h.1;omega
 rw[a0P _ hj',h.at hj']
theorem cDuS(hb:isL b dl)(hn:n≤65536){t:Bool}(ht:t=true↔DuP n dl):a0d Tryz.prog 80 [i64 (n:Int),b] (bo t):=by
 by_cases h1:dl.length=n
 ·have h1':(dl.length:Int)=(n:Nat):=by omega
  refine a0e (fn:=Tryz.f80) (code:=a0b Tryz.f80) Tryz.func80 rfl (by kernel_rfl) (rfl) ?_
  intro sl hs
  have s0:sl 0=i64 (n:Int):=hs 0
  have s1:sl 1=b:=hs 1
  dsimp only[Tryz.f80,a0b,Option.getD]
  simp only[go_sem,s0,s1,a0B hb,eq_true h1']
  refine a0f (fun i st=>st.sl 0=i64 (n:Int)∧st.sl 1=b∧st.sl 5=i64 (i:Int)∧(∀k,k<i→0≤atI dl k∧atI dl k<n)) n ?_ ?_ ?_
  ·refine Yac ?_
   exact⟨rfl,fun k h=>absurd h (Nat.not_lt_zero _)⟩
  ·rintro i sl ro gn hi ⟨s0,s1,s5,q⟩
   dsimp only at s0 s1 s5
   have hi':(i:Int)<(n:Nat):=by omega
   have hil:i<dl.length:=by omega
   have c:=c38 (a:=atI dl i) (b:=0) (c:=(n:Int)-1)
   by_cases e:0≤atI dl i∧atI dl i<n
   ·rw[decide_eq_true (show 0≤atI dl i∧atI dl i≤(n:Int)-1 by omega)]at c
    simp(disch:=first|assumption|omega) only[go_sem,s0,s1,s5,hi',a0s hb hil]
    refine a0c _ c PUt rfl rfl ?_
    refine Yej ?_
    refine⟨a0w (by omega),fun k hk=>?_⟩
    rcases Nat.lt_or_eq_of_le (Nat.le_of_lt_succ hk)with h|h
    ·exact q k h
    ·rw[h];exact e
   ·rw[decide_eq_false (show ¬(0≤atI dl i∧atI dl i≤(n:Int)-1) by omega)]at c
    simp(disch:=first|assumption|omega) only[go_sem,s0,s1,s5,hi',a0s hb hil]
    refine a0c _ c PUt rfl rfl ?_
    simp only[go_sem]
    refine Yab ?_
    exact a0N ht fun h=>e (h.2 i hi).1
  ·rintro sl ro gn ⟨s0,s1,s5,q⟩
   dsimp only at s0 s1 s5
   have hi': ¬((n:Nat):Int)<(n:Nat):=by omega
   simp only[go_sem,s0,s5,hi']
   refine a0f (fun i st=>st.sl 0=i64 (n:Int)∧st.sl 1=b∧st.sl 6=i64 (i:Int)∧(∀k,k<i→atI dl (dvN dl k)=k)) n ?_ ?_ ?_
   ·simp only[↓za, ↓reduceIte,Nat.reduceEqDiff,zb,reduceCtorEq,s0,s1]
    exact⟨rfl,fun k h=>absurd h (Nat.not_lt_zero _)⟩
   ·rintro i sl ro gn hi ⟨s0,s1,s6,q2⟩
    dsimp only at s0 s1 s6
    have hi':(i:Int)<(n:Nat):=by omega
    have hil:i<dl.length:=by omega
    have qi:=q i hi
    have ei:atI dl i=(dvN dl i:Nat):=by unfold dvN;omega
    have hdl:dvN dl i<dl.length:=by omega
    by_cases e:atI dl (dvN dl i)=i
    ·simp(disch:=first|assumption|omega) only[go_sem,s0,s1,s6,hi',a0s hb hil,ei,a0s hb hdl,eq_true e]
     refine⟨a0w (by omega),fun k hk=>?_⟩
     rcases Nat.lt_or_eq_of_le (Nat.le_of_lt_succ hk)with h|h
     ·exact q2 k h
     ·rw[h];exact e
    ·simp only[go_sem,s0,s1,s6,hi',a0s hb hil,ei,a0s hb hdl,eq_false e]
     refine Yab ?_
     exact a0N ht fun h=>e (h.2 i hi).2
   ·rintro sl ro gn ⟨s0,s1,s6,q2⟩
    dsimp only at s0 s1 s6
    have hi': ¬((n:Nat):Int)<(n:Nat):=by omega
    simp only[go_sem,s0,s6,hi']
    refine Yab ?_
    exact(ht.2 ⟨h1,fun k hk=>⟨q k hk,q2 k hk⟩⟩).symm
 ·have h1': ¬(dl.length:Int)=(n:Nat):=by omega
  refine a0e (fn:=Tryz.f80) (code:=a0b Tryz.f80) Tryz.func80 rfl (by kernel_rfl) (rfl) ?_
  intro sl hs
  have s0:sl 0=i64 (n:Int):=hs 0
  have s1:sl 1=b:=hs 1
  dsimp only[Tryz.f80,a0b,Option.getD]
  simp only[go_sem,s0,s1,a0B hb,eq_false h1']
  refine Yab ?_
  exact a0N ht fun h=>h1 h.1
theorem cDuI(hb:isL b dl)(h1:dl.length=n)(hn:n≤65536){t:Bool}(ht:t=true↔DuP n dl):a0d Tryz.prog 75 [b,i64 (n:Int)] (bo t):=by
 subst h1
 refine a0e (fn:=Tryz.f75) (code:=a0b Tryz.f75) Tryz.func75 rfl (by kernel_rfl) (rfl) ?_
 intro sl hs
 have s0:sl 0=b:=hs 0
 have s1:sl 1=i64 (dl.length:Int):=hs 1
 dsimp only[Tryz.f75,a0b,Option.getD]
 simp only[go_sem,s0,a0B hb]
 refine a0f (fun i st=>st.sl 0=b∧st.sl 1=i64 (dl.length:Int)∧st.sl 7=b∧st.sl 8=i64 (dl.length:Nat)∧st.sl 9=i64 (i:Int)∧(∀k,k<i→(0≤atI dl k∧atI dl k<dl.length)∧atI dl (dvN dl k)=k)) dl.length ?_ ?_ ?_
 ·refine Yac ?_
  exact⟨rfl,fun k h=>absurd h (Nat.not_lt_zero _)⟩
 ·rintro i sl ro gn hi ⟨s0,s1,s7,s8,s9,q⟩
  dsimp only at s0 s1 s7 s8 s9
  have hi':(i:Int)<(dl.length:Nat):=by omega
  have c:=c40 (a:=atI dl i) (b:=0) (c:=(dl.length:Int)-1)
  by_cases e:0≤atI dl i∧atI dl i<dl.length
  ·rw[decide_eq_true (show 0≤atI dl i∧atI dl i≤(dl.length:Int)-1 by omega)]at c
   have ei:atI dl i=(dvN dl i:Nat):=by unfold dvN;omega
   have hdl:dvN dl i<dl.length:=by omega
   rw[ei]at c
   by_cases e2:atI dl (dvN dl i)=i
   ·refine Ygb ?_
    refine a0c _ c PUt rfl rfl ?_
    simp(disch:=first|assumption|omega) only[go_sem,s0,s1,s7,s8,s9,a0s hb hdl,eq_true e2]
    refine⟨a0w (by omega),fun k hk=>?_⟩
    rcases Nat.lt_or_eq_of_le (Nat.le_of_lt_succ hk)with h|h
    ·exact q k h
    ·rw[h];exact⟨e,e2⟩
   ·refine Ygb ?_
    refine a0c _ c PUt rfl rfl ?_
    simp only[go_sem,s0,a0s hb hdl,eq_false e2]
    refine Yab ?_
    exact a0N ht fun h=>e2 (h.2 i hi).2
  ·rw[decide_eq_false (show ¬(0≤atI dl i∧atI dl i≤(dl.length:Int)-1) by omega)]at c
   simp(disch:=first|assumption|omega) only[go_sem,s1,s7,s8,s9,hi',a0s hb hi]
   refine a0c _ c PUt rfl rfl ?_
   simp only[go_sem]
   refine Yab ?_
   exact a0N ht fun h=>e (h.2 i hi).1
 ·rintro sl ro gn ⟨s0,s1,s7,s8,s9,q⟩
  dsimp only at s0 s1 s7 s8 s9
  have hi': ¬((dl.length:Nat):Int)<(dl.length:Nat):=by omega
  simp only[go_sem,s0,s1,s8,s9,hi',a0B hb]
  refine Yab ?_
  exact(ht.2 ⟨rfl,q⟩).symm
end
theorem a7L{b:Nat}{gn:Nat→Nat}{v x:Value}:a2k b gn (.tup [.agg [.sc v],.sc x])=⟨.tup [.agg [.sc v],.sc x],none,[],[]⟩:=nr _
open Classical in
noncomputable def rgV(X:List (List Int))(d:Nat→Nat):AV×Bool:=if TlP X d then(a0t (tN X d) X.length,true)else(a1q,false)
section
variable{X:List (List Int)}{d:Nat→Nat}{x dl:List Int}{a b c:AV}{n:Nat}
theorem b6s(h:TlP X d):rgV X d=(a0t (tN X d) X.length,true):=if_pos h
theorem a8Y(h: ¬TlP X d):rgV X d=(a1q,false):=if_neg h
theorem b6t:a0C (.tup [.agg [(rgV X d).1],bo (rgV X d).2])=true:=by
 have hc:=a0J (tN X d) X.length
 by_cases h:TlP X d
 ·rw[b6s h]
  show ((a0C (a0t (tN X d) X.length)&&true)&&(true&&true))=true
  rw[hc];rfl
 ·rw[a8Y h];rfl
def tS(X:List (List Int))(d:Nat→Nat)(i j k m:Nat):Int:=sm (fun q=>tW X.length d i j k (X.getD q [])) m % 55441
theorem tS_n(i j k:Nat):tS X d i j k X.length=tN X d i j k:=rfl
theorem tS_0(i j k:Nat):tS X d i j k 0=0:=rfl
theorem c2l(i j k m:Nat):num (tS X d i j k m):=a0E _
theorem b9K(i j k m:Nat):(tS X d i j k m+atI (X.getD m []) i*atI (X.getD m []) j % 55441*atI (X.getD m []) (d k) % 55441*pw (tC X.length d (X.getD m [])) 55439) % 55441=tS X d i j k (m+1):=by
 show MM _ _
 unfold tS
 rw[a2e]
 refine MM.add (MM.mod _) (MM.mul ?_ MM.rfl)
 exact(MM.mod _).trans (MM.mul (MM.mod _) MM.rfl)
theorem cPrG(hd: ∀i,i<n→d i<n)(ha:isL a x)(hb:isL b x)(hc:isL c (rws (fun i=>((d i:Nat):Int)) n))(hl:x.length=n)(hn:n≤65536)(nx:a2s x):a0d Tryz.prog 59 [a,b,c] (i64 (tC n d x)):=by
 have hl2:(rws (fun i=>((d i:Nat):Int)) n).length=n:=zfe _ _
 refine a0e (fn:=Tryz.f59) (code:=a0b Tryz.f59) Tryz.func59 rfl (by kernel_rfl) (rfl) ?_
 intro sl hs
 have s0:sl 0=a:=hs 0
 have s1:sl 1=b:=hs 1
 have s2:sl 2=c:=hs 2
 dsimp only[Tryz.f59,a0b,Option.getD]
 simp(maxSteps:=10000000) (disch:=first|assumption|omega) only[go_sem]
 refine a0f (fun i st=>st.sl 0=a∧st.sl 1=b∧st.sl 2=c∧st.sl 7=i64 (sm (fun j=>atI x j*atI x (d j)) i % 55441)∧st.sl 8=i64 (i:Int)) x.length ?_ ?_ ?_
 ·refine Ycz ?_
  repeat' first|rfl|apply And.intro
 ·rintro i sl ro gn hi ⟨s0,s1,s2,s7,s8⟩
  dsimp only at s0 s1 s2 s7 s8
  have hi':(i:Int)<(x.length:Nat):=by omega
  have hin:i<n:=by omega
  have hbi:i<(rws (fun i=>((d i:Nat):Int)) n).length:=by omega
  have hdi:d i<x.length:=by rw[hl];exact hd i hin
  have ea:atI (rws (fun i=>((d i:Nat):Int)) n) i=(d i:Nat):=a0P _ hin
  have n1:=nx i
  have n2:=nx (d i)
  have n3:=a0E (sm (fun j=>atI x j*atI x (d j)) i)
  unfold num at n1 n2 n3
  have mu:=a6N n1.1 (show atI x i≤55440 by omega) n2.1 (show atI x (d i)≤55440 by omega)
  have tm:Int.tmod (sm (fun j=>atI x j*atI x (d j)) i % 55441+atI x i*atI x (d i)) 55441=sm (fun j=>atI x j*atI x (d j)) (i+1) % 55441:=by
   rw[←b9R (fun j=>atI x j*atI x (d j)) i]
   exact Int.tmod_eq_emod_of_nonneg (by omega)
  simp(maxSteps:=10000000) (disch:=first|assumption|omega) only[go_sem,s0,s1,s2,s7,s8,hi',a0B ha,a0s ha hi,a0s hc hbi,ea,a0s hb hdi,tm]
  refine a0r (by kernel_rfl) ?_
  simp(maxSteps:=10000000) (disch:=first|assumption|omega) only[go_sem,s0,s1,s2,s8]
  exact a0w (by omega)
 ·rintro sl ro gn ⟨s0,s1,s2,s7,s8⟩
  dsimp only at s0 s1 s2 s7 s8
  have hi': ¬((x.length:Nat):Int)<(x.length:Nat):=by omega
  simp(maxSteps:=10000000) (disch:=first|assumption|omega) only[go_sem,s0,s7,s8,hi',a0B ha]
  refine Yab ?_
  unfold tC
  rw[hl]
def TbX(X:List (List Int))(d:Nat→Nat)(gB i:Nat)(ro:Ro)(gn:Nat→Nat):Prop:=(i=0∧ro 40976 gB=some (.bx [a1q]))∨(0<i∧ro 40976 gB=some (.bx [.ref 122944 (gn 122944) [] 0 i])∧ro 122944 (gn 122944)=some (.row (rws (fun i=> .row (rws (fun j=> .row (rws (fun k=>i64 (tN X d i j k)) X.length)) X.length)) i)))
theorem TbX.keep{gB i:Nat}{ro ro':Ro}{gn gn':Nat→Nat}(h:TbX X d gB i ro gn)(h1:ro' 40976 gB=ro 40976 gB)(h2:ro' 122944 (gn 122944)=ro 122944 (gn 122944))(h3:gn' 122944=gn 122944):TbX X d gB i ro' gn':=by
 unfold TbX at*
 rw[h3,h1,h2]
 exact h
set_option maxHeartbeats 4000000 in
theorem cRgS(ha:a2t a X)(hb:isL b (rws (fun i=>((d i:Nat):Int)) X.length))(h1:1≤X.length)(h16:X.length≤16)(hS:SqP X)(hd:c3Q X.length d):a0d Tryz.prog 82 [a,b] (.tup [.agg [(rgV X d).1],bo (rgV X d).2]):=by
 have hl2:(rws (fun i=>((d i:Nat):Int)) X.length).length=X.length:=zfe _ _
 refine a0e (fn:=Tryz.f82) (code:=a0b Tryz.f82) Tryz.func82 rfl (by kernel_rfl) (b6t) ?_
 intro sl hs
 have s0:sl 0=a:=hs 0
 have s1:sl 1=b:=hs 1
 dsimp only[Tryz.f82,a0b,Option.getD]
 refine Ybr ?_
 refine a0f (fun m st=>st.sl 0=a∧st.sl 1=b∧st.sl 4= .ptr 4096 1 [] 0∧st.ro 4096 1=some (.bx [a1q])∧st.sl 6=i64 (X.length:Nat)∧st.sl 7= .ref 8224 (st.gn 8224) [] 0 m∧st.ro 8224 (st.gn 8224)=some (.row (rws (fun m=>i64 (pw (tC X.length d (X.getD m [])) 55439)) m))∧st.sl 8=i64 (m:Int)∧(∀l,l<m→tC X.length d (X.getD l [])≠0)) X.length ?_ ?_ ?_
 ·refine Yac ?_
  exact⟨rfl,fun k h=>absurd h (Nat.not_lt_zero _)⟩
 ·rintro m sl ro gn hm ⟨s0,s1,s4,r4096,s6,s7,r8224,s8,q⟩
  dsimp only at s0 s1 s4 r4096 s6 s7 r8224 s8
  have hm':(m:Int)<(X.length:Nat):=by omega
  have hr:=a0m ha hm
  have hSm:=hS m hm
  have hm2:m+1≤4294967296:=by omega
  have c1:=cPrG (n:=X.length) (fun i hi=>(hd i hi).1) hr hr hb hSm.1 (by omega) hSm.2
  have nc:num (tC X.length d (X.getD m [])):=a0E _
  simp(maxSteps:=10000000) (disch:=first|assumption|omega) only[go_sem,s0,s1,s6,s8,hm',a0S ha hm]
  refine a0A _ c1 PUt rfl ?_
  simp(maxSteps:=10000000) (disch:=first|assumption|omega) only[go_sem]
  refine a0r (by kernel_rfl) ?_
  by_cases e:tC X.length d (X.getD m [])=0
  ·rw[a8Y (fun h=>h.1 m hm e)]
   have e':tC X.length d (row X m)=0:=e
   simp(maxSteps:=10000000) (disch:=first|assumption|omega) only[go_sem,s4,r4096,eq_true e',a1l]
   exact Yaj
  ·have e': ¬tC X.length d (row X m)=0:=e
   simp(maxSteps:=10000000) (disch:=first|assumption|omega) only[go_sem,s7,eq_false e']
   refine a0c _ (c59 nc.1 nc.2) PUt rfl rfl ?_
   simp(maxSteps:=10000000) (disch:=first|assumption|omega) only[go_sem,s0,s1,s4,r4096,s6,r8224,s8,hm2]
   refine⟨congrArg some (congrArg AV.row (a8b (fun m=>i64 (pw (tC X.length d (X.getD m [])) 55439)) m).symm),a0w (by omega),fun l hl=>?_⟩
   rcases Nat.lt_or_eq_of_le (Nat.le_of_lt_succ hl)with h|h
   ·exact q l h
   ·rw[h];exact e
 ·rintro sl ro gn ⟨s0,s1,s4,r4096,s6,s7,r8224,s8,q⟩
  dsimp only at s0 s1 s4 r4096 s6 s7 r8224 s8
  have hm': ¬((X.length:Nat):Int)<(X.length:Nat):=by omega
  simp(maxSteps:=10000000) (disch:=first|assumption|omega) only[go_sem,s6,s8,hm',a1l]
  obtain⟨gB,egB⟩: ∃g,g=gn 40976+1:=⟨_,rfl⟩
  rw[←egB]
  refine a0f (fun i st=>st.sl 0=a∧st.sl 1=b∧st.sl 4= .ptr 4096 1 [] 0∧st.ro 4096 1=some (.bx [a1q])∧st.sl 6=i64 (X.length:Nat)∧st.sl 7= .ref 8224 (st.gn 8224) [] 0 X.length∧st.ro 8224 (st.gn 8224)=some (.row (rws (fun m=>i64 (pw (tC X.length d (X.getD m [])) 55439)) X.length))∧st.sl 10= .ptr 40976 gB [] 0∧st.sl 11=i64 (i:Int)∧(TbX X d gB i st.ro st.gn)) X.length ?_ ?_ ?_
  ·simp only[↓za, ↓reduceIte,Nat.reduceEqDiff,zb,reduceCtorEq,s0,s1,s4,r4096,s6,s7,r8224]
   exact⟨rfl,.inl ⟨rfl,Ur⟩⟩
  ·rintro i sl ro gn hi ⟨s0,s1,s4,r4096,s6,s7,r8224,s10,s11,hB⟩
   dsimp only at s0 s1 s4 r4096 s6 s7 r8224 s10 s11
   have hi':(i:Int)<(X.length:Nat):=by omega
   have hi2:i+1≤4294967296:=by omega
   simp(maxSteps:=10000000) (disch:=first|assumption|omega) only[go_sem,s6,s11,hi']
   refine a0f (fun j st=>st.sl 0=a∧st.sl 1=b∧st.sl 4= .ptr 4096 1 [] 0∧st.ro 4096 1=some (.bx [a1q])∧st.sl 6=i64 (X.length:Nat)∧st.sl 7= .ref 8224 (st.gn 8224) [] 0 X.length∧st.ro 8224 (st.gn 8224)=some (.row (rws (fun m=>i64 (pw (tC X.length d (X.getD m [])) 55439)) X.length))∧st.sl 10= .ptr 40976 gB [] 0∧st.sl 11=i64 (i:Int)∧(TbX X d gB i st.ro st.gn)∧st.sl 12= .ref 57344 (st.gn 57344) [] 0 j∧st.ro 57344 (st.gn 57344)=some (.row (rws (fun j=> .row (rws (fun k=>i64 (tN X d i j k)) X.length)) j))∧st.sl 13=i64 (j:Int)) X.length ?_ ?_ ?_
   ·simp only[↓za, ↓reduceIte,Nat.reduceEqDiff,zb,reduceCtorEq,a1v,s0,s1,s4,r4096,s6,s7,r8224,s10,s11]
    exact⟨hB,rfl⟩
   ·rintro j sl ro gn hj ⟨s0,s1,s4,r4096,s6,s7,r8224,s10,s11,hB,s12,r57344,s13⟩
    dsimp only at s0 s1 s4 r4096 s6 s7 r8224 s10 s11 s12 r57344 s13
    have hj':(j:Int)<(X.length:Nat):=by omega
    have hj2:j+1≤4294967296:=by omega
    simp(maxSteps:=10000000) (disch:=first|assumption|omega) only[go_sem,s6,s13,hj']
    refine a0f (fun k st=>st.sl 0=a∧st.sl 1=b∧st.sl 4= .ptr 4096 1 [] 0∧st.ro 4096 1=some (.bx [a1q])∧st.sl 6=i64 (X.length:Nat)∧st.sl 7= .ref 8224 (st.gn 8224) [] 0 X.length∧st.ro 8224 (st.gn 8224)=some (.row (rws (fun m=>i64 (pw (tC X.length d (X.getD m [])) 55439)) X.length))∧st.sl 10= .ptr 40976 gB [] 0∧st.sl 11=i64 (i:Int)∧(TbX X d gB i st.ro st.gn)∧st.sl 12= .ref 57344 (st.gn 57344) [] 0 j∧st.ro 57344 (st.gn 57344)=some (.row (rws (fun j=> .row (rws (fun k=>i64 (tN X d i j k)) X.length)) j))∧st.sl 13=i64 (j:Int)∧st.sl 14= .ref 73728 (st.gn 73728) [] 0 k∧st.ro 73728 (st.gn 73728)=some (.row (rws (fun k=>i64 (tN X d i j k)) k))∧st.sl 15=i64 (k:Int)) X.length ?_ ?_ ?_
    ·simp only[↓za, ↓reduceIte,Nat.reduceEqDiff,zb,reduceCtorEq,a1v,s0,s1,s4,r4096,s6,s7,r8224,s10,s11,s12,r57344,s13]
     exact⟨hB,rfl⟩
    ·rintro k sl ro gn hk ⟨s0,s1,s4,r4096,s6,s7,r8224,s10,s11,hB,s12,r57344,s13,s14,r73728,s15⟩
     dsimp only at s0 s1 s4 r4096 s6 s7 r8224 s10 s11 s12 r57344 s13 s14 r73728 s15
     have hk':(k:Int)<(X.length:Nat):=by omega
     have hk2:k+1≤4294967296:=by omega
     have hbk:k<(rws (fun i=>((d i:Nat):Int)) X.length).length:=by omega
     have ek:atI (rws (fun i=>((d i:Nat):Int)) X.length) k=(d k:Nat):=a0P _ hk
     simp(maxSteps:=10000000) (disch:=first|assumption|omega) only[go_sem,s6,s15,hk']
     refine a0f (fun m st=>st.sl 0=a∧st.sl 1=b∧st.sl 4= .ptr 4096 1 [] 0∧st.ro 4096 1=some (.bx [a1q])∧st.sl 6=i64 (X.length:Nat)∧st.sl 7= .ref 8224 (st.gn 8224) [] 0 X.length∧st.ro 8224 (st.gn 8224)=some (.row (rws (fun m=>i64 (pw (tC X.length d (X.getD m [])) 55439)) X.length))∧st.sl 10= .ptr 40976 gB [] 0∧st.sl 11=i64 (i:Int)∧(TbX X d gB i st.ro st.gn)∧st.sl 12= .ref 57344 (st.gn 57344) [] 0 j∧st.ro 57344 (st.gn 57344)=some (.row (rws (fun j=> .row (rws (fun k=>i64 (tN X d i j k)) X.length)) j))∧st.sl 13=i64 (j:Int)∧st.sl 14= .ref 73728 (st.gn 73728) [] 0 k∧st.ro 73728 (st.gn 73728)=some (.row (rws (fun k=>i64 (tN X d i j k)) k))∧st.sl 15=i64 (k:Int)∧st.sl 16=i64 (tS X d i j k m)∧st.sl 17=i64 (m:Int)) X.length ?_ ?_ ?_
     ·simp only[↓za, ↓reduceIte,Nat.reduceEqDiff,zb,reduceCtorEq,s0,s1,s4,r4096,s6,s7,r8224,s10,s11,s12,r57344,s13,s14,r73728,s15]
      exact⟨hB,congrArg i64 (tS_0 i j k).symm,rfl⟩
     ·rintro m sl ro gn hm ⟨s0,s1,s4,r4096,s6,s7,r8224,s10,s11,hB,s12,r57344,s13,s14,r73728,s15,s16,s17⟩
      dsimp only at s0 s1 s4 r4096 s6 s7 r8224 s10 s11 s12 r57344 s13 s14 r73728 s15 s16 s17
      have hm':(m:Int)<(X.length:Nat):=by omega
      have hr:=a0m ha hm
      have hSm:=hS m hm
      have lr:(row X m).length=X.length:=hSm.1
      have nr:a2s (row X m):=hSm.2
      have iX:i<(row X m).length:=by omega
      have jX:j<(row X m).length:=by omega
      have dX:d k<(row X m).length:=by rw[lr];exact(hd k hk).1
      have es:(tS X d i j k m+atI (row X m) i*atI (row X m) j % 55441*atI (row X m) (d k) % 55441*pw (tC X.length d (X.getD m [])) 55439) % 55441=tS X d i j k (m+1):=b9K i j k m
      have n1:=nr i
      have n2:=nr j
      have n3:=nr (d k)
      have n4:num (tS X d i j k m):=c2l i j k m
      have n5:=a6I (tC X.length d (X.getD m [])) 55439
      generalize hu:tS X d i j k m=u0 at*
      generalize tS X d i j k (m+1)=u1 at*
      generalize hq:pw (tC X.length d (X.getD m [])) 55439=q0 at*
      generalize e1:atI (row X m) i=x1 at*
      generalize e2:atI (row X m) j=x2 at*
      generalize e3:atI (row X m) (d k)=x3 at*
      unfold num at n1 n2 n3 n4 n5
      have m1:=a6N n1.1 (show x1≤55440 by omega) n2.1 (show x2≤55440 by omega)
      have t1:Int.tmod (x1*x2) 55441=x1*x2 % 55441:=Int.tmod_eq_emod_of_nonneg m1.1
      have b1:0≤x1*x2 % 55441∧x1*x2 % 55441<55441:=by omega
      generalize x1*x2 % 55441=A at*
      have m2:=a6N b1.1 (show A≤55440 by omega) n3.1 (show x3≤55440 by omega)
      have t2:Int.tmod (A*x3) 55441=A*x3 % 55441:=Int.tmod_eq_emod_of_nonneg m2.1
      have b2:0≤A*x3 % 55441∧A*x3 % 55441<55441:=by omega
      generalize A*x3 % 55441=B at*
      have m3:=a6N b2.1 (show B≤55440 by omega) n5.1 (show q0≤55440 by omega)
      have t3:Int.tmod (u0+B*q0) 55441=u1:=by
       rw[←es]
       exact Int.tmod_eq_emod_of_nonneg (by omega)
      simp(maxSteps:=10000000) (disch:=first|assumption|omega) only[go_sem,s0,s1,s6,s7,r8224,s11,s13,s15,s16,s17,hm',hm,a0S ha hm,a0s hr iX,a0s hr jX,a0s hb hbk,ek,a0s hr dX,e1,e2,e3,a0l,t1,t2,hq,t3]
      refine a0r (by kernel_rfl) ?_
      simp(maxSteps:=10000000) (disch:=first|assumption|omega) only[go_sem,s0,s1,s4,r4096,s6,s7,r8224,s10,s11,s12,r57344,s13,s14,r73728,s15,s17]
      exact⟨hB,a0w (by omega)⟩
     ·rintro sl ro gn ⟨s0,s1,s4,r4096,s6,s7,r8224,s10,s11,hB,s12,r57344,s13,s14,r73728,s15,s16,s17⟩
      dsimp only at s0 s1 s4 r4096 s6 s7 r8224 s10 s11 s12 r57344 s13 s14 r73728 s15 s16 s17
      have hm': ¬((X.length:Nat):Int)<(X.length:Nat):=by omega
      simp(maxSteps:=10000000) (disch:=first|assumption|omega) only[go_sem,s0,s1,s4,r4096,s6,s7,r8224,s10,s11,s12,r57344,s13,s14,r73728,s15,s16,s17,hm',hk2,tS_n]
      exact⟨hB.keep Ur Ur Ur,a0w (by omega)⟩
    ·rintro sl ro gn ⟨s0,s1,s4,r4096,s6,s7,r8224,s10,s11,hB,s12,r57344,s13,s14,r73728,s15⟩
     dsimp only at s0 s1 s4 r4096 s6 s7 r8224 s10 s11 s12 r57344 s13 s14 r73728 s15
     have hk': ¬((X.length:Nat):Int)<(X.length:Nat):=by omega
     simp(maxSteps:=10000000) (disch:=first|assumption|omega) only[go_sem,s0,s1,s4,r4096,s6,s7,r8224,s10,s11,s12,r57344,s13,s14,r73728,s15,hk',hj2]
     exact⟨hB.keep Ur Ur Ur,a0w (by omega)⟩
   ·rintro sl ro gn ⟨s0,s1,s4,r4096,s6,s7,r8224,s10,s11,hB,s12,r57344,s13⟩
    dsimp only at s0 s1 s4 r4096 s6 s7 r8224 s10 s11 s12 r57344 s13
    have hj': ¬((X.length:Nat):Int)<(X.length:Nat):=by omega
    dsimp only at hB
    rcases hB with⟨rfl,q3⟩|⟨h0,q3,q4⟩
    ·simp(maxSteps:=10000000) (disch:=first|assumption|omega) only[go_sem,s0,s1,s4,r4096,s6,s7,r8224,s10,s11,s12,r57344,s13,hj',q3]
     exact⟨rfl,.inr ⟨by omega,Ur,by simp only[↓za, ↓reduceIte,Nat.reduceEqDiff,zb];rfl⟩⟩
    ·simp(maxSteps:=10000000) (disch:=first|assumption|omega) only[go_sem,s0,s1,s4,r4096,s6,s7,r8224,s10,s11,s12,r57344,s13,hj',q3,q4,hi2]
     exact⟨a0w (by omega),.inr ⟨by omega,Ur,Ur⟩⟩
  ·rintro sl ro gn ⟨s0,s1,s4,r4096,s6,s7,r8224,s10,s11,hB⟩
   dsimp only at s0 s1 s4 r4096 s6 s7 r8224 s10 s11
   have hi': ¬((X.length:Nat):Int)<(X.length:Nat):=by omega
   dsimp only at hB
   rcases hB with⟨h0,q3⟩|⟨h0,q3,q4⟩
   ·omega
   ·have q4':ro 122944 (gn 122944)=some (a0t (tN X d) X.length):=q4
    generalize gn 122944=G at*
    have hlen:=a3I X d
    have hcI:a0F (b2Q (tN X d) X.length) (tR X d):=a0V _ _
    have hqc: ∀ro2:Ro,ro2 122944 G=ro 122944 G→exq 8 ro2 (.agg [.ref 122944 G [] 0 X.length]) (.agg [b2Q (tN X d) X.length]):=fun ro2 h=>a1E (n:=7) (.cons (a1k (h.trans q4') (by decide)) .nil)
    by_cases hR:a2j (tR X d)
    ·have k1:=b6y hcI (t:=true) ⟨fun _=>hR,fun _=>rfl⟩
     have k2:=a4F hcI hR.1 (t:=true) ⟨fun _=>b9Q X d,fun _=>rfl⟩
     have k3:=b3t hcI hR.1
     rw[a4U hR,hlen]at k3
     have hl3:(rws (fun i=>((dd (tR X d) i:Nat):Int)) X.length).length=X.length:=zfe _ _
     refine Yai ?_
     refine a0z _ k1 (.cons (hqc _ Ur) .nil) rfl rfl rfl ?_
     refine Yai ?_
     refine a0z _ k2 (.cons (hqc _ Ur) .nil) rfl rfl rfl ?_
     refine Yai ?_
     refine a0z _ k3 (.cons (hqc _ Ur) .nil) rfl rfl (a1j _) ?_
     simp(maxSteps:=10000000) (disch:=first|assumption|omega) only[go_sem,s1,a0i,List.length_map,hl3]
     by_cases hD: ∀i,i<X.length→dd (tR X d) i=d i
     ·have k4:=b1A (a0n (rws (fun i=>((dd (tR X d) i:Nat):Int)) X.length)) hb (by rw[hl3];unfold a0G;omega) (by rw[hl2];unfold a0G;omega) (t:=true) ⟨fun _=>a0g fun i hi=>by rw[hD i hi],fun _=>rfl⟩
      rw[b6s ⟨q,hR,hD⟩]
      refine a0z _ k4 (.cons (a0q (xs:=rws (fun i=>((dd (tR X d) i:Nat):Int)) X.length) Ur hl3.symm (by decide)) (.cons (a6b hb (by decide)) .nil)) rfl rfl rfl ?_
      refine Yai ?_
      simp only[zr,zb,a1Z,a1H,a2g,a2S,zes,zez,a1O,zcp,zed,zfi,St.ev,zhk, ↓za, ↓reduceIte,Nat.reduceEqDiff,Nat.reduceLeDiff,a1l,s4,q4]
     ·have k4:=b1A (a0n (rws (fun i=>((dd (tR X d) i:Nat):Int)) X.length)) hb (by rw[hl3];unfold a0G;omega) (by rw[hl2];unfold a0G;omega) (t:=false) ⟨fun h=>Bool.noConfusion h,fun h=>absurd (fun i hi=>by
       have:=congrArg (fun l=>atI l i) h
       simp only[a0P _ hi]at this
       omega) hD⟩
      rw[a8Y (fun h=>hD h.2.2)]
      refine a0z _ k4 (.cons (a0q (xs:=rws (fun i=>((dd (tR X d) i:Nat):Int)) X.length) Ur hl3.symm (by decide)) (.cons (a6b hb (by decide)) .nil)) rfl rfl rfl ?_
      refine Yai ?_
      exact Yaj
    ·have k1:=b6y hcI (t:=false) ⟨fun h=>Bool.noConfusion h,fun h=>absurd h hR⟩
     rw[a8Y (fun h=>hR h.2.1)]
     refine Yai ?_
     refine a0z _ k1 (.cons (hqc _ Ur) .nil) rfl rfl rfl ?_
     refine Yai ?_
     exact Yaj
end
end Go.Proofs.YtbakhfiibjkifaaGreat
/- Characters: the ring that a table and duals tell, by the program. -/
namespace Go.Proofs.YtbakhfiibjkifaaGreat
open Go.RowKit
set_option maxRecDepth 1000000
theorem c0G{F:Nat→Nat→Nat→Int}{n:Nat}(h0:0<n)(h16:n≤16){t:Bool}(ht:t=true↔a3K F n):a0d Tryz.prog 84 [.agg [b2Q F n]] (bo t):=by
 have hl:(a0L F n).length=n:=zfe _ _
 refine b4G (a0V F n) ?_ (ht.trans ?_)
 ·refine⟨by rw[hl];unfold a0G;omega,fun i hi=>?_⟩
  rw[hl]at hi
  rw[a1o hi,zfe]
  refine⟨by unfold a0G;omega,fun j hj=>?_⟩
  rw[a1A _ hj,zfe]
  unfold a0G;omega
 ·rw[a4S h0]
  exact⟨fun h=>⟨h,h16⟩,fun h=>h.1⟩
section
variable{X:List (List Int)}{d:Nat→Nat}{x dl:List Int}{a b c:AV}{n:Nat}
def tQ(X:List (List Int))(d:Nat→Nat)(i j k m:Nat):Int:=sm (fun q=>atI (X.getD q []) i*atI (X.getD q []) j % 55441*atI (X.getD q []) (d k) % 55441*pw (tC X.length d (X.getD q [])) 55439 % 55441) m
theorem tQ_0(i j k:Nat):tQ X d i j k 0=0:=rfl
theorem b6o(i j k:Nat): ∀m:Nat,0≤tQ X d i j k m∧tQ X d i j k m≤55440*(m:Int)
 |0=>⟨Int.le_refl _,by rw[tQ_0];omega⟩
 |m+1=>by
  have h:=b6o i j k m
  unfold tQ at*
  rw[a2e]
  omega
theorem tQ_n(i j k:Nat):tQ X d i j k X.length % 55441=tN X d i j k:=by
 unfold tQ tN tW
 show MM _ _
 refine a1P fun q _=>?_
 exact(MM.mod _).trans (MM.mul ((MM.mod _).trans (MM.mul (MM.mod _) MM.rfl)) MM.rfl)
set_option maxHeartbeats 4000000 in
theorem cTl0(ha:a2t a X)(hb:isL b (rws (fun i=>((d i:Nat):Int)) X.length))(h1:1≤X.length)(h16:X.length≤16)(hS:SqP X)(hd:c3Q X.length d)(hz: ¬ ∀m,m<X.length→tC X.length d (X.getD m [])≠0):a0d Tryz.prog 76 [a,b] (.tup [.agg [a1q],bo false]):=by
 refine a0e (fn:=Tryz.f76) (code:=a0b Tryz.f76) Tryz.func76 rfl (by kernel_rfl) (rfl) ?_
 intro sl hs
 have s0:sl 0=a:=hs 0
 have s1:sl 1=b:=hs 1
 dsimp only[Tryz.f76,a0b,Option.getD]
 refine Ybr ?_
 refine a0f (fun m st=>st.sl 0=a∧st.sl 1=b∧st.sl 4= .ptr 4096 1 [] 0∧st.ro 4096 1=some (.bx [a1q])∧st.sl 6=i64 (X.length:Nat)∧st.sl 7= .ref 8224 (st.gn 8224) [] 0 m∧st.ro 8224 (st.gn 8224)=some (.row (rws (fun m=>i64 (pw (tC X.length d (X.getD m [])) 55439)) m))∧st.sl 21=a∧st.sl 22=i64 (X.length:Nat)∧st.sl 23=i64 (m:Int)∧(∀l,l<m→tC X.length d (X.getD l [])≠0)) X.length ?_ ?_ ?_
 ·refine Yac ?_
  exact⟨rfl,fun k h=>absurd h (Nat.not_lt_zero _)⟩
 ·rintro m sl ro gn hm ⟨s0,s1,s4,r4096,s6,s7,r8224,s21,s22,s23,q⟩
  dsimp only at s0 s1 s4 r4096 s6 s7 r8224 s21 s22 s23
  have hm':(m:Int)<(X.length:Nat):=by omega
  have hr:=a0m ha hm
  have hSm:=hS m hm
  have lr:(row X m).length=X.length:=hSm.1
  have hm2:m+1≤4294967296:=by omega
  have hl3:(rws (fun i=>atI (row X m) (d i)) X.length).length=X.length:=zfe _ _
  have ct:=b8n (d:=d) hb hr (by omega) (fun i hi=>by rw[lr];exact(hd i hi).1)
  have cdot:=c3M hr (a0n (rws (fun i=>atI (row X m) (d i)) X.length)) (by rw[lr];unfold a0G;omega) (by rw[hl3,lr];exact Nat.le_refl _) hSm.2 (a1T _ _ fun i _=>hSm.2 _)
  have ec:sm (fun j=>atI (row X m) j*atI (rws (fun i=>atI (row X m) (d i)) X.length) j) (row X m).length % 55441=tC X.length d (X.getD m []):=by
   unfold tC
   rw[lr]
   exact congrArg (· % 55441) (a0k fun j hj=>by rw[a0P _ hj];rfl)
  rw[ec]at cdot
  have nc:num (tC X.length d (X.getD m [])):=a0E _
  simp only[go_sem,s1,s21,s22,s23,hm',a0S ha hm]
  refine a0c _ ct PUt rfl rfl ?_
  simp(disch:=first|assumption|omega) only[go_sem,a0i,List.length_map,hl3]
  refine a0z _ cdot (.cons (a6b hr (by decide)) (.cons (a0q (xs:=rws (fun i=>atI (row X m) (d i)) X.length) Ur hl3.symm (by decide)) .nil)) rfl rfl rfl ?_
  have c1:=c65 (a:=1) (b:=tC X.length d (X.getD m [])) (by decide) (by decide) nc.1 nc.2
  rw[c3W]at c1
  by_cases e:tC X.length d (X.getD m [])=0
  ·simp(maxSteps:=10000000) (disch:=first|assumption|omega) only[go_sem,s4,r4096,eq_true e,a1l]
   exact Yaj
  ·simp only[go_sem,s7,eq_false e]
   refine a0c _ c1 PUt rfl rfl ?_
   refine Ycj ?_
   refine⟨a0w (by omega),fun l hl=>?_⟩
   rcases Nat.lt_or_eq_of_le (Nat.le_of_lt_succ hl)with h|h
   ·exact q l h
   ·rw[h];exact e
 ·rintro sl ro gn ⟨s0,s1,s4,r4096,s6,s7,r8224,s21,s22,s23,q⟩
  dsimp only at s0 s1 s4 r4096 s6 s7 r8224 s21 s22 s23
  have hm': ¬((X.length:Nat):Int)<(X.length:Nat):=by omega
  exact absurd q hz
set_option maxHeartbeats 8000000 in
theorem cTl1(ha:a2t a X)(hb:isL b (rws (fun i=>((d i:Nat):Int)) X.length))(h1:1≤X.length)(h16:X.length≤16)(hS:SqP X)(hd:c3Q X.length d)(hz: ∀m,m<X.length→tC X.length d (X.getD m [])≠0){t:Bool}(ht:t=true↔a3K (tN X d) X.length):a0d Tryz.prog 76 [a,b] (.tup [.agg [a0t (tN X d) X.length],bo t]):=by
 have hl2:(rws (fun i=>((d i:Nat):Int)) X.length).length=X.length:=zfe _ _
 have hnr:a0C (.tup [.agg [a0t (tN X d) X.length],bo t])=true:=by
  have hc:=a0J (tN X d) X.length
  show ((a0C (a0t (tN X d) X.length)&&true)&&(true&&true))=true
  rw[hc];rfl
 refine a0e (fn:=Tryz.f76) (code:=a0b Tryz.f76) Tryz.func76 rfl (by kernel_rfl) (hnr) ?_
 intro sl hs
 have s0:sl 0=a:=hs 0
 have s1:sl 1=b:=hs 1
 dsimp only[Tryz.f76,a0b,Option.getD]
 refine Ybr ?_
 refine a0f (fun m st=>st.sl 0=a∧st.sl 1=b∧st.sl 4= .ptr 4096 1 [] 0∧st.ro 4096 1=some (.bx [a1q])∧st.sl 6=i64 (X.length:Nat)∧st.sl 7= .ref 8224 (st.gn 8224) [] 0 m∧st.ro 8224 (st.gn 8224)=some (.row (rws (fun m=>i64 (pw (tC X.length d (X.getD m [])) 55439)) m))∧st.sl 21=a∧st.sl 22=i64 (X.length:Nat)∧st.sl 23=i64 (m:Int)∧(∀l,l<m→tC X.length d (X.getD l [])≠0)) X.length ?_ ?_ ?_
 ·refine Yac ?_
  exact⟨rfl,fun k h=>absurd h (Nat.not_lt_zero _)⟩
 ·rintro m sl ro gn hm ⟨s0,s1,s4,r4096,s6,s7,r8224,s21,s22,s23,q⟩
  dsimp only at s0 s1 s4 r4096 s6 s7 r8224 s21 s22 s23
  have hm':(m:Int)<(X.length:Nat):=by omega
  have hr:=a0m ha hm
  have hSm:=hS m hm
  have lr:(row X m).length=X.length:=hSm.1
  have hm2:m+1≤4294967296:=by omega
  have hl3:(rws (fun i=>atI (row X m) (d i)) X.length).length=X.length:=zfe _ _
  have ct:=b8n (d:=d) hb hr (by omega) (fun i hi=>by rw[lr];exact(hd i hi).1)
  have cdot:=c3M hr (a0n (rws (fun i=>atI (row X m) (d i)) X.length)) (by rw[lr];unfold a0G;omega) (by rw[hl3,lr];exact Nat.le_refl _) hSm.2 (a1T _ _ fun i _=>hSm.2 _)
  have ec:sm (fun j=>atI (row X m) j*atI (rws (fun i=>atI (row X m) (d i)) X.length) j) (row X m).length % 55441=tC X.length d (X.getD m []):=by
   unfold tC
   rw[lr]
   exact congrArg (· % 55441) (a0k fun j hj=>by rw[a0P _ hj];rfl)
  rw[ec]at cdot
  have nc:num (tC X.length d (X.getD m [])):=a0E _
  simp only[go_sem,s1,s21,s22,s23,hm',a0S ha hm]
  refine a0c _ ct PUt rfl rfl ?_
  simp only[go_sem,a0i,List.length_map,hl3]
  refine a0z _ cdot (.cons (a6b hr (by decide)) (.cons (a0q (xs:=rws (fun i=>atI (row X m) (d i)) X.length) Ur hl3.symm (by decide)) .nil)) rfl rfl rfl ?_
  have c1:=c65 (a:=1) (b:=tC X.length d (X.getD m [])) (by decide) (by decide) nc.1 nc.2
  rw[c3W]at c1
  have e:=hz m hm
  simp only[go_sem,s7,eq_false e]
  refine a0c _ c1 PUt rfl rfl ?_
  refine Ycj ?_
  refine⟨a0w (by omega),fun l hl=>?_⟩
  rcases Nat.lt_or_eq_of_le (Nat.le_of_lt_succ hl)with h|h
  ·exact q l h
  ·rw[h];exact e
 ·rintro sl ro gn ⟨s0,s1,s4,r4096,s6,s7,r8224,s21,s22,s23,q⟩
  dsimp only at s0 s1 s4 r4096 s6 s7 r8224 s21 s22 s23
  have hm': ¬((X.length:Nat):Int)<(X.length:Nat):=by omega
  simp only[go_sem,s6,s22,s23,hm']
  refine a0c _ (c103 (n:=X.length) (by omega) (by unfold a0G;omega)) rfl rfl rfl ?_
  simp(maxSteps:=10000000) (disch:=first|assumption|omega) only[go_sem,s6,a0t,a4N,zfe,a1l]
  obtain⟨gB,egB⟩: ∃g,g=gn 45088+1:=⟨_,rfl⟩
  obtain⟨gC,egC⟩: ∃g,g=gn 45072+1:=⟨_,rfl⟩
  rw[←egB, ←egC]
  refine a0f (fun x st=>st.sl 0=a∧st.sl 1=b∧st.sl 4= .ptr 4096 1 [] 0∧st.ro 4096 1=some (.bx [a1q])∧st.sl 6=i64 (X.length:Nat)∧st.sl 7= .ref 8224 (st.gn 8224) [] 0 X.length∧st.ro 8224 (st.gn 8224)=some (.row (rws (fun m=>i64 (pw (tC X.length d (X.getD m [])) 55439)) X.length))∧st.sl 11= .ptr 45088 gB [] 0∧st.ro 45088 gB=some (.bx [.ref 45072 gC [] 0 X.length])∧st.sl 43=i64 (X.length:Nat)∧st.sl 44=i64 (x:Int)∧st.ro 45072 gC=some (a0t (pgF (tN X d) x 0 0) X.length)) X.length ?_ ?_ ?_
  ·simp only[↓za, ↓reduceIte,Nat.reduceEqDiff,zb,reduceCtorEq,s0,s1,s4,r4096,s6,s7,r8224]
   refine⟨rfl,?_⟩
   show some (a0t (fun _ _ _=>(0:Int)) X.length)=_
   exact congrArg some (a1I fun i j k _ _ _=>by simp[pgF])
  ·rintro x sl ro gn hx ⟨s0,s1,s4,r4096,s6,s7,r8224,s11,r45088,s43,s44,r45072⟩
   dsimp only at s0 s1 s4 r4096 s6 s7 r8224 s11 r45088 s43 s44 r45072
   have hx':(x:Int)<(X.length:Nat):=by omega
   simp only[go_sem,s6,s43,s44,hx']
   refine a0f (fun y st=>st.sl 0=a∧st.sl 1=b∧st.sl 4= .ptr 4096 1 [] 0∧st.ro 4096 1=some (.bx [a1q])∧st.sl 6=i64 (X.length:Nat)∧st.sl 7= .ref 8224 (st.gn 8224) [] 0 X.length∧st.ro 8224 (st.gn 8224)=some (.row (rws (fun m=>i64 (pw (tC X.length d (X.getD m [])) 55439)) X.length))∧st.sl 11= .ptr 45088 gB [] 0∧st.ro 45088 gB=some (.bx [.ref 45072 gC [] 0 X.length])∧st.sl 43=i64 (X.length:Nat)∧st.sl 44=i64 (x:Int)∧st.sl 12=i64 (x:Int)∧st.sl 47=i64 (X.length:Nat)∧st.sl 48=i64 (y:Int)∧st.ro 45072 gC=some (a0t (pgF (tN X d) x y 0) X.length)) X.length ?_ ?_ ?_
   ·simp only[↓za, ↓reduceIte,Nat.reduceEqDiff,zb,reduceCtorEq,s0,s1,s4,r4096,s6,s7,r8224,s11,r45088,s43,s44,r45072]
    exact rfl
   ·rintro y sl ro gn hy ⟨s0,s1,s4,r4096,s6,s7,r8224,s11,r45088,s43,s44,s12,s47,s48,r45072⟩
    dsimp only at s0 s1 s4 r4096 s6 s7 r8224 s11 r45088 s43 s44 s12 s47 s48 r45072
    have hy':(y:Int)<(X.length:Nat):=by omega
    simp only[go_sem,s6,s47,s48,hy']
    refine a0f (fun z st=>st.sl 0=a∧st.sl 1=b∧st.sl 4= .ptr 4096 1 [] 0∧st.ro 4096 1=some (.bx [a1q])∧st.sl 6=i64 (X.length:Nat)∧st.sl 7= .ref 8224 (st.gn 8224) [] 0 X.length∧st.ro 8224 (st.gn 8224)=some (.row (rws (fun m=>i64 (pw (tC X.length d (X.getD m [])) 55439)) X.length))∧st.sl 11= .ptr 45088 gB [] 0∧st.ro 45088 gB=some (.bx [.ref 45072 gC [] 0 X.length])∧st.sl 43=i64 (X.length:Nat)∧st.sl 44=i64 (x:Int)∧st.sl 12=i64 (x:Int)∧st.sl 47=i64 (X.length:Nat)∧st.sl 48=i64 (y:Int)∧st.sl 13=i64 (y:Int)∧st.sl 51=i64 (X.length:Nat)∧st.sl 52=i64 (z:Int)∧st.ro 45072 gC=some (a0t (pgF (tN X d) x y z) X.length)) X.length ?_ ?_ ?_
    ·simp only[↓za, ↓reduceIte,Nat.reduceEqDiff,zb,reduceCtorEq,s0,s1,s4,r4096,s6,s7,r8224,s11,r45088,s43,s44,s12,s47,s48,r45072]
     exact rfl
    ·rintro z sl ro gn hz ⟨s0,s1,s4,r4096,s6,s7,r8224,s11,r45088,s43,s44,s12,s47,s48,s13,s51,s52,r45072⟩
     dsimp only at s0 s1 s4 r4096 s6 s7 r8224 s11 r45088 s43 s44 s12 s47 s48 s13 s51 s52 r45072
     have hz':(z:Int)<(X.length:Nat):=by omega
     have hbk:z<(rws (fun i=>((d i:Nat):Int)) X.length).length:=by omega
     have ek:atI (rws (fun i=>((d i:Nat):Int)) X.length) z=(d z:Nat):=a0P _ hz
     simp only[go_sem,s0,s51,s52,hz',a0R ha]
     refine a0f (fun m st=>st.sl 0=a∧st.sl 1=b∧st.sl 4= .ptr 4096 1 [] 0∧st.ro 4096 1=some (.bx [a1q])∧st.sl 6=i64 (X.length:Nat)∧st.sl 7= .ref 8224 (st.gn 8224) [] 0 X.length∧st.ro 8224 (st.gn 8224)=some (.row (rws (fun m=>i64 (pw (tC X.length d (X.getD m [])) 55439)) X.length))∧st.sl 11= .ptr 45088 gB [] 0∧st.ro 45088 gB=some (.bx [.ref 45072 gC [] 0 X.length])∧st.sl 43=i64 (X.length:Nat)∧st.sl 44=i64 (x:Int)∧st.sl 12=i64 (x:Int)∧st.sl 47=i64 (X.length:Nat)∧st.sl 48=i64 (y:Int)∧st.sl 13=i64 (y:Int)∧st.sl 51=i64 (X.length:Nat)∧st.sl 52=i64 (z:Int)∧st.ro 45072 gC=some (a0t (pgF (tN X d) x y z) X.length)∧st.sl 14=i64 (z:Int)∧st.sl 15=i64 (tQ X d x y z m)∧st.sl 55=a∧st.sl 56=i64 (X.length:Nat)∧st.sl 57=i64 (m:Int)) X.length ?_ ?_ ?_
     ·simp only[↓za, ↓reduceIte,Nat.reduceEqDiff,zb,reduceCtorEq,s0,s1,s4,r4096,s6,s7,r8224,s11,r45088,s43,s44,s12,s47,s48,s13,s51,s52,r45072]
      exact⟨congrArg i64 (tQ_0 x y z).symm,rfl⟩
     ·rintro m sl ro gn hm ⟨s0,s1,s4,r4096,s6,s7,r8224,s11,r45088,s43,s44,s12,s47,s48,s13,s51,s52,r45072,s14,s15,s55,s56,s57⟩
      dsimp only at s0 s1 s4 r4096 s6 s7 r8224 s11 r45088 s43 s44 s12 s47 s48 s13 s51 s52 r45072 s14 s15 s55 s56 s57
      have hm':(m:Int)<(X.length:Nat):=by omega
      have hr:=a0m ha hm
      have hSm:=hS m hm
      have lr:(row X m).length=X.length:=hSm.1
      have nr:a2s (row X m):=hSm.2
      have iX:x<(row X m).length:=by omega
      have jX:y<(row X m).length:=by omega
      have dX:d z<(row X m).length:=by rw[lr];exact(hd z hz).1
      have es:tQ X d x y z m+atI (row X m) x*atI (row X m) y % 55441*atI (row X m) (d z) % 55441*pw (tC X.length d (X.getD m [])) 55439 % 55441=tQ X d x y z (m+1):=(a2e _ _).symm
      have n1:=nr x
      have n2:=nr y
      have n3:=nr (d z)
      have n4:=b6o (X:=X) (d:=d) x y z m
      have n5:=a6I (tC X.length d (X.getD m [])) 55439
      generalize hu:tQ X d x y z m=u0 at*
      generalize tQ X d x y z (m+1)=u1 at*
      generalize hq:pw (tC X.length d (X.getD m [])) 55439=q0 at*
      generalize e1:atI (row X m) x=x1 at*
      generalize e2:atI (row X m) y=x2 at*
      generalize e3:atI (row X m) (d z)=x3 at*
      unfold num at n1 n2 n3 n5
      have m1:=a6N n1.1 (show x1≤55440 by omega) n2.1 (show x2≤55440 by omega)
      have t1:Int.tmod (x1*x2) 55441=x1*x2 % 55441:=Int.tmod_eq_emod_of_nonneg m1.1
      have b1:0≤x1*x2 % 55441∧x1*x2 % 55441<55441:=by omega
      generalize x1*x2 % 55441=A at*
      have m2:=a6N b1.1 (show A≤55440 by omega) n3.1 (show x3≤55440 by omega)
      have t2:Int.tmod (A*x3) 55441=A*x3 % 55441:=Int.tmod_eq_emod_of_nonneg m2.1
      have b2:0≤A*x3 % 55441∧A*x3 % 55441<55441:=by omega
      generalize A*x3 % 55441=B at*
      have m3:=a6N b2.1 (show B≤55440 by omega) n5.1 (show q0≤55440 by omega)
      have t3:Int.tmod (B*q0) 55441=B*q0 % 55441:=Int.tmod_eq_emod_of_nonneg m3.1
      have b3:0≤B*q0 % 55441∧B*q0 % 55441<55441:=by omega
      generalize B*q0 % 55441=C at*
      simp(disch:=first|assumption|omega) only[go_sem,s1,s7,r8224,s12,s13,s14,s15,s55,s56,s57,hm',hm,a0S ha hm,a0s hr iX,a0s hr jX,a0s hb hbk,ek,a0s hr dX,e1,e2,e3,a0l,t1,t2,hq,t3]
      refine a0r (by kernel_rfl) ?_
      simp(disch:=first|assumption|omega) only[go_sem,s0,s1,s4,r4096,s6,s7,r8224,s11,r45088,s43,s44,s12,s47,s48,s13,s51,s52,r45072,s14,s55,s56,s57]
      exact⟨congrArg i64 es,a0w (by omega)⟩
     ·rintro sl ro gn ⟨s0,s1,s4,r4096,s6,s7,r8224,s11,r45088,s43,s44,s12,s47,s48,s13,s51,s52,r45072,s14,s15,s55,s56,s57⟩
      dsimp only at s0 s1 s4 r4096 s6 s7 r8224 s11 r45088 s43 s44 s12 s47 s48 s13 s51 s52 r45072 s14 s15 s55 s56 s57
      have hm': ¬((X.length:Nat):Int)<(X.length:Nat):=by omega
      have n4:=b6o (X:=X) (d:=d) x y z X.length
      have t4:Int.tmod (tQ X d x y z X.length) 55441=tN X d x y z:=by
       rw[Int.tmod_eq_emod_of_nonneg n4.1];exact tQ_n x y z
      simp(disch:=first|assumption|omega) only[go_sem,s0,s1,s4,r4096,s6,s7,r8224,s11,r45088,s43,s44,s12,s47,s48,s13,s51,s52,r45072,s14,s15,s56,s57,hm',t4,a0M r45072 hx hy,a1x r45072 hx hy,a1m r45072 hx hy hz]
      exact⟨a0w (by omega),congrArg some (b4B _ _ _ _ _)⟩
    ·rintro sl ro gn ⟨s0,s1,s4,r4096,s6,s7,r8224,s11,r45088,s43,s44,s12,s47,s48,s13,s51,s52,r45072⟩
     dsimp only at s0 s1 s4 r4096 s6 s7 r8224 s11 r45088 s43 s44 s12 s47 s48 s13 s51 s52 r45072
     have hz': ¬((X.length:Nat):Int)<(X.length:Nat):=by omega
     simp(disch:=first|assumption|omega) only[go_sem,s0,s1,s4,r4096,s6,s7,r8224,s11,r45088,s43,s44,s12,s47,s48,s51,s52,r45072,hz']
     refine⟨a0w (by omega),congrArg some (a1I fun i j k _ _ hk=>?_)⟩
     have e:(i<x∨(i=x∧(j<y∨(j=y∧k<X.length))))↔(i<x∨(i=x∧(j<y+1∨(j=y+1∧k<0)))):=by omega
     simp only[pgF,e]
   ·rintro sl ro gn ⟨s0,s1,s4,r4096,s6,s7,r8224,s11,r45088,s43,s44,s12,s47,s48,r45072⟩
    dsimp only at s0 s1 s4 r4096 s6 s7 r8224 s11 r45088 s43 s44 s12 s47 s48 r45072
    have hy': ¬((X.length:Nat):Int)<(X.length:Nat):=by omega
    simp(disch:=first|assumption|omega) only[go_sem,s0,s1,s4,r4096,s6,s7,r8224,s11,r45088,s43,s44,s47,s48,r45072,hy']
    refine⟨a0w (by omega),congrArg some (a1I fun i j k _ hj _=>?_)⟩
    have e:(i<x∨(i=x∧(j<X.length∨(j=X.length∧k<0))))↔(i<x+1∨(i=x+1∧(j<0∨(j=0∧k<0)))):=by omega
    simp only[pgF,e]
  ·rintro sl ro gn ⟨s0,s1,s4,r4096,s6,s7,r8224,s11,r45088,s43,s44,r45072⟩
   dsimp only at s0 s1 s4 r4096 s6 s7 r8224 s11 r45088 s43 s44 r45072
   have hx': ¬((X.length:Nat):Int)<(X.length:Nat):=by omega
   have q1:a0t (pgF (tN X d) X.length 0 0) X.length=a0t (tN X d) X.length:=a1I fun i j k hi _ _=>by simp[pgF,hi]
   rw[q1]at r45072
   have k1:=c0G (F:=tN X d) (n:=X.length) (by omega) h16 ht
   have hq:exq 7 ro (.ref 45072 gC [] 0 X.length) (b2Q (tN X d) X.length):=a1k r45072 (by decide)
   have hnf:a0j (rws (fun i=>AV.row (rws (fun j=>AV.row (rws (fun k=>i64 (tN X d i j k)) X.length)) X.length)) X.length)=true:=a0J (tN X d) X.length
   change ro 45072 gC=some (AV.row (rws (fun i=>AV.row (rws (fun j=>AV.row (rws (fun k=>i64 (tN X d i j k)) X.length)) X.length)) X.length))at r45072
   simp(disch:=first|assumption|omega) only[go_sem,s11,r45088,s43,s44,r45072,hx',a1l]
   refine a1V _ k1 (.cons (a1E (n:=7) (.cons hq .nil)) .nil) rfl rfl ?_
   simp only[go_sem,s4,r4096,r45072,a1l]
   refine a0r (by kernel_rfl) ?_
   simp only[go_sem]
   simp only[zr,zb,a1Z,a1H,a2g,a2S,zes,zez,a1O,zcp,zed,zfi,St.ev,zhk, ↓za, ↓reduceIte,Nat.reduceEqDiff,Nat.reduceLeDiff,a1l,s4,r45072]
end
end Go.Proofs.YtbakhfiibjkifaaGreat
