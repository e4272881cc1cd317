/- Texts joined: K1 K2 K3 K3b K4a K4 K5 K6 K7 D1 D2 D3 D4 D5 D6. -/
import Derived.Test.YtbakhfiibjkifaaGreatProg
import Derived.Test.YtbakhfiibjkifaaGreatChecked
import Derived.Test.YtbakhfiibjkifaaGreatMc
set_option linter.all false
/- Powers: impl.power and spec.l01Pow. -/
namespace Go.Proofs.YtbakhfiibjkifaaGreat
open Go.RowKit
noncomputable abbrev ti0:Nat→Option TI:=tiG Tryz.prog
theorem ti2:ti0 2=some ⟨1,false,[Value.int .i64 0],none,[],some .i64,false,false,none,none⟩:=by kernel_rfl
theorem b9p(a:Int): ∀m:Nat,(a*a % 55441) ^ m % 55441=(a*a) ^ m % 55441:=by
 intro m;induction m with
 |zero=>simp
 |succ m ih=>rw[Int.pow_succ,Int.pow_succ,Int.mul_emod,ih,Int.emod_emod_of_dvd _ (by decide:(55441:Int)∣55441), ←Int.mul_emod]
theorem b8P(a:Int)(m:Nat):(a*a) ^ m=a ^ (2*m):=by
 rw[Int.pow_mul,show a ^ 2=a*a by rw[Int.pow_succ,Int.pow_succ];simp]
theorem b2d(p a:Int)(m:Nat):(p*a % 55441)*(a*a % 55441) ^ m % 55441=p*a ^ (2*m+1) % 55441:=by
 rw[Int.mul_emod,Int.emod_emod_of_dvd _ (by decide:(55441:Int)∣55441),b9p, ←Int.mul_emod,Int.mul_assoc,b8P,Int.pow_succ,Int.mul_comm a]
theorem a9q(p a:Int)(m:Nat):p*(a*a % 55441) ^ m % 55441=p*a ^ (2*m) % 55441:=by
 rw[Int.mul_emod,b9p, ←Int.mul_emod,b8P]
theorem bnd{a b:Int}(h1:0≤a)(h2:a<55441)(h3:0≤b)(h4:b<55441):0≤a*b∧a*b≤55440*55440:=by
 refine⟨Int.mul_nonneg h1 h3,?_⟩
 exact Int.mul_le_mul (by omega) (by omega) h3 (by omega)
noncomputable def B77:Code:=cAt [1,1,0,0,0] (a0b Tryz.f99)
noncomputable def P77a:Code:=cAt [0] (a0b Tryz.f99)
noncomputable def P77b:Code:=cAt [1,0] (a0b Tryz.f99)
noncomputable def P77c:Code:=cAt [1,1,1] (a0b Tryz.f99)
theorem c2A:Tryz.f99.body=some (.seq P77a (.seq P77b (.seq (.block 0 (.loop B77)) P77c))):=by rfl
variable{E:EC}{l:List AV}{hp:List (Nat×Nat×AV)}{gn:List (Nat×Nat)}
theorem b6v{k:Int}(s1:a3t l 1=i64 k)(hc:ltI 0 k=false): ∃l',evC E ti0 B77 ⟨l,hp,gn⟩=some (.exit 0,⟨l',hp,gn⟩)∧a3t l' 5=a3t l 5:=by
 generalize hE:evC E ti0 B77 ⟨l,hp,gn⟩=X
 simp only[B77,Tryz.f99,a0b,cAt,Option.getD,evC,a4p,inF,zbl,opE,opK,a6P,b3l,zcn,zco,b3J,HS.st,St.ev,zcs,HS.eff,HS.put,dlH,b6A,alH,ti2,hc,a0D,Nat.reduceEqDiff,reduceIte,s1]at hE
 subst hE
 exact⟨_,rfl,by simp only[a0D,Nat.reduceEqDiff,reduceIte]⟩
theorem r77{a k p:Int}(s0:a3t l 0=i64 a)(s1:a3t l 1=i64 k)(s5:a3t l 5=i64 p)(h1:0≤a)(h2:a<55441)(h3:0≤p)(h4:p<55441)(h5:0<k)(h7:k<2^63):
   ∃l',evC E ti0 B77 ⟨l,hp,gn⟩=some (.normal,⟨l',hp,gn⟩)∧a3t l' 0=i64 (a*a % 55441)∧a3t l' 1=i64 (k / 2)∧a3t l' 5=i64 (if k % 2=1 then p*a % 55441 else p):=by
 have hc:ltI 0 k=true:=b1f h5
 have hq:wrF (k.tdiv 2)=k / 2:=by rw[Int.tdiv_eq_ediv_of_nonneg (by omega)];exact zfu (by omega) (by omega)
 have ha:wrF (Int.mul a a)=a*a:=by have:=bnd h1 h2 h1 h2;exact zfu (show _≤a*a by omega) (show a*a≤_ by omega)
 have hpa:wrF (Int.mul p a)=p*a:=by have:=bnd h3 h4 h1 h2;exact zfu (show _≤p*a by omega) (show p*a≤_ by omega)
 have hz2:isZ 2=false:=rfl
 have hzp:isZ 55441=false:=rfl
 have hra:(a*a).tmod 55441=a*a % 55441:=Int.tmod_eq_emod_of_nonneg (bnd h1 h2 h1 h2).1
 have hrp:(p*a).tmod 55441=p*a % 55441:=Int.tmod_eq_emod_of_nonneg (bnd h3 h4 h1 h2).1
 have hrk:k.tmod 2=k % 2:=Int.tmod_eq_emod_of_nonneg (by omega)
 generalize hE:evC E ti0 B77 ⟨l,hp,gn⟩=X
 by_cases hb:k % 2=1
 · have he:eqI (k % 2) 1=true:=b2b hb
   simp only[B77,Tryz.f99,a0b,cAt,Option.getD,evC,a4p,inF,zbl,opE,opK,a6P,b3l,zcn,zco,b3J,HS.st,St.ev,zcs,HS.eff,HS.put,dlH,b6A,alH,ti2,hc,hz2,hzp,a0D,Nat.reduceEqDiff,reduceIte,s0,s1,s5,hq,ha,hpa,hra,hrp,hrk,he,cond_false]at hE
   subst hE
   exact⟨_,rfl,by simp only[a0D,Nat.reduceEqDiff,reduceIte],by simp only[a0D,Nat.reduceEqDiff,reduceIte],by simp only[a0D,Nat.reduceEqDiff,reduceIte,hb]⟩
 · have he:eqI (k % 2) 1=false:=a9b hb
   simp only[B77,Tryz.f99,a0b,cAt,Option.getD,evC,a4p,inF,zbl,opE,opK,a6P,b3l,zcn,zco,b3J,HS.st,St.ev,zcs,HS.eff,HS.put,dlH,b6A,alH,ti2,hc,hz2,hzp,a0D,Nat.reduceEqDiff,reduceIte,s0,s1,hq,ha,hra,hrk,he,cond_false]at hE
   subst hE
   exact⟨_,rfl,by simp only[a0D,Nat.reduceEqDiff,reduceIte],by simp only[a0D,Nat.reduceEqDiff,reduceIte],by simp only[a0D,Nat.reduceEqDiff,reduceIte,hb,s5]⟩
theorem l77: ∀(n:Nat) (a k p:Int) (l:List AV),a3t l 0=i64 a→a3t l 1=i64 k→a3t l 5=i64 p→0≤a→a<55441→0≤p→p<55441→0≤k→k<2 ^ n→k<2^63→
  ∃l',a3D (evC E ti0 B77) (n+1) ⟨l,hp,gn⟩=some (.exit 0,⟨l',hp,gn⟩)∧a3t l' 5=i64 (p*a ^ k.toNat % 55441):=by
 intro n
 induction n with
 |zero=>
   intro a k p l s0 s1 s5 h1 h2 h3 h4 h5 h6 h7
   have hk0:k=0:=by simp at h6;omega
   subst hk0
   obtain⟨l',e1,e2⟩:=b6v (E:=E) (hp:=hp) (gn:=gn) s1 rfl
   refine⟨l',by simp only[a3D,e1],?_⟩
   rw[e2,s5];simp;rw[Int.emod_eq_of_lt h3 h4]
 |succ n ih=>
   intro a k p l s0 s1 s5 h1 h2 h3 h4 h5 h6 h7
   rcases Int.lt_or_le 0 k with hk|hk
   · obtain⟨l1,e1,e2,e3,e4⟩:=r77 (E:=E) (hp:=hp) (gn:=gn) s0 s1 s5 h1 h2 h3 h4 hk h7
     have hlt:k / 2<2 ^ n:=by rw[Int.pow_succ]at h6;omega
     have hp':0≤(if k % 2=1 then p*a % 55441 else p)∧(if k % 2=1 then p*a % 55441 else p)<55441:=by split<;>omega
     obtain⟨l',f1,f2⟩:=ih _ _ _ l1 e2 e3 e4 (by omega) (by omega) hp'.1 hp'.2 (by omega) hlt (by omega)
     refine⟨l',by rw[a3D,e1];exact f1,?_⟩
     rw[f2]
     by_cases hb:k % 2=1
     · rw[if_pos hb,b2d,show k.toNat=2*(k / 2).toNat+1 by omega]
     · rw[if_neg hb,a9q,show k.toNat=2*(k / 2).toNat by omega]
   · have hk0:k=0:=by omega
     subst hk0
     obtain⟨l',e1,e2⟩:=b6v (E:=E) (hp:=hp) (gn:=gn) s1 rfl
     refine⟨l',by rw[a3D,e1],?_⟩
     rw[e2,s5];simp;rw[Int.emod_eq_of_lt h3 h4]
theorem b4q{a k:Int}(h1:0≤a)(h2:a<55441)(h5:0≤k)(h7:k<2^63):a7s Tryz.prog ti0 E 99 [i64 a,i64 k]=some (i64 (a ^ k.toNat % 55441)):=by
 obtain⟨l',e1,e2⟩:=l77 (E:=E) (hp:=[]) (gn:=[]) 63 a k 1 (a3A (a3A [i64 a,i64 k] 4 (i64 0)) 5 (i64 1)) rfl rfl rfl h1 h2 (by omega) (by omega) h5 h7 h7
 have e1:=a7d e1 (by decide)
 refine a8J (h:=⟨a3A (a3A l' 21 (i64 (1*a ^ k.toNat % 55441))) 4 (i64 (1*a ^ k.toNat % 55441)),[],[]⟩) (e:= .ret) Tryz.func99 c2A (by kernel_rfl) ?_ (.inr rfl) ?_ rfl
 · simp only[P77a,P77b,P77c,cAt,a0b,Option.getD,evC,a4p,inF,zbl,opE,opK,a6P,HS.st,St.ev,zcs,HS.eff,HS.put,dlH,b6A,alH,e1,a0D,reduceIte,e2,eq_self,Tryz.f99]
 · simp only[Tryz.f99,a1Z,a1H,HS.st,a0D,Nat.reduceEqDiff,reduceIte,a2g,zhk,zes,zez,a1O,Int.one_mul]
noncomputable def B74:Code:=cAt [1,1,0,0,0] (a0b Tryz.f100)
noncomputable def P74a:Code:=cAt [0] (a0b Tryz.f100)
noncomputable def P74b:Code:=cAt [1,0] (a0b Tryz.f100)
noncomputable def P74c:Code:=cAt [1,1,1] (a0b Tryz.f100)
theorem c2Y:Tryz.f100.body=some (.seq P74a (.seq P74b (.seq (.block 0 (.loop B74)) P74c))):=by rfl
theorem b6m{k:Int}(s1:a3t l 1=i64 k)(hc:ltI 0 k=false): ∃l',evC E ti0 B74 ⟨l,hp,gn⟩=some (.exit 0,⟨l',hp,gn⟩)∧a3t l' 5=a3t l 5:=by
 generalize hE:evC E ti0 B74 ⟨l,hp,gn⟩=X
 simp only[B74,Tryz.f100,a0b,cAt,Option.getD,evC,a4p,inF,zbl,opE,opK,a6P,b3l,zcn,zco,b3J,HS.st,St.ev,zcs,HS.eff,HS.put,dlH,b6A,alH,ti2,hc,a0D,Nat.reduceEqDiff,reduceIte,s1]at hE
 subst hE
 exact⟨_,rfl,by simp only[a0D,Nat.reduceEqDiff,reduceIte]⟩
theorem r74{a k p:Int}(s0:a3t l 0=i64 a)(s1:a3t l 1=i64 k)(s5:a3t l 5=i64 p)(h1:0≤a)(h2:a<55441)(h3:0≤p)(h4:p<55441)(h5:0<k)(h7:k<2^63):
   ∃l',evC E ti0 B74 ⟨l,hp,gn⟩=some (.normal,⟨l',hp,gn⟩)∧a3t l' 0=i64 (a*a % 55441)∧a3t l' 1=i64 (k / 2)∧a3t l' 5=i64 (if k % 2=1 then p*a % 55441 else p):=by
 have hc:ltI 0 k=true:=b1f h5
 have hq:wrF (k.tdiv 2)=k / 2:=by rw[Int.tdiv_eq_ediv_of_nonneg (by omega)];exact zfu (by omega) (by omega)
 have ha:wrF (Int.mul a a)=a*a:=by have:=bnd h1 h2 h1 h2;exact zfu (show _≤a*a by omega) (show a*a≤_ by omega)
 have hpa:wrF (Int.mul p a)=p*a:=by have:=bnd h3 h4 h1 h2;exact zfu (show _≤p*a by omega) (show p*a≤_ by omega)
 have hz2:isZ 2=false:=rfl
 have hzp:isZ 55441=false:=rfl
 have hra:(a*a).tmod 55441=a*a % 55441:=Int.tmod_eq_emod_of_nonneg (bnd h1 h2 h1 h2).1
 have hrp:(p*a).tmod 55441=p*a % 55441:=Int.tmod_eq_emod_of_nonneg (bnd h3 h4 h1 h2).1
 have hrk:k.tmod 2=k % 2:=Int.tmod_eq_emod_of_nonneg (by omega)
 generalize hE:evC E ti0 B74 ⟨l,hp,gn⟩=X
 by_cases hb:k % 2=1
 · have he:eqI (k % 2) 1=true:=b2b hb
   simp only[B74,Tryz.f100,a0b,cAt,Option.getD,evC,a4p,inF,zbl,opE,opK,a6P,b3l,zcn,zco,b3J,HS.st,St.ev,zcs,HS.eff,HS.put,dlH,b6A,alH,ti2,hc,hz2,hzp,a0D,Nat.reduceEqDiff,reduceIte,s0,s1,s5,hq,ha,hpa,hra,hrp,hrk,he,cond_false]at hE
   subst hE
   exact⟨_,rfl,by simp only[a0D,Nat.reduceEqDiff,reduceIte],by simp only[a0D,Nat.reduceEqDiff,reduceIte],by simp only[a0D,Nat.reduceEqDiff,reduceIte,hb]⟩
 · have he:eqI (k % 2) 1=false:=a9b hb
   simp only[B74,Tryz.f100,a0b,cAt,Option.getD,evC,a4p,inF,zbl,opE,opK,a6P,b3l,zcn,zco,b3J,HS.st,St.ev,zcs,HS.eff,HS.put,dlH,b6A,alH,ti2,hc,hz2,hzp,a0D,Nat.reduceEqDiff,reduceIte,s0,s1,hq,ha,hra,hrk,he,cond_false]at hE
   subst hE
   exact⟨_,rfl,by simp only[a0D,Nat.reduceEqDiff,reduceIte],by simp only[a0D,Nat.reduceEqDiff,reduceIte],by simp only[a0D,Nat.reduceEqDiff,reduceIte,hb,s5]⟩
theorem l74: ∀(n:Nat) (a k p:Int) (l:List AV),a3t l 0=i64 a→a3t l 1=i64 k→a3t l 5=i64 p→0≤a→a<55441→0≤p→p<55441→0≤k→k<2 ^ n→k<2^63→
  ∃l',a3D (evC E ti0 B74) (n+1) ⟨l,hp,gn⟩=some (.exit 0,⟨l',hp,gn⟩)∧a3t l' 5=i64 (p*a ^ k.toNat % 55441):=by
 intro n
 induction n with
 |zero=>
   intro a k p l s0 s1 s5 h1 h2 h3 h4 h5 h6 h7
   have hk0:k=0:=by simp at h6;omega
   subst hk0
   obtain⟨l',e1,e2⟩:=b6m (E:=E) (hp:=hp) (gn:=gn) s1 rfl
   refine⟨l',by simp only[a3D,e1],?_⟩
   rw[e2,s5];simp;rw[Int.emod_eq_of_lt h3 h4]
 |succ n ih=>
   intro a k p l s0 s1 s5 h1 h2 h3 h4 h5 h6 h7
   rcases Int.lt_or_le 0 k with hk|hk
   · obtain⟨l1,e1,e2,e3,e4⟩:=r74 (E:=E) (hp:=hp) (gn:=gn) s0 s1 s5 h1 h2 h3 h4 hk h7
     have hlt:k / 2<2 ^ n:=by rw[Int.pow_succ]at h6;omega
     have hp':0≤(if k % 2=1 then p*a % 55441 else p)∧(if k % 2=1 then p*a % 55441 else p)<55441:=by split<;>omega
     obtain⟨l',f1,f2⟩:=ih _ _ _ l1 e2 e3 e4 (by omega) (by omega) hp'.1 hp'.2 (by omega) hlt (by omega)
     refine⟨l',by rw[a3D,e1];exact f1,?_⟩
     rw[f2]
     by_cases hb:k % 2=1
     · rw[if_pos hb,b2d,show k.toNat=2*(k / 2).toNat+1 by omega]
     · rw[if_neg hb,a9q,show k.toNat=2*(k / 2).toNat by omega]
   · have hk0:k=0:=by omega
     subst hk0
     obtain⟨l',e1,e2⟩:=b6m (E:=E) (hp:=hp) (gn:=gn) s1 rfl
     refine⟨l',by rw[a3D,e1],?_⟩
     rw[e2,s5];simp;rw[Int.emod_eq_of_lt h3 h4]
theorem b5J{a k:Int}(h1:0≤a)(h2:a<55441)(h5:0≤k)(h7:k<2^63):a7s Tryz.prog ti0 E 100 [i64 a,i64 k]=some (i64 (a ^ k.toNat % 55441)):=by
 obtain⟨l',e1,e2⟩:=l74 (E:=E) (hp:=[]) (gn:=[]) 63 a k 1 (a3A (a3A [i64 a,i64 k] 4 (i64 0)) 5 (i64 1)) rfl rfl rfl h1 h2 (by omega) (by omega) h5 h7 h7
 have e1:=a7d e1 (by decide)
 refine a8J (h:=⟨a3A (a3A l' 21 (i64 (1*a ^ k.toNat % 55441))) 4 (i64 (1*a ^ k.toNat % 55441)),[],[]⟩) (e:= .ret) Tryz.func100 c2Y (by kernel_rfl) ?_ (.inr rfl) ?_ rfl
 · simp only[P74a,P74b,P74c,cAt,a0b,Option.getD,evC,a4p,inF,zbl,opE,opK,a6P,HS.st,St.ev,zcs,HS.eff,HS.put,dlH,b6A,alH,e1,a0D,reduceIte,e2,eq_self,Tryz.f100]
 · simp only[Tryz.f100,a1Z,a1H,HS.st,a0D,Nat.reduceEqDiff,reduceIte,a2g,zhk,zes,zez,a1O,Int.one_mul]
def pwK(a k:Int):Option AV:=match a,k with
 | .ofNat m,.ofNat n=>cond (Nat.blt m 55441&&Nat.blt n 9223372036854775808) (some (i64 (.ofNat (m ^ n % 55441)))) none
 |_,_=>none
theorem b7f{a k:Int}{r:AV}(h:pwK a k=some r):0≤a∧a<55441∧0≤k∧k<2^63∧r=i64 (a ^ k.toNat % 55441):=by
 unfold pwK at h
 split at h
 · rename_i m n
   cases hc:(Nat.blt m 55441&&Nat.blt n 9223372036854775808)with
   |false=>rw[hc]at h;cases h
   |true=>
     rw[hc]at h
     simp only[cond_true,Option.some.injEq]at h
     simp only[Bool.and_eq_true,Nat.blt_eq]at hc
     simp only[Int.ofNat_eq_natCast]
     refine⟨by omega,by omega,by omega,by omega,?_⟩
     rw[←h]
     simp
 · cases h
theorem a6G:Tryz.prog.follows .mixedOrders=true:=by kernel_rfl
theorem a8v{f:Nat}{args:List AV}{r:AV}(h:a7s Tryz.prog ti0 E0 f args=some r):a0d Tryz.prog f args r:=b7o (a6F _) a6G h
def KP(f:Nat)(args:List AV):Option AV:=cond (Nat.beq f 99||Nat.beq f 100) (match args with
 | [.sc (.int .i64 a),.sc (.int .i64 k)]=>pwK a k
 |_=>none) none
theorem c4U: ∀f args r,KP f args=some r→a0d Tryz.prog f args r:=by
 intro f args r h
 unfold KP at h
 cases hc:(Nat.beq f 99||Nat.beq f 100)with
 |false=>rw[hc]at h;cases h
 |true=>
   rw[hc]at h
   simp only[cond_true]at h
   split at h
   · rename_i a k
     obtain⟨h1,h2,h3,h4,rfl⟩:=b7f h
     simp only[Bool.or_eq_true]at hc
     rcases hc with hc|hc
     · have:=a1B.1 hc;subst this;exact a8v (b4q h1 h2 h3 h4)
     · have:=a1B.1 hc;subst this;exact a8v (b5J h1 h2 h3 h4)
   · cases h
end Go.Proofs.YtbakhfiibjkifaaGreat
/- The laws' comparing functions. -/
namespace Go.Proofs.YtbakhfiibjkifaaGreat
open Go.RowKit
noncomputable abbrev XX:WX:=⟨Tryz.prog,ti0,fun f=>Nat.beq f 144||Nat.beq f 90||Nat.beq f 93||Nat.beq f 123||Nat.beq f 48||Nat.beq f 68||Nat.beq f 43||Nat.beq f 12||Nat.beq f 106||Nat.beq f 155||Nat.beq f 139||Nat.beq f 116||Nat.beq f 141||Nat.beq f 85||Nat.beq f 94||Nat.beq f 42||Nat.beq f 55||Nat.beq f 96||Nat.beq f 126||Nat.beq f 69||Nat.beq f 13||Nat.beq f 7||Nat.beq f 19||Nat.beq f 21||Nat.beq f 31||Nat.beq f 38⟩
theorem a0e{f:Nat}{fn:Func}{code:Code}{args:List AV}{r:AV}(hf:Tryz.prog.funcs[f]?=some fn)(hb:fn.body=some code)
  (hok : (!(fn.name == "runtime.NumGoroutine") && a1z fn.ntmps code && decide (args.length ≤ fn.ntmps)) = true) (hn : a0C r = true)
  (h: ∀sl:Nat→AV,(∀k,sl k=args.getD k (.sc undef))→WK XX code [] (RET ti0 fn.results.toList r) ⟨sl,fun _ _=>none,fun _=>0⟩):a0d Tryz.prog f args r:=
 b2l _ (a6F _) a6G hf hb hok hn h
theorem ti3:ti0 3=some ⟨1,false,[Value.int .i64 0],none,[],some .i64,false,false,none,none⟩:=by kernel_rfl
theorem ti4:ti0 4=some ⟨1,false,[Value.bool false],none,[],none,false,true,none,none⟩:=by kernel_rfl
theorem a6O:ti0 28=some ⟨1,false,[Value.slice none 0 0],some 37,[],none,false,false,none,none⟩:=by kernel_rfl
theorem a4D:ti0 37=some ⟨1,false,[Value.slice none 0 0],some 2,[],none,false,false,none,none⟩:=by kernel_rfl
theorem a3s{xs ys:List Int}(hl:xs.length=ys.length)(h: ∀j,j<xs.length→atI xs j=atI ys j):xs=ys:=by
 refine List.ext_getElem hl fun i h1 h2=>?_
 have:=h i h1
 simpa [atI,h1,h2]using this
theorem a7w: ∀ {xs ys:List (List Int)},xs.length=ys.length→(∀j,j<xs.length→xs.getD j []=ys.getD j [])→xs=ys:=by
 intro xs ys hl h
 refine List.ext_getElem hl fun i h1 h2=>?_
 have:=h i h1
 simpa [h1,h2]using this
def c4C(k:Int):Nat→List Int
 |0=>[]
 |n+1=>c4C k n++ [k+n]
def sumN:List Nat→Nat
 | []=>0
 |n::ns=>n+sumN ns
def labs(k:Int):List Nat→List (List Int)
 | []=>[]
 |n::ns=>c4C k n::labs (k+n) ns
theorem b3G{f:Nat}{fn:Func}{code:Code}{args:List AV}{r:AV}{ro ro':Ro}{gn gn':Nat→Nat}(hf:Tryz.prog.funcs[f]?=some fn)(hb:fn.body=some code)
  (hok : (!(fn.name == "runtime.NumGoroutine") && a1z fn.ntmps code && decide (args.length ≤ fn.ntmps)) = true)
  (h: ∀sl:Nat→AV,(∀k,sl k=args.getD k (.sc undef))→WK XX code [] (RETI ti0 fn.results.toList r ro' gn') ⟨sl,ro,gn⟩):a9B Tryz.prog f args ro gn r ro' gn':=
 c1Q _ (a6F _) a6G hf hb hok h
structure Plc(s g:Nat)(p:List Nat)(W:List AV→AV):Prop where
 cells: ∀(ro:Ro) cs,ro s g=some (W cs)→ro.cells s g p=some cs
 notBx: ∀(ro:Ro) cs,ro s g=some (W cs)→a1L ro s g p=false
 put: ∀f cs,a3H f p (W cs)=W (f cs)
theorem b5n(ro:Ro)(s g:Nat)(a b:AV):upr (upr ro s g a) s g b=upr ro s g b:=by
 funext s' g';simp only[zdb];split<;>rfl
theorem c2K(ro:Ro)(s g:Nat)(a:AV)(h:ro s g=some a):upr ro s g a=ro:=by
 funext s' g';simp only[zdb];split
 ·rename_i h2;obtain⟨rfl,rfl⟩:=h2;exact h.symm
 ·rfl
theorem a2Z(ro:Ro)(s g:Nat)(a:AV):upr ro s g a s g=some a:=by simp[zdb]
def mkd(k:Int)(j:Nat)(cs:List AV):List AV:=(c4C k j).map i64++cs.drop j
def rowsOf(css:List (List AV)):List AV:=css.map .row
def c4Q(k:Int)(ns:List Nat):List AV:=(labs k ns).map fun xs=> .row (xs.map i64)
def mkr(k:Int)(j:Nat)(css:List (List AV)):List AV:=c4Q k ((css.map List.length).take j)++(css.drop j).map .row
theorem c1Z:b9v Tryz.prog ti0 KP (fun _=>false) 20 129 []=some (i64 38):=by kernel_rfl
theorem b3g{P:Program}{K:Nat→List AV→Option AV}(hm:P.follows .mixedOrders=true)(hK: ∀f args r,K f args=some r→a0d P f args r){n f:Nat}{args:List AV}{r:AV}(h:b9v P (tiG P) K (fun _=>false) n f args=some r):a0d P f args r:=
 b6C (a6F P) hm hK h
theorem c100:a0d Tryz.prog 129 [] (i64 38):=b3g a6G c4U c1Z
theorem c77{a k:Int}(h1:0≤a)(h2:a<55441)(h5:0≤k)(h7:k<2^63):a0d Tryz.prog 99 [i64 a,i64 k] (i64 (a ^ k.toNat % 55441)):=a8v (b4q h1 h2 h5 h7)
theorem c74{a k:Int}(h1:0≤a)(h2:a<55441)(h5:0≤k)(h7:k<2^63):a0d Tryz.prog 100 [i64 a,i64 k] (i64 (a ^ k.toNat % 55441)):=a8v (b5J h1 h2 h5 h7)
set_option maxRecDepth 1000000 in
theorem c40{a b c:Int}:a0d Tryz.prog 74 [i64 a,i64 b,i64 c] (bo (decide (b≤a∧a≤c))):=by
 refine a0e (fn:=Tryz.f74) (code:=a0b Tryz.f74) Tryz.func74 rfl (by kernel_rfl) rfl ?_
 intro sl hs
 have s0:sl 0=i64 a:=hs 0
 have s1:sl 1=i64 b:=hs 1
 have s2:sl 2=i64 c:=hs 2
 rcases Int.lt_or_le a b with h|h
 ·have h': ¬(b≤a):=by omega
  refine Yfw ?_
  exact Yaa
 ·have h': ¬(a<b):=by omega
  refine Yfw ?_
  exact Ybj
set_option maxRecDepth 1000000 in
theorem c38{a b c:Int}:a0d Tryz.prog 113 [i64 a,i64 b,i64 c] (bo (decide (b≤a∧a≤c))):=by
 refine a0e (fn:=Tryz.f113) (code:=a0b Tryz.f113) Tryz.func113 rfl (by kernel_rfl) rfl ?_
 intro sl hs
 have s0:sl 0=i64 a:=hs 0
 have s1:sl 1=i64 b:=hs 1
 have s2:sl 2=i64 c:=hs 2
 rcases Int.lt_or_le a b with h|h
 ·have h': ¬(b≤a):=by omega
  refine Yfr ?_
  exact Yaa
 ·have h': ¬(a<b):=by omega
  refine Yfr ?_
  exact Ybj
def pw(a:Int)(k:Int):Int:=a ^ k.toNat % 55441
theorem a3Z(a k:Int):0≤pw a k:=Int.emod_nonneg _ (by decide)
theorem b3H(a k:Int):pw a k<55441:=Int.emod_lt_of_pos _ (by decide)
set_option maxRecDepth 1000000 in
theorem c59{a:Int}(h1:0≤a)(h2:a<55441):a0d Tryz.prog 64 [i64 a] (i64 (pw a 55439)):=by
 refine a0e (fn:=Tryz.f64) (code:=a0b Tryz.f64) Tryz.func64 rfl (by kernel_rfl) rfl ?_
 intro sl hs
 have s0:sl 0=i64 a:=hs 0
 simp(disch:=first|omega|assumption) only[Tryz.f64,a0b,Option.getD,go_sem,s0]
 refine a0c _ (c74 h1 h2 (by decide) (by decide)) rfl rfl rfl ?_
 simp(disch:=first|omega|assumption) only[go_sem]
 exact Yem
def qt(a b:Int):Int:=a*pw b 55439 % 55441
set_option maxRecDepth 1000000 in
theorem c65{a b:Int}(h1:0≤a)(h2:a<55441)(h3:0≤b)(h4:b<55441):a0d Tryz.prog 61 [i64 a,i64 b] (i64 (qt a b)):=by
 refine a0e (fn:=Tryz.f61) (code:=a0b Tryz.f61) Tryz.func61 rfl (by kernel_rfl) rfl ?_
 intro sl hs
 have s0:sl 0=i64 a:=hs 0
 have s1:sl 1=i64 b:=hs 1
 simp(disch:=first|omega|assumption) only[Tryz.f61,a0b,Option.getD,go_sem,s0,s1]
 refine a0c _ (c77 h3 h4 (by decide) (by decide)) rfl rfl rfl ?_
 have hb:=bnd h1 h2 (a3Z b 55439) (b3H b 55439)
 simp only[pw]at hb
 simp(disch:=first|omega|assumption) only[go_sem,ti2,Int.tmod_eq_emod_of_nonneg]
 simp only[zr,a1Z,a1H,a2g,zes,zez,a1O,zhk, ↓za, ↓reduceIte,qt,pw]
set_option maxRecDepth 1000000 in
theorem c73{n:Int}(h1:1≤n)(h2:n≤55440):a0d Tryz.prog 105 [i64 n] (i64 (pw 38 (55440 / n))):=by
 refine a0e (fn:=Tryz.f105) (code:=a0b Tryz.f105) Tryz.func105 rfl (by kernel_rfl) rfl ?_
 intro sl hs
 have s0:sl 0=i64 n:=hs 0
 have hd:0≤55440 / n:=Int.ediv_nonneg (by decide) (by omega)
 have hd2:55440 / n≤55440:=Int.ediv_le_self _ (by decide)
 simp(disch:=first|omega|assumption) only[Tryz.f105,a0b,Option.getD,go_sem]
 refine a0A _ c100 rfl rfl ?_
 simp(disch:=first|omega|assumption) only[go_sem,ti2,s0,Int.tdiv_eq_ediv_of_nonneg]
 refine a0A _ (c74 (by decide) (by decide) hd (by omega)) rfl rfl ?_
 simp(disch:=first|omega|assumption) only[go_sem]
 refine a0r (by kernel_rfl) ?_
 simp(disch:=first|omega|assumption) only[go_sem]
 exact Yem
def pwz(a k:Int):Int:=if k<0 then qt 1 (pw a (-k))else pw a k
theorem a6N{x y X Y:Int}(h1:0≤x)(h2:x≤X)(h3:0≤y)(h4:y≤Y):0≤x*y∧x*y≤X*Y:=
 ⟨Int.mul_nonneg h1 h3,Int.mul_le_mul h2 h4 h3 (by omega)⟩
theorem a4g{α:Type}(f:α→AV)(h: ∀i,a0C (f i)=true): ∀l:List α,a0j (l.map f)=true
 | []=>rfl
 |a::l=>by simp only[List.map_cons,a0j,h,a4g f h l,Bool.and_self]
theorem a1a(f:Nat→AV)(n:Nat)(h: ∀i,a0C (f i)=true):a0j (rws f n)=true:=a4g f h _
theorem a1i(cs:List AV)(h:a0j cs=true):a0C (.row cs)=true:=by simpa only[a0C]using h
def dE(n k:Int)(i j:Nat):Int:=n*((i:Int) / n*((j:Int) % n)+(j:Int) / n*((i:Int) % n))+2*k*((i:Int) / n)*((j:Int) / n)
def dT(n k:Int)(i:Nat):Int:=n*((i:Int) / n)*((i:Int) % n)+k*((i:Int) / n)*((i:Int) / n)
def dz(n:Int):Int:=pw 38 (55440 / (n*n))
theorem a0g{α:Type}{f g:Nat→α}{n:Nat}(h: ∀i,i<n→f i=g i):rws f n=rws g n:=by
 unfold rws
 exact List.map_congr_left fun i hi=>h i (List.mem_range.1 hi)
theorem a0y{α β:Type}(f:Nat→α)(g:α→β)(n:Nat):(rws f n).map g=rws (fun i=>g (f i)) n:=by simp[rws,Function.comp_def]
def dS(n k:Int):List (List Int):=rws (fun i=>rws (fun j=>pw (pw (dz n) 55439) (dE n k i j)) (n*n).toNat) (n*n).toNat
def dTs(n k:Int):List Int:=rws (fun i=>pw (dz n) (dT n k i)) (n*n).toNat
abbrev a0H(xs:List Int):AV:= .row (xs.map i64)
abbrev a0I(xss:List (List Int)):AV:= .row (xss.map a0H)
abbrev a3q(xs:List Int):AV:= .imm (xs.map i64)
abbrev a2x(xss:List (List Int)):AV:= .imm (xss.map a3q)
theorem exLL(ro:Ro)(k:Nat)(xss:List (List Int)):(xss.map a0H).map (ex ro (k+2))=xss.map a3q:=by
 rw[List.map_map]
 refine List.map_congr_left fun xs _=>?_
 show AV.imm ((xs.map i64).map (ex ro (k+1)))=_
 rw[b6w]
theorem b1c{ro:Ro}{s g:Nat}{xss:List (List Int)}(h:ro s g=some (a0I xss))(k:Nat):ex ro (k+3) (.ref s g [] 0 xss.length)=a2x xss:=by
 show (match ro.cells s g []with|some cs=>AV.imm (((cs.drop 0).take xss.length).map (ex ro (k+2)))|none=> .dead)=_
 rw[zef,h]
 simp only[zeh,List.drop_zero]
 rw[List.take_of_length_le (by simp),exLL]
theorem c1t{ro:Ro}{s g:Nat}{xs:List Int}(h:ro s g=some (a0H xs))(k:Nat):ex ro (k+2) (.ref s g [] 0 xs.length)=a3q xs:=by
 show (match ro.cells s g []with|some cs=>AV.imm (((cs.drop 0).take xs.length).map (ex ro (k+1)))|none=> .dead)=_
 rw[zef,h]
 simp only[zeh,List.drop_zero]
 rw[List.take_of_length_le (by simp),b6w]
def num(x:Int):Prop:=0≤x∧x<55441
def a2s(xs:List Int):Prop:= ∀j,num (atI xs j)
def row(S:List (List Int))(i:Nat):List Int:=S.getD i []
def a7u(S:List (List Int)):Prop:= ∀i,a2s (row S i)
def sm(f:Nat→Int):Nat→Int
 |0=>0
 |n+1=>sm f n+f n
theorem a0E(x:Int):num (x % 55441):=⟨Int.emod_nonneg _ (by decide),Int.emod_lt_of_pos _ (by decide)⟩
theorem a3d{a b:Int}(ha:num a)(hb:num b):0≤a*b∧a*b≤55440*55440:=bnd ha.1 ha.2 hb.1 hb.2
theorem a5z{f:Nat→Int}{B:Int}(h: ∀j,0≤f j∧f j≤B): ∀n:Nat,0≤sm f n∧sm f n≤n*B
 |0=>by simp[sm]
 |n+1=>by
  have ih:=a5z h n
  have h1:=h n
  simp only[sm,Int.natCast_add,Int.natCast_one,Int.add_mul,Int.one_mul]
  omega
theorem b8l(f:Nat→Int): ∀n:Nat,sm (fun j=>f j % 55441) n % 55441=sm f n % 55441
 |0=>rfl
 |n+1=>by
  simp only[sm]
  rw[Int.add_emod,b8l f n,Int.emod_emod_of_dvd _ (by decide:(55441:Int)∣55441), ←Int.add_emod]
theorem a0k{f g:Nat→Int}: ∀ {n:Nat},(∀j,j<n→f j=g j)→sm f n=sm g n
 |0,_=>rfl
 |n+1,h=>by simp only[sm];rw[a0k fun j hj=>h j (by omega),h n (by omega)]
theorem a6c{a:AV}{xss:List (List Int)}(h:a2t a xss)(hk:0<xss.length){ro:Ro}{a1:Nat}{a2:Bool}{a3:List Value}{e:Nat}{a5:List (Nat×Nat)}{a6:Option IntKind}{a7 a8:Bool}{a9 a10:Option (Nat×Nat)}:a5J (some ⟨a1,a2,a3,some e,a5,a6,a7,a8,a9,a10⟩) ro a (.sc (.int .i64 0))=some ⟨.iptr [atA a 0],none,[],[]⟩:=a0S h hk
theorem a4K{a:AV}{xs:List Int}(h:isL a xs)(hk:0<xs.length){ro:Ro}{a1:Nat}{a2:Bool}{a3:List Value}{e:Nat}{a5:List (Nat×Nat)}{a6:Option IntKind}{a7 a8:Bool}{a9 a10:Option (Nat×Nat)}:a5J (some ⟨a1,a2,a3,some e,a5,a6,a7,a8,a9,a10⟩) ro a (.sc (.int .i64 0))=some ⟨.iptr [i64 (atI xs 0)],none,[],[]⟩:=a0s h hk
def ix:List Int→Int→Nat→Int
 | [],_,_=> -1
 |x::xs,n,k=>if x=n then k else ix xs n (k+1)
theorem b0t: ∀ {xs:List Int} {n:Int} {k:Nat} (b:Nat),k<xs.length→atI xs k=n→(∀j,j<k→atI xs j≠n)→ix xs n b=(b+k:Nat)
 |x::xs,n,0,b,_,h,_=>by simp[atI]at h;simp[ix,h]
 |x::xs,n,k+1,b,hk,h,hn=>by
  have h0:x≠n:=by simpa [atI]using hn 0 (by omega)
  have:=b0t (xs:=xs) (n:=n) (k:=k) (b+1) (by simpa using hk) (by simpa [atI]using h) (fun j hj=>by simpa [atI]using hn (j+1) (by omega))
  simp only[ix,if_neg h0,this];omega
 | [],_,_,_,hk,_,_=>by simp at hk
theorem a9J: ∀ {xs:List Int} {n:Int} (b:Nat),(∀j,j<xs.length→atI xs j≠n)→ix xs n b= -1
 | [],_,_,_=>rfl
 |x::xs,n,b,hn=>by
  have h0:x≠n:=by simpa [atI]using hn 0 (by simp)
  simp only[ix,if_neg h0]
  exact a9J (b+1) fun j hj=>by simpa [atI]using hn (j+1) (by simpa using hj)
set_option maxRecDepth 1000000 in
theorem c87{a:AV}{xs:List Int}{n:Int}(ha:isL a xs)(hx:xs.length≤a0G):a0d Tryz.prog 171 [a,i64 n] (i64 (ix xs n 0)):=by
 refine a0e (fn:=Tryz.f171) (code:=a0b Tryz.f171) Tryz.func171 rfl (by kernel_rfl) rfl ?_
 intro sl hs
 have s0:sl 0=a:=hs 0
 have s1:sl 1=i64 n:=hs 1
 have hx':xs.length≤4294967296:=hx
 simp only[Tryz.f171,a0b,Option.getD,go_sem]
 refine a0f (fun k st=>st.sl 0=a∧st.sl 1=i64 n∧st.sl 5=i64 (k:Int)∧ ∀j,j<k→atI xs j≠n) xs.length ?_ ?_ ?_
 ·refine Yds ?_
  exact⟨rfl,fun j hj=>absurd hj (Nat.not_lt_zero _)⟩
 ·rintro k sl ro gn hk ⟨s0,s1,s5,hp⟩
  dsimp only at s0 s1 s5
  have hk':(k:Int)<xs.length:=by omega
  simp(disch:=first|omega|assumption) only[go_sem,ti2,ti3,a4D,s0,s1,s5,a0B ha,a0s ha hk,hk']
  refine⟨fun he=>?_,fun hne=>⟨a0w (by omega),fun j hj=>?_⟩⟩
  ·refine Yab ?_
   have:=b0t 0 hk he hp
   rw[this];omega
  ·rcases Nat.lt_or_ge j k with h|h
   ·exact hp j h
   ·have:j=k:=by omega
    subst this;exact hne
 ·rintro sl ro gn ⟨s0,s1,s5,hp⟩
  dsimp only at s0 s1 s5
  have hk': ¬(xs.length:Int)<xs.length:=by omega
  simp only[go_sem,ti3,a4D,s0,s5,a0B ha,hk']
  refine Yab ?_
  rw[a9J 0 hp]
set_option maxRecDepth 1000000 in
theorem c88{a:AV}{xs:List Int}{n:Int}(ha:isL a xs)(hx:xs.length≤a0G):a0d Tryz.prog 166 [a,i64 n] (bo (decide (0≤ix xs n 0))):=by
 refine a0e (fn:=Tryz.f166) (code:=a0b Tryz.f166) Tryz.func166 rfl (by kernel_rfl) rfl ?_
 intro sl hs
 have s0:sl 0=a:=hs 0
 have s1:sl 1=i64 n:=hs 1
 simp only[Tryz.f166,a0b,Option.getD,go_sem,s0,s1]
 refine a0c _ (c87 ha hx) (by simp only[a0Q,a1J ha,a0W,Bool.and_self]) rfl rfl ?_
 simp only[go_sem,ti2]
 exact Ybj
set_option maxRecDepth 1000000 in
theorem c102{a b:AV}{xs ys:List Int}(ha:isL a xs)(hb:isL b ys)(hx:xs.length≤a0G)(hl:xs.length≤ys.length)(nx:a2s xs)(ny:a2s ys):a0d Tryz.prog 97 [a,b] (i64 (sm (fun j=>atI xs j*atI ys j) xs.length % 55441)):=by
 refine a0e (fn:=Tryz.f97) (code:=a0b Tryz.f97) Tryz.func97 rfl (by kernel_rfl) rfl ?_
 intro sl hs
 have s0:sl 0=a:=hs 0
 have s1:sl 1=b:=hs 1
 have hx':xs.length≤4294967296:=hx
 simp only[Tryz.f97,a0b,Option.getD,go_sem]
 refine a0f (fun k st=>st.sl 0=a∧st.sl 1=b∧st.sl 6=i64 (k:Int)∧st.sl 5=i64 (sm (fun j=>atI xs j*atI ys j) k % 55441)) xs.length ?_ ?_ ?_
 ·refine Yds ?_
  exact⟨rfl,rfl⟩
 ·rintro k sl ro gn hk ⟨s0,s1,s6,s5⟩
  dsimp only at s0 s1 s6 s5
  have hk':(k:Int)<xs.length:=by omega
  have hb1:=a3d (nx k) (ny k)
  have hb2:=a0E (sm (fun j=>atI xs j*atI ys j) k)
  unfold num at hb2
  simp(disch:=first|omega|assumption) only[go_sem,ti2,ti3,a4D,s0,s1,s5,s6,a0B ha,a0s ha hk,a0s hb (Nat.lt_of_lt_of_le hk hl),a2r ha,a2r hb,hk',Int.tmod_eq_emod_of_nonneg]
  refine a0r (by kernel_rfl) ?_
  simp(disch:=first|omega|assumption) only[go_sem,ti3,s0,s1,s6]
  exact⟨a0w (by omega),a0w (by simp only[sm,Int.emod_add_emod])⟩
 ·rintro sl ro gn ⟨s0,s1,s6,s5⟩
  dsimp only at s0 s1 s6 s5
  have hk': ¬(xs.length:Int)<xs.length:=by omega
  simp only[go_sem,ti3,a4D,s0,s5,s6,a0B ha,hk']
  exact Yaa
set_option maxRecDepth 1000000 in
theorem c3M{a b:AV}{xs ys:List Int}(ha:isL a xs)(hb:isL b ys)(hx:xs.length≤a0G)(hl:xs.length≤ys.length)(nx:a2s xs)(ny:a2s ys):a0d Tryz.prog 54 [a,b] (i64 (sm (fun j=>atI xs j*atI ys j) xs.length % 55441)):=by
 refine a0e (fn:=Tryz.f54) (code:=a0b Tryz.f54) Tryz.func54 rfl (by kernel_rfl) rfl ?_
 intro sl hs
 have s0:sl 0=a:=hs 0
 have s1:sl 1=b:=hs 1
 have hx':xs.length≤4294967296:=hx
 simp only[Tryz.f54,a0b,Option.getD,go_sem,a4D,s0,a0B ha]
 refine a0f (fun k st=>st.sl 0=a∧st.sl 1=b∧st.sl 8=i64 (xs.length:Int)∧st.sl 9=i64 (k:Int)∧st.sl 5=i64 (sm (fun j=>atI xs j*atI ys j % 55441) k)) xs.length ?_ ?_ ?_
 ·refine Yds ?_
  exact⟨rfl,rfl⟩
 ·rintro k sl ro gn hk ⟨s0,s1,s8,s9,s5⟩
  dsimp only at s0 s1 s8 s9 s5
  have hk':(k:Int)<xs.length:=by omega
  have hb1:=a3d (nx k) (ny k)
  have hb2:=a5z (f:=fun j=>atI xs j*atI ys j % 55441) (B:=55440) (fun j=>by have:=a0E (atI xs j*atI ys j);unfold num at this;omega) k
  have hb3:=a0E (atI xs k*atI ys k)
  unfold num at hb3
  simp(disch:=first|omega|assumption) only[go_sem,ti2,ti3,a4D,s0,s1,s5,s8,s9,a0s ha hk,a0s hb (Nat.lt_of_lt_of_le hk hl),a2r ha,a2r hb,hk',Int.tmod_eq_emod_of_nonneg]
  refine a0r (by kernel_rfl) ?_
  simp(disch:=first|omega|assumption) only[go_sem,ti3,s0,s1,s8,s9]
  exact⟨a0w (by omega),a0w rfl⟩
 ·rintro sl ro gn ⟨s0,s1,s8,s9,s5⟩
  dsimp only at s0 s1 s8 s9 s5
  have hk': ¬(xs.length:Int)<xs.length:=by omega
  have hb2:=a5z (f:=fun j=>atI xs j*atI ys j % 55441) (B:=55440) (fun j=>by have:=a0E (atI xs j*atI ys j);unfold num at this;omega) xs.length
  simp(disch:=first|omega|assumption) only[go_sem,ti2,ti3,s5,s8,s9,hk',Int.tmod_eq_emod_of_nonneg]
  simp only[zr,a1Z,a1H,a2g,zes,zez,a1O,zhk, ↓za, ↓reduceIte,b8l]
theorem a1b(xs:List Int):a0C (a0H xs)=true:=a1i _ (a4g _ (fun _=>rfl) _)
theorem a2m(xss:List (List Int)):a0C (a0I xss)=true:=a1i _ (a4g _ (fun xs=>a1b xs) _)
theorem a1K{α:Type}(f:α→AV)(h: ∀i,noI (f i)=true): ∀l:List α,a2R (l.map f)=true
 | []=>rfl
 |a::l=>by simp only[List.map_cons,a2R,h,a1K f h l,Bool.and_self]
theorem a2K(cs:List AV)(h:a2R cs=true):noI (.row cs)=true:=by simpa only[noI]using h
theorem a1j(xs:List Int):noI (a0H xs)=true:=a2K _ (a1K _ (fun _=>rfl) _)
theorem a3V(xss:List (List Int)):noI (a0I xss)=true:=a2K _ (a1K _ (fun xs=>a1j xs) _)
theorem a0m{a:AV}{xss:List (List Int)}(h:a2t a xss){k:Nat}(hk:k<xss.length):isL (atA a k) (row xss k):=b9Y h hk
def whl(S:List (List Int))(n:Nat):Int:=sm (fun j=>atI (row S 0) j*atI (row S 0) j) n % 55441
def tmE(A B:List (List Int))(i j:Nat):Int:=sm (fun k=>atI (row A i) k*atI (row B k) j) B.length % 55441
def tms(A B:List (List Int)):List (List Int):=rws (fun i=>rws (fun j=>tmE A B i j) B.length) A.length
theorem a5o{α:Type}(x:α)(n:Nat):List.replicate n x=rws (fun _=>x) n:=by
 unfold rws
 apply List.ext_getElem<;>simp
theorem a0X{α:Type}(f:Nat→α)(n j:Nat)(x:α):(rws f n).set j x=rws (fun i=>if i=j then x else f i) n:=by
 unfold rws
 apply List.ext_getElem
 ·simp
 ·intro i h1 h2
  simp[List.getElem_set]
  split<;>split<;>first|rfl|omega
theorem a0l{α:Type}(f:Nat→α)(n j:Nat)(h:j<n):(rws f n)[j]?=some (f j):=by simp[rws,h]
def wr1(o:Option AV)(ro:Ro)(s g j i:Nat)(vs:List AV):Ro:=match o with
 |some a=>upr ro s g (a3H (setL i vs) [j] a)
 |none=>ro
theorem b8q(ro:Ro)(s g j i:Nat)(vs:List AV):ro.wr ⟨s,g,[j],i,vs⟩=wr1 (ro s g) ro s g j i vs:=by
 unfold wr1 Ro.wr
 cases ro s g<;>rfl
theorem b4D{rows cs:List AV}{ro:Ro}{s g j i:Nat}{vs:List AV}(h:rows[j]?=some (.row cs)):wr1 (some (.row rows)) ro s g j i vs=upr ro s g (.row (rows.set j (.row (setL i vs cs)))):=by
 simp only[wr1,a3H,h]
def bx1(o:Option AV)(j:Nat):Bool:=match o with
 |some (.row rows)=>match rows[j]? with
  |some (.bx _)=>true
  |_=>false
 |_=>false
theorem b1H(ro:Ro)(s g j:Nat):a1L ro s g [j]=bx1 (ro s g) j:=by
 unfold a1L bx1 Ro.at
 cases h:ro s g with
 |none=>rfl
 |some a=>
  cases a<;>try rfl
  rename_i rows
  simp only[ath]
  cases h2:rows[j]? with
  |none=>rfl
  |some c=>cases c<;>rfl
theorem b3W{rows cs:List AV}{j:Nat}(h:rows[j]?=some (.row cs)):bx1 (some (.row rows)) j=false:=by simp only[bx1,h]
set_option maxRecDepth 1000000 in
theorem c4r{n m:Nat}(hn:n≤a0G)(hm:m≤a0G):a0d Tryz.prog 130 [i64 n,i64 m] (a0I (rws (fun _=>rws (fun _=>0) m) n)):=by
 have e0:a0I (rws (fun _=>rws (fun _=>0) m) n)= .row (rws (fun _=> .row (List.replicate m (i64 0))) n):=by simp only[a0I,a0H,a0y,a5o]
 refine a0e (fn:=Tryz.f130) (code:=a0b Tryz.f130) Tryz.func130 rfl (by kernel_rfl) (a2m _) ?_
 rw[e0]
 intro sl hs
 have s0:sl 0=i64 n:=hs 0
 have s1:sl 1=i64 m:=hs 1
 have hn':n≤4294967296:=hn
 have hm':(m:Int)≤((4294967296:Nat):Int):=by have:m≤4294967296:=hm;omega
 simp only[Tryz.f130,a0b,Option.getD,go_sem,a6O,a4D,s0]
 refine a0f (fun i st=>st.sl 1=i64 m∧st.sl 7=i64 n∧st.sl 8=i64 (i:Int)∧st.sl 5= .ref 8192 (st.gn 8192) [] 0 i∧st.ro 8192 (st.gn 8192)=some (.row (rws (fun _=> .row (List.replicate m (i64 0))) i))) n ?_ ?_ ?_
 ·simp only[↓za, ↓reduceIte,Nat.reduceEqDiff,zb,s1,a1v]
  rfl
 ·rintro i sl ro gn hi ⟨s1,s7,s8,s5,r5⟩
  dsimp only at s1 s7 s8 s5 r5
  have hi':(i:Int)<n:=by omega
  have hi2:i+1≤4294967296:=by omega
  simp(maxSteps:=10000000) (disch:=first|omega|assumption) only[go_sem,ti2,ti3,a6O,a4D,s1,s7,s8,s5,r5,hi',hi2,b0i,Int.natCast_nonneg,Int.le_refl,Int.toNat_natCast,hm',List.length_replicate,List.getD_cons_zero]
  exact a0w (by omega)
 ·rintro sl ro gn ⟨s1,s7,s8,s5,r5⟩
  dsimp only at s1 s7 s8 s5 r5
  have hi': ¬(n:Int)<n:=by omega
  simp only[go_sem,ti3,s7,s8,s5,hi']
  exact Yen
def apl(A:List (List Int))(v:List Int):List Int:=rws (fun i=>sm (fun j=>atI (row A i) j*atI v j) (row A i).length % 55441) A.length
set_option maxRecDepth 1000000 in
theorem c121{a b:AV}{A:List (List Int)}{v:List Int}(ha:a2t a A)(hb:isL b v)(hA:A.length≤a0G)(hA2: ∀i,i<A.length→(row A i).length≤a0G)(hl: ∀i,i<A.length→(row A i).length≤v.length)(nA:a7u A)(nv:a2s v):a0d Tryz.prog 163 [a,b] (a0H (apl A v)):=by
 have e0:a0H (apl A v)= .row (rws (fun i=>i64 (sm (fun j=>atI (row A i) j*atI v j) (row A i).length % 55441)) A.length):=by simp only[a0H,apl,a0y]
 refine a0e (fn:=Tryz.f163) (code:=a0b Tryz.f163) Tryz.func163 rfl (by kernel_rfl) (a1b _) ?_
 rw[e0]
 intro sl hs
 have s0:sl 0=a:=hs 0
 have s1:sl 1=b:=hs 1
 have hA':A.length≤4294967296:=hA
 simp only[Tryz.f163,a0b,Option.getD,go_sem,ti2,a6O,a4D,s0,a0R ha]
 refine a0f (fun i st=>st.sl 1=b∧st.sl 9=a∧st.sl 10=i64 (A.length:Int)∧st.sl 11=i64 (i:Int)∧st.sl 5= .ref 8192 (st.gn 8192) [] 0 i∧st.ro 8192 (st.gn 8192)=some (.row (rws (fun i=>i64 (sm (fun j=>atI (row A i) j*atI v j) (row A i).length % 55441)) i))) A.length ?_ ?_ ?_
 ·simp only[↓za, ↓reduceIte,Nat.reduceEqDiff,zb,s1,a1v]
  rfl
 ·rintro i sl ro gn hi ⟨s1,s9,s10,s11,s5,r5⟩
  dsimp only at s1 s9 s10 s11 s5 r5
  have hi':(i:Int)<A.length:=by omega
  have hi2:i+1≤4294967296:=by omega
  have h1:=a0m ha hi
  simp only[go_sem,ti3,a6O,a4D,s1,s9,s10,s11,s5,hi',a0S ha hi]
  refine a0c _ (c3M h1 hb (hA2 i hi) (hl i hi) (nA i) nv) (by simp only[a0Q,a1J h1,a1J hb,Bool.and_self]) rfl rfl ?_
  simp(maxSteps:=10000000) (disch:=first|omega|assumption) only[go_sem,ti2,ti3,a4D,s1,s9,s10,s11,r5,hi2]
  exact a0w (by omega)
 ·rintro sl ro gn ⟨s1,s9,s10,s11,s5,r5⟩
  dsimp only at s1 s9 s10 s11 s5 r5
  have hi': ¬(A.length:Int)<A.length:=by omega
  simp only[go_sem,ti3,s10,s11,s5,hi']
  exact Yen
def trp(A:List (List Int)):List (List Int):=rws (fun j=>rws (fun i=>atI (row A i) j) A.length) (row A 0).length
set_option maxRecDepth 1000000 in
set_option maxHeartbeats 10000000 in
theorem c120{a:AV}{A:List (List Int)}(ha:a2t a A)(h0:0<A.length)(hA:A.length≤a0G)(hA2:(row A 0).length≤a0G)(hl: ∀i,i<A.length→(row A i).length=(row A 0).length):a0d Tryz.prog 162 [a] (a0I (trp A)):=by
 have e0:a0I (trp A)= .row (rws (fun r=> .row (rws (fun c=>i64 (if c<A.length∨(c=A.length∧r<0)then atI (row A c) r else 0)) A.length)) (row A 0).length):=by
  simp only[a0I,a0H,trp,a0y]
  congr 1
  refine a0g fun r hr=>?_
  congr 1
  refine a0g fun c hc=>?_
  rw[if_pos (.inl hc)]
 refine a0e (fn:=Tryz.f162) (code:=a0b Tryz.f162) Tryz.func162 rfl (by kernel_rfl) (a2m _) ?_
 rw[e0]
 intro sl hs
 have s0:sl 0=a:=hs 0
 have hA':A.length≤4294967296:=hA
 have hA2':(row A 0).length≤4294967296:=hA2
 have h1:=a0m ha h0
 simp only[Tryz.f162,a0b,Option.getD,go_sem,a6O,a4D,s0,a0R ha,a6c ha h0,a0B h1]
 refine a0c _ (c4r hA2 hA) rfl rfl rfl ?_
 simp only[go_sem,a6O,s0,a0R ha,a0i,List.length_map]
 refine a0f (fun i st=>st.sl 15=a∧st.sl 16=i64 (A.length:Int)∧st.sl 17=i64 (i:Int)∧st.sl 3= .ref 8288 (st.gn 8288) [] 0 (row A 0).length∧
  st.ro 8288 (st.gn 8288)=some (.row (rws (fun r=> .row (rws (fun c=>i64 (if c<i∨(c=i∧r<0)then atI (row A c) r else 0)) A.length)) (row A 0).length))) A.length ?_ ?_ ?_
 ·refine Ygg ?_
  simp only[a0H,a0y,Nat.not_lt_zero,and_false,or_self,if_false]
  exact⟨rfl,trivial⟩
 ·rintro i sl ro gn hi ⟨s15,s16,s17,s3,r3⟩
  dsimp only at s15 s16 s17 s3 r3
  have hi':(i:Int)<A.length:=by omega
  have hi2:i+1≤4294967296:=by omega
  have h2:=a0m ha hi
  have hli:=hl i hi
  simp only[go_sem,ti3,a6O,a4D,s15,s16,s17,hi',a0S ha hi,a0B h2,hli]
  refine a0f (fun j st=>st.sl 15=a∧st.sl 16=i64 (A.length:Int)∧st.sl 17=i64 (i:Int)∧st.sl 4=i64 (i:Int)∧st.sl 3= .ref 8288 (st.gn 8288) [] 0 (row A 0).length∧st.sl 22=atA a i∧st.sl 23=i64 ((row A 0).length:Int)∧st.sl 24=i64 (j:Int)∧
   st.ro 8288 (st.gn 8288)=some (.row (rws (fun r=> .row (rws (fun c=>i64 (if c<i∨(c=i∧r<j)then atI (row A c) r else 0)) A.length)) (row A 0).length))) (row A 0).length ?_ ?_ ?_
  ·simp only[↓za, ↓reduceIte,Nat.reduceEqDiff,zb,s15,s16,s17,s3,r3]
   rfl
  ·rintro j sl ro gn hj ⟨s15,s16,s17,s4,s3,s22,s23,s24,r3⟩
   dsimp only at s15 s16 s17 s4 s3 s22 s23 s24 r3
   have hj':(j:Int)<(row A 0).length:=by omega
   have hg:=a0l (fun r=>AV.row (rws (fun c=>i64 (if c<i∨(c=i∧r<j)then atI (row A c) r else 0)) A.length)) (row A 0).length j hj
   have hii:i+1≤A.length:=hi
   simp(disch:=first|omega|assumption) only[go_sem,ti2,ti3,a6O,a4D,s15,s16,s17,s4,s3,s22,s23,s24,r3,hj',hj,hi,hii,a0s h2 (hli.symm▸hj),hg,b5y,b2f,b1H,b3W hg,b8q,b4D hg,zfp]
   refine⟨a0w (by omega),congrArg (fun x=>some (AV.row x)) ?_⟩
   rw[a0X,a0X]
   refine a0g fun r hr=>?_
   by_cases hrj:r=j
   ·subst hrj
    rw[if_pos rfl]
    refine congrArg AV.row (a0g fun c hc=>?_)
    by_cases hci:c=i
    ·subst hci
     rw[if_pos rfl,if_pos (.inr ⟨rfl,by omega⟩)]
    ·rw[if_neg hci]
     have e:(c<i∨c=i∧r<r)↔(c<i∨c=i∧r<r+1):=by omega
     simp only[e]
   ·rw[if_neg hrj]
    refine congrArg AV.row (a0g fun c hc=>?_)
    have e:(c<i∨c=i∧r<j)↔(c<i∨c=i∧r<j+1):=by omega
    simp only[e]
  ·rintro sl ro gn ⟨s15,s16,s17,s4,s3,s22,s23,s24,r3⟩
   dsimp only at s15 s16 s17 s4 s3 s22 s23 s24 r3
   have hj': ¬((row A 0).length:Int)<(row A 0).length:=by omega
   simp(disch:=first|omega|assumption) only[go_sem,ti3,s15,s16,s17,s3,s23,s24,r3,hj']
   refine⟨a0w (by omega),congrArg (fun x=>some (AV.row x)) (a0g fun r hr=>congrArg AV.row (a0g fun c hc=>?_))⟩
   have e:(c<i∨c=i∧r<(row A 0).length)↔(c<i+1∨c=i+1∧r<0):=by omega
   simp only[e]
 ·rintro sl ro gn ⟨s15,s16,s17,s3,r3⟩
  dsimp only at s15 s16 s17 s3 r3
  have hi': ¬(A.length:Int)<A.length:=by omega
  simp only[go_sem,ti3,s16,s17,s3,hi']
  exact Yeo
def mul(A B:List (List Int)):List (List Int):=rws (fun i=>apl (trp B) (row A i)) A.length
theorem a1A(f:Nat→List Int){n k:Nat}(h:k<n):row (rws f n) k=f k:=by
 unfold row;rw[List.getD_eq_getElem?_getD,a0l f n k h];rfl
theorem a0P(f:Nat→Int){n k:Nat}(h:k<n):atI (rws f n) k=f k:=by
 unfold atI;rw[List.getD_eq_getElem?_getD,a0l f n k h];rfl
theorem b0l{A:List (List Int)}{k:Nat}(h:A.length≤k):row A k=[]:=by
 unfold row;rw[List.getD_eq_getElem?_getD,List.getElem?_eq_none h];rfl
theorem a2c{xs:List Int}{k:Nat}(h:xs.length≤k):atI xs k=0:=by
 unfold atI;rw[List.getD_eq_getElem?_getD,List.getElem?_eq_none h];rfl
theorem a1T(f:Nat→Int)(n:Nat)(h: ∀i,i<n→num (f i)):a2s (rws f n):=by
 intro j
 rcases Nat.lt_or_ge j n with hj|hj
 ·rw[a0P f hj];exact h j hj
 ·rw[a2c (by rw[zfe];exact hj)];exact⟨by decide,by decide⟩
theorem b4l(f:Nat→List Int)(n:Nat)(h: ∀i,i<n→a2s (f i)):a7u (rws f n):=by
 intro j
 rcases Nat.lt_or_ge j n with hj|hj
 ·rw[a1A f hj];exact h j hj
 ·rw[b0l (by rw[zfe];exact hj)];intro i;rw[a2c (Nat.zero_le _)];exact⟨by decide,by decide⟩
theorem b4N{A:List (List Int)}(h:a7u A):a7u (trp A):=b4l _ _ fun j _=>a1T _ _ fun i _=>h i j
theorem a7v(A:List (List Int)):(trp A).length=(row A 0).length:=zfe _ _
theorem b0D{A:List (List Int)}{j:Nat}(hj:j<(row A 0).length):row (trp A) j=rws (fun i=>atI (row A i) j) A.length:=a1A _ hj
theorem c2Z{A B:List (List Int)}(h: ∀i,i<B.length→(row B i).length=B.length)(hB:0<B.length):mul A B=tms A B:=by
 have h0:=h 0 hB
 unfold mul tms
 refine a0g fun i hi=>?_
 unfold apl
 rw[a7v,h0]
 refine a0g fun j hj=>?_
 have hj2:j<(row B 0).length:=by omega
 rw[b0D hj2,zfe]
 unfold tmE
 refine congrArg (· % 55441) (a0k fun k hk=>?_)
 rw[a0P _ hk,Int.mul_comm]
theorem b4m{a:AV}{xs:List Int}(ro:Ro)(h:isL a xs):ex ro 8 a=a:=b4Z ro 6 h
set_option maxRecDepth 1000000 in
theorem c92{a b:AV}{A B:List (List Int)}(ha:a2t a A)(hb:a2t b B)(h0:0<B.length)(hA:A.length≤a0G)(hB:B.length≤a0G)(hl: ∀i,i<B.length→(row B i).length=B.length)(lA: ∀i,i<A.length→B.length≤(row A i).length)(nA:a7u A)(nB:a7u B):a0d Tryz.prog 142 [a,b] (a0I (tms A B)):=by
 rw[←c2Z hl h0]
 have e0:a0I (mul A B)= .row (rws (fun i=>a0H (apl (trp B) (row A i))) A.length):=by simp only[a0I,mul,a0y]
 refine a0e (fn:=Tryz.f142) (code:=a0b Tryz.f142) Tryz.func142 rfl (by kernel_rfl) (a2m _) ?_
 rw[e0]
 intro sl hs
 have s0:sl 0=a:=hs 0
 have s1:sl 1=b:=hs 1
 have hA':A.length≤4294967296:=hA
 have hB0:=hl 0 h0
 simp only[Tryz.f142,a0b,Option.getD,go_sem,s1]
 refine a0c _ (c120 hb h0 hB (by omega) (fun i hi=>by rw[hl i hi,hB0])) (by simp only[a0Q,a3m hb,Bool.and_self]) rfl rfl ?_
 simp only[go_sem,a6O,a4D,s0,a0R ha,a0i,List.length_map]
 refine a0f (fun i st=>st.sl 12=a∧st.sl 13=i64 (A.length:Int)∧st.sl 14=i64 (i:Int)∧st.sl 5= .ref 8208 1 [] 0 (trp B).length∧st.ro 8208 1=some (a0I (trp B))∧
  st.sl 6= .ref 12288 (st.gn 12288) [] 0 i∧st.ro 12288 (st.gn 12288)=some (.row (rws (fun i=>a0H (apl (trp B) (row A i))) i))) A.length ?_ ?_ ?_
 ·simp only[↓za, ↓reduceIte,Nat.reduceEqDiff,zb,a1v]
  rfl
 ·rintro i sl ro gn hi ⟨s12,s13,s14,s5,r5,s6,r6⟩
  dsimp only at s12 s13 s14 s5 r5 s6 r6
  have hi':(i:Int)<A.length:=by omega
  have hi2:i+1≤4294967296:=by omega
  have h1:=a0m ha hi
  simp only[go_sem,ti3,a6O,a4D,s12,s13,s14,s5,s6,hi',a0S ha hi]
  have hax:a3g ro [.ref 8208 1 [] 0 (trp B).length,atA a i]=[a2x (trp B),atA a i]:=by
   have hp:a0Q [.ref 8208 1 [] 0 (trp B).length,atA a i]=false:=rfl
   unfold a3g
   rw[hp,if_neg Bool.false_ne_true]
   show [ex ro 8 _,ex ro 8 _]=_
   rw[b1c r5 5,b4m ro h1]
  refine a7Q _ (c121 (a1d (trp B)) h1 (by rw[a7v];omega) (fun j hj=>by rw[a7v]at hj;rw[b0D hj,zfe];exact hB) (fun j hj=>by rw[a7v]at hj;rw[b0D hj,zfe];exact lA i hi) (b4N nB) (nA i)) hax rfl rfl (a1j _) ?_
  ·simp(maxSteps:=10000000) (disch:=first|omega|assumption) only[go_sem,ti3,a6O,a4D,s12,s13,s14,s5,r5,r6,hi2,a0i,List.length_map]
   exact a0w (by omega)
 ·rintro sl ro gn ⟨s12,s13,s14,s5,r5,s6,r6⟩
  dsimp only at s12 s13 s14 s5 r5 s6 r6
  have hi': ¬(A.length:Int)<A.length:=by omega
  simp only[go_sem,ti3,s13,s14,s6,hi']
  simp only[zr,a1Z,a1H,a2g,zes,zhk, ↓za, ↓reduceIte,r6]
theorem a3i:ti0 24=some ⟨1,false,[Value.slice none 0 0],some 28,[],none,false,false,none,none⟩:=by kernel_rfl
theorem a1l:ti0 26=some ⟨1,true,[Value.slice none 0 0],none,[(0,24)],none,false,false,none,none⟩:=by kernel_rfl
theorem ti77:ti0 75=some ⟨1,false,[Value.slice none 0 0],some 3,[],none,false,false,none,none⟩:=by kernel_rfl
def ixp(p:Int→Bool):List Int→Nat→Int
 | [],_=> -1
 |x::xs,k=>if p x then k else ixp p xs (k+1)
theorem a7z{p:Int→Bool}: ∀ {xs:List Int} {k:Nat} (b:Nat),k<xs.length→p (atI xs k)=true→(∀j,j<k→p (atI xs j)=false)→ixp p xs b=(b+k:Nat)
 |x::xs,0,b,_,h,_=>by simp[atI]at h;simp[ixp,h]
 |x::xs,k+1,b,hk,h,hn=>by
  have h0:p x=false:=by simpa [atI]using hn 0 (by omega)
  have:=a7z (xs:=xs) (k:=k) (b+1) (by simpa using hk) (by simpa [atI]using h) (fun j hj=>by simpa [atI]using hn (j+1) (by omega))
  simp only[ixp,h0,Bool.false_eq_true,if_false,this];omega
 | [],_,_,hk,_,_=>by simp at hk
theorem a7M{p:Int→Bool}: ∀ {xs:List Int} (b:Nat),(∀j,j<xs.length→p (atI xs j)=false)→ixp p xs b= -1
 | [],_,_=>rfl
 |x::xs,b,hn=>by
  have h0:p x=false:=by simpa [atI]using hn 0 (by simp)
  simp only[ixp,h0,Bool.false_eq_true,if_false]
  exact a7M (b+1) fun j hj=>by simpa [atI]using hn (j+1) (by simpa using hj)
set_option maxRecDepth 1000000 in
theorem c93{a:AV}{xs:List Int}{g:Nat}{caps:List AV}{p:Int→Bool}(ha:isL a xs)(hx:xs.length≤a0G)(hi:XX.isIn g=false)(hcp:a0Q caps=true)(hc: ∀x,a0d Tryz.prog g (i64 x::caps) (bo (p x))):a0d Tryz.prog 151 [a,.fn g caps] (i64 (ixp p xs 0)):=by
 refine a0e (fn:=Tryz.f151) (code:=a0b Tryz.f151) Tryz.func151 rfl (by kernel_rfl) rfl ?_
 intro sl hs
 have s0:sl 0=a:=hs 0
 have s1:sl 1= .fn g caps:=hs 1
 have hx':xs.length≤4294967296:=hx
 simp only[Tryz.f151,a0b,Option.getD,go_sem,a4D,s0,a0B ha]
 refine a0f (fun k st=>st.sl 0=a∧st.sl 1= .fn g caps∧st.sl 7=i64 (xs.length:Int)∧st.sl 8=i64 (k:Int)∧ ∀j,j<k→p (atI xs j)=false) xs.length ?_ ?_ ?_
 ·refine Yds ?_
  exact⟨rfl,fun j hj=>absurd hj (Nat.not_lt_zero _)⟩
 ·rintro k sl ro gn hk ⟨s0,s1,s7,s8,hp⟩
  dsimp only at s0 s1 s7 s8
  have hk':(k:Int)<xs.length:=by omega
  simp only[go_sem,ti2,ti3,a4D,s0,s1,s7,s8,a0s ha hk,hk']
  refine a0c _ (hc (atI xs k)) (by simp only[a0Q,a0W,hcp,Bool.and_self]) hi rfl ?_
  cases hpx:p (atI xs k)with
  |true=>
   simp only[go_sem]
   refine Yab ?_
   have:=a7z 0 hk hpx hp
   rw[this];omega
  |false=>
   simp(disch:=first|omega|assumption) only[go_sem,ti3,s0,s1,s7,s8]
   refine⟨a0w (by omega),fun j hj=>?_⟩
   rcases Nat.lt_or_ge j k with h|h
   ·exact hp j h
   ·have:j=k:=by omega
    subst this;exact hpx
 ·rintro sl ro gn ⟨s0,s1,s7,s8,hp⟩
  dsimp only at s0 s1 s7 s8
  have hk': ¬(xs.length:Int)<xs.length:=by omega
  simp only[go_sem,ti3,s7,s8,hk']
  refine Yab ?_
  rw[a7M 0 hp]
set_option maxRecDepth 1000000 in
theorem c95{a:AV}{xs:List Int}{g:Nat}{caps:List AV}{p:Int→Bool}(ha:isL a xs)(hx:xs.length≤a0G)(hi:XX.isIn g=false)(hcp:a0Q caps=true)(hc: ∀x,a0d Tryz.prog g (i64 x::caps) (bo (p x))):a0d Tryz.prog 127 [a,.fn g caps] (bo (decide (0≤ixp p xs 0))):=by
 refine a0e (fn:=Tryz.f127) (code:=a0b Tryz.f127) Tryz.func127 rfl (by kernel_rfl) rfl ?_
 intro sl hs
 have s0:sl 0=a:=hs 0
 have s1:sl 1= .fn g caps:=hs 1
 simp only[Tryz.f127,a0b,Option.getD,go_sem,s0,s1]
 refine a0c _ (c93 ha hx hi hcp hc) (by simp only[a0Q,a1J ha,a0W,hcp,Bool.and_self]) rfl rfl ?_
 simp only[go_sem,ti3]
 exact Ybj
theorem b3j{ro:Ro}{s g:Nat}{p:List Nat}{off n:Nat}{a1:Nat}{a2:Bool}{a3:List Value}{e:Nat}{a5:List (Nat×Nat)}{a6:Option IntKind}{a7 a8:Bool}{a9 a10:Option (Nat×Nat)}:a5J (some ⟨a1,a2,a3,some e,a5,a6,a7,a8,a9,a10⟩) ro (.ref s g p off n) (.sc (.int .i64 0))=if 0<n∧(ro.cells s g p).isSome=true then some ⟨.ptr s g p off,none,[],[]⟩else none:=zen (k:=0)
theorem b7z(xs:List Int)(n:Int):ix xs n 0= -1∨ ∃m:Nat,ix xs n 0=m∧m<xs.length∧atI xs m=n:=by
 by_cases h: ∃m:Nat,m<xs.length∧atI xs m=n
 ·right
  have: ∃m:Nat,m<xs.length∧atI xs m=n∧ ∀j,j<m→atI xs j≠n:=by
   obtain⟨m,h1,h2⟩:=h
   induction m using Nat.strongRecOn with
   |ind m ih=>
    by_cases h3: ∃j,j<m∧atI xs j=n
    ·obtain⟨j,h4,h5⟩:=h3;exact ih j h4 (by omega) h5
    ·exact⟨m,h1,h2,fun j hj he=>h3 ⟨j,hj,he⟩⟩
  obtain⟨m,h1,h2,h3⟩:=this
  exact⟨m,by rw[b0t 0 h1 h2 h3];omega,h1,h2⟩
 ·left
  exact a9J 0 fun j hj he=>h ⟨j,hj,he⟩
theorem b8T(f:Nat→Int)(n:Nat)(x:Int):(0≤ix (rws f n) x 0)↔ ∃j,j<n∧f j=x:=by
 rcases b7z (rws f n) x with h|⟨m,h,h1,h2⟩
 ·rw[h]
  refine⟨fun h=>absurd h (by decide),?_⟩
  rintro⟨j,hj,he⟩
  have: ∀(xs:List Int) (n:Int) (k b:Nat),k<xs.length→atI xs k=n→0≤ix xs n b:=by
   intro xs n k
   induction xs generalizing k with
   |nil=>intro b hk;simp at hk
   |cons y ys ih=>
    intro b hk he
    simp only[ix]
    split
    ·omega
    ·cases k with
     |zero=>rename_i hne;exact absurd (by simpa [atI]using he) hne
     |succ k=>exact ih k (b+1) (by simpa using hk) (by simpa [atI]using he)
  have:=this (rws f n) x j 0 (by rw[zfe];exact hj) (by rw[a0P f hj];exact he)
  omega
 ·rw[h]
  rw[zfe]at h1
  rw[a0P f h1]at h2
  exact⟨fun _=>⟨m,h1,h2⟩,fun _=>by omega⟩
section
variable (S:List (List Int))(T:List Int)
def cjA(i:Nat):Int:=ix (row (tms S S) i) (whl S T.length) 0
def cjOk(i:Nat):Prop:=(∀k,k<T.length→(k:Int)≠cjA S T i→atI (row (tms S S) i) k=0)∧0≤cjA S T i∧(∀j,j<i→cjA S T j≠cjA S T i)∧atI T (cjA S T i).toNat=atI T i
def CjP:Prop:=(∀i,i<T.length→cjOk S T i)∧cjA S T 0=0
def cjL:List Int:=rws (cjA S T) T.length
end
structure Shp(S:List (List Int))(T:List Int):Prop where
 pos:0<T.length
 max:T.length≤a0G
 lS:S.length=T.length
 lR: ∀i,i<T.length→(row S i).length=T.length
 nS:a7u S
 nT:a2s T
theorem b0x(A B:List (List Int)):(tms A B).length=A.length:=zfe _ _
def nz(x:Int):Bool:=decide (x≠0)
theorem b4E(p:Int→Bool)(xs:List Int):(ixp p xs 0= -1∧ ∀j,j<xs.length→p (atI xs j)=false)∨ ∃m:Nat,ixp p xs 0=m∧m<xs.length∧p (atI xs m)=true∧ ∀j,j<m→p (atI xs j)=false:=by
 by_cases h: ∃m:Nat,m<xs.length∧p (atI xs m)=true
 ·right
  have: ∃m:Nat,m<xs.length∧p (atI xs m)=true∧ ∀j,j<m→p (atI xs j)=false:=by
   obtain⟨m,h1,h2⟩:=h
   induction m using Nat.strongRecOn with
   |ind m ih=>
    by_cases h3: ∃j,j<m∧p (atI xs j)=true
    ·obtain⟨j,h4,h5⟩:=h3;exact ih j h4 (by omega) h5
    ·refine⟨m,h1,h2,fun j hj=>?_⟩
     cases he:p (atI xs j)with
     |false=>rfl
     |true=>exact absurd ⟨j,hj,he⟩ h3
  obtain⟨m,h1,h2,h3⟩:=this
  exact⟨m,by rw[a7z 0 h1 h2 h3];omega,h1,h2,h3⟩
 ·left
  have h': ∀j,j<xs.length→p (atI xs j)=false:=fun j hj=>by
   cases he:p (atI xs j)with
   |false=>rfl
   |true=>exact absurd ⟨j,hj,he⟩ h
  exact⟨a7M 0 h',h'⟩
theorem c0M{p:Int→Bool}{xs:List Int}:0≤ixp p xs 0↔ ∃m,m<xs.length∧p (atI xs m)=true:=by
 rcases b4E p xs with⟨h,h2⟩|⟨m,h,h1,h2,h3⟩
 ·rw[h]
  refine⟨fun h=>absurd h (by decide),?_⟩
  rintro⟨m,h3,h4⟩;rw[h2 m h3]at h4;cases h4
 ·rw[h];exact⟨fun _=>⟨m,h1,h2⟩,fun _=>by omega⟩
section
variable (S:List (List Int))(T:List Int)
def djA(i:Nat):Int:=ixp nz (row (tms S S) i) 0
def djOk(i:Nat):Prop:=0≤djA S i∧atI (row (tms S S) i) (djA S i).toNat=whl S T.length∧(∀k,k<T.length→djA S i<k→atI (row (tms S S) i) k=0)∧(∀j,j<i→djA S j≠djA S i)∧
 atI T (djA S i).toNat=atI T i∧((i:Int)=0↔djA S i=0)
end
end Go.Proofs.YtbakhfiibjkifaaGreat
