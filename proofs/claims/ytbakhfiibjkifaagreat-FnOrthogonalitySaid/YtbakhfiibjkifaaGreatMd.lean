/- Texts joined: K1 K2 K3 K3b K4a K4 K5 K6 K7 D1 D2 D3 D4 D5 D6. -/
import Derived.Test.YtbakhfiibjkifaaGreatProg
import Derived.Test.YtbakhfiibjkifaaGreatChecked
import Derived.Test.YtbakhfiibjkifaaGreatMc
set_option linter.all false
/- Powers: impl.power and spec.l01Pow. -/
namespace Go.Proofs.YtbakhfiibjkifaaGreat
open Go.RowKit
noncomputable abbrev ti0:Nat→Option TI:=tiG Tryz.prog
theorem ti2:ti0 2=some ⟨1,false,[Value.int .i64 0],none,[],some .i64,false,false,none,none⟩:=by kernel_rfl
theorem sq_pow(a:Int): ∀m:Nat,(a*a % 55441) ^ m % 55441=(a*a) ^ m % 55441:=by
 intro m;induction m with
 |zero=>simp
 |succ m ih=>rw[Int.pow_succ,Int.pow_succ,Int.mul_emod,ih,Int.emod_emod_of_dvd _ (by decide:(55441:Int)∣55441), ←Int.mul_emod]
theorem sq_two(a:Int)(m:Nat):(a*a) ^ m=a ^ (2*m):=by
 rw[Int.pow_mul,show a ^ 2=a*a by rw[Int.pow_succ,Int.pow_succ];simp]
theorem pow_step(p a:Int)(m:Nat):(p*a % 55441)*(a*a % 55441) ^ m % 55441=p*a ^ (2*m+1) % 55441:=by
 rw[Int.mul_emod,Int.emod_emod_of_dvd _ (by decide:(55441:Int)∣55441),sq_pow, ←Int.mul_emod,Int.mul_assoc,sq_two,Int.pow_succ,Int.mul_comm a]
theorem pow_step'(p a:Int)(m:Nat):p*(a*a % 55441) ^ m % 55441=p*a ^ (2*m) % 55441:=by
 rw[Int.mul_emod,sq_pow, ←Int.mul_emod,sq_two]
theorem bnd{a b:Int}(h1:0≤a)(h2:a<55441)(h3:0≤b)(h4:b<55441):0≤a*b∧a*b≤55440*55440:=by
 refine⟨Int.mul_nonneg h1 h3,?_⟩
 exact Int.mul_le_mul (by omega) (by omega) h3 (by omega)
noncomputable def B77:Code:=cAt [1,1,0,0,0] (bodyOf Tryz.f99)
noncomputable def P77a:Code:=cAt [0] (bodyOf Tryz.f99)
noncomputable def P77b:Code:=cAt [1,0] (bodyOf Tryz.f99)
noncomputable def P77c:Code:=cAt [1,1,1] (bodyOf Tryz.f99)
theorem body77:Tryz.f99.body=some (.seq P77a (.seq P77b (.seq (.block 0 (.loop B77)) P77c))):=by rfl
variable{E:EC}{l:List AV}{hp:List (Nat×Nat×AV)}{gn:List (Nat×Nat)}
theorem r77_out{k:Int}(s1:slAt l 1=i64 k)(hc:ltI 0 k=false): ∃l',evC E ti0 B77 ⟨l,hp,gn⟩=some (.exit 0,⟨l',hp,gn⟩)∧slAt l' 5=slAt l 5:=by
 generalize hE:evC E ti0 B77 ⟨l,hp,gn⟩=X
 simp only[B77,Tryz.f99,bodyOf,cAt,Option.getD,evC,evOps,inF,zbl,opE,opK,kMove,kBin,zcn,zco,kInt,HS.st,St.ev,zcs,HS.eff,HS.put,dlH,wrOH,alH,ti2,hc,slAt_slPut,Nat.reduceEqDiff,reduceIte,s1]at hE
 subst hE
 exact⟨_,rfl,by simp only[slAt_slPut,Nat.reduceEqDiff,reduceIte]⟩
theorem r77{a k p:Int}(s0:slAt l 0=i64 a)(s1:slAt l 1=i64 k)(s5:slAt l 5=i64 p)(h1:0≤a)(h2:a<55441)(h3:0≤p)(h4:p<55441)(h5:0<k)(h7:k<2^63):
   ∃l',evC E ti0 B77 ⟨l,hp,gn⟩=some (.normal,⟨l',hp,gn⟩)∧slAt l' 0=i64 (a*a % 55441)∧slAt l' 1=i64 (k / 2)∧slAt l' 5=i64 (if k % 2=1 then p*a % 55441 else p):=by
 have hc:ltI 0 k=true:=ltI_true h5
 have hq:wrF (k.tdiv 2)=k / 2:=by rw[Int.tdiv_eq_ediv_of_nonneg (by omega)];exact zfu (by omega) (by omega)
 have ha:wrF (Int.mul a a)=a*a:=by have:=bnd h1 h2 h1 h2;exact zfu (show _≤a*a by omega) (show a*a≤_ by omega)
 have hpa:wrF (Int.mul p a)=p*a:=by have:=bnd h3 h4 h1 h2;exact zfu (show _≤p*a by omega) (show p*a≤_ by omega)
 have hz2:isZ 2=false:=rfl
 have hzp:isZ 55441=false:=rfl
 have hra:(a*a).tmod 55441=a*a % 55441:=Int.tmod_eq_emod_of_nonneg (bnd h1 h2 h1 h2).1
 have hrp:(p*a).tmod 55441=p*a % 55441:=Int.tmod_eq_emod_of_nonneg (bnd h3 h4 h1 h2).1
 have hrk:k.tmod 2=k % 2:=Int.tmod_eq_emod_of_nonneg (by omega)
 generalize hE:evC E ti0 B77 ⟨l,hp,gn⟩=X
 by_cases hb:k % 2=1
 · have he:eqI (k % 2) 1=true:=eqI_true hb
   simp only[B77,Tryz.f99,bodyOf,cAt,Option.getD,evC,evOps,inF,zbl,opE,opK,kMove,kBin,zcn,zco,kInt,HS.st,St.ev,zcs,HS.eff,HS.put,dlH,wrOH,alH,ti2,hc,hz2,hzp,slAt_slPut,Nat.reduceEqDiff,reduceIte,s0,s1,s5,hq,ha,hpa,hra,hrp,hrk,he,cond_false]at hE
   subst hE
   exact⟨_,rfl,by simp only[slAt_slPut,Nat.reduceEqDiff,reduceIte],by simp only[slAt_slPut,Nat.reduceEqDiff,reduceIte],by simp only[slAt_slPut,Nat.reduceEqDiff,reduceIte,hb]⟩
 · have he:eqI (k % 2) 1=false:=eqI_false hb
   simp only[B77,Tryz.f99,bodyOf,cAt,Option.getD,evC,evOps,inF,zbl,opE,opK,kMove,kBin,zcn,zco,kInt,HS.st,St.ev,zcs,HS.eff,HS.put,dlH,wrOH,alH,ti2,hc,hz2,hzp,slAt_slPut,Nat.reduceEqDiff,reduceIte,s0,s1,s5,hq,ha,hra,hrk,he,cond_false]at hE
   subst hE
   exact⟨_,rfl,by simp only[slAt_slPut,Nat.reduceEqDiff,reduceIte],by simp only[slAt_slPut,Nat.reduceEqDiff,reduceIte],by simp only[slAt_slPut,Nat.reduceEqDiff,reduceIte,hb,s5]⟩
theorem l77: ∀(n:Nat) (a k p:Int) (l:List AV),slAt l 0=i64 a→slAt l 1=i64 k→slAt l 5=i64 p→0≤a→a<55441→0≤p→p<55441→0≤k→k<2 ^ n→k<2^63→
  ∃l',loopE (evC E ti0 B77) (n+1) ⟨l,hp,gn⟩=some (.exit 0,⟨l',hp,gn⟩)∧slAt l' 5=i64 (p*a ^ k.toNat % 55441):=by
 intro n
 induction n with
 |zero=>
   intro a k p l s0 s1 s5 h1 h2 h3 h4 h5 h6 h7
   have hk0:k=0:=by simp at h6;omega
   subst hk0
   obtain⟨l',e1,e2⟩:=r77_out (E:=E) (hp:=hp) (gn:=gn) s1 rfl
   refine⟨l',by simp only[loopE,e1],?_⟩
   rw[e2,s5];simp;rw[Int.emod_eq_of_lt h3 h4]
 |succ n ih=>
   intro a k p l s0 s1 s5 h1 h2 h3 h4 h5 h6 h7
   rcases Int.lt_or_le 0 k with hk|hk
   · obtain⟨l1,e1,e2,e3,e4⟩:=r77 (E:=E) (hp:=hp) (gn:=gn) s0 s1 s5 h1 h2 h3 h4 hk h7
     have hlt:k / 2<2 ^ n:=by rw[Int.pow_succ]at h6;omega
     have hp':0≤(if k % 2=1 then p*a % 55441 else p)∧(if k % 2=1 then p*a % 55441 else p)<55441:=by split<;>omega
     obtain⟨l',f1,f2⟩:=ih _ _ _ l1 e2 e3 e4 (by omega) (by omega) hp'.1 hp'.2 (by omega) hlt (by omega)
     refine⟨l',by rw[loopE,e1];exact f1,?_⟩
     rw[f2]
     by_cases hb:k % 2=1
     · rw[if_pos hb,pow_step,show k.toNat=2*(k / 2).toNat+1 by omega]
     · rw[if_neg hb,pow_step',show k.toNat=2*(k / 2).toNat by omega]
   · have hk0:k=0:=by omega
     subst hk0
     obtain⟨l',e1,e2⟩:=r77_out (E:=E) (hp:=hp) (gn:=gn) s1 rfl
     refine⟨l',by rw[loopE,e1],?_⟩
     rw[e2,s5];simp;rw[Int.emod_eq_of_lt h3 h4]
theorem f77_run{a k:Int}(h1:0≤a)(h2:a<55441)(h5:0≤k)(h7:k<2^63):bodyE Tryz.prog ti0 E 99 [i64 a,i64 k]=some (i64 (a ^ k.toNat % 55441)):=by
 obtain⟨l',e1,e2⟩:=l77 (E:=E) (hp:=[]) (gn:=[]) 63 a k 1 (slPut (slPut [i64 a,i64 k] 4 (i64 0)) 5 (i64 1)) rfl rfl rfl h1 h2 (by omega) (by omega) h5 h7 h7
 have e1:=loopE_fuel e1 (by decide)
 refine bodyE_run (h:=⟨slPut (slPut l' 21 (i64 (1*a ^ k.toNat % 55441))) 4 (i64 (1*a ^ k.toNat % 55441)),[],[]⟩) (e:= .ret) Tryz.func99 body77 (by kernel_rfl) ?_ (.inr rfl) ?_ rfl
 · simp only[P77a,P77b,P77c,cAt,bodyOf,Option.getD,evC,evOps,inF,zbl,opE,opK,kMove,HS.st,St.ev,zcs,HS.eff,HS.put,dlH,wrOH,alH,e1,slAt_slPut,Nat.reduceEqDiff,reduceIte,e2,eq_self,Tryz.f99]
 · simp only[Tryz.f99,retR,resL,HS.st,slAt_slPut,Nat.reduceEqDiff,reduceIte,outT,zhk,zes,zez,oneV,Int.one_mul]
noncomputable def B74:Code:=cAt [1,1,0,0,0] (bodyOf Tryz.f100)
noncomputable def P74a:Code:=cAt [0] (bodyOf Tryz.f100)
noncomputable def P74b:Code:=cAt [1,0] (bodyOf Tryz.f100)
noncomputable def P74c:Code:=cAt [1,1,1] (bodyOf Tryz.f100)
theorem body74:Tryz.f100.body=some (.seq P74a (.seq P74b (.seq (.block 0 (.loop B74)) P74c))):=by rfl
theorem r74_out{k:Int}(s1:slAt l 1=i64 k)(hc:ltI 0 k=false): ∃l',evC E ti0 B74 ⟨l,hp,gn⟩=some (.exit 0,⟨l',hp,gn⟩)∧slAt l' 5=slAt l 5:=by
 generalize hE:evC E ti0 B74 ⟨l,hp,gn⟩=X
 simp only[B74,Tryz.f100,bodyOf,cAt,Option.getD,evC,evOps,inF,zbl,opE,opK,kMove,kBin,zcn,zco,kInt,HS.st,St.ev,zcs,HS.eff,HS.put,dlH,wrOH,alH,ti2,hc,slAt_slPut,Nat.reduceEqDiff,reduceIte,s1]at hE
 subst hE
 exact⟨_,rfl,by simp only[slAt_slPut,Nat.reduceEqDiff,reduceIte]⟩
theorem r74{a k p:Int}(s0:slAt l 0=i64 a)(s1:slAt l 1=i64 k)(s5:slAt l 5=i64 p)(h1:0≤a)(h2:a<55441)(h3:0≤p)(h4:p<55441)(h5:0<k)(h7:k<2^63):
   ∃l',evC E ti0 B74 ⟨l,hp,gn⟩=some (.normal,⟨l',hp,gn⟩)∧slAt l' 0=i64 (a*a % 55441)∧slAt l' 1=i64 (k / 2)∧slAt l' 5=i64 (if k % 2=1 then p*a % 55441 else p):=by
 have hc:ltI 0 k=true:=ltI_true h5
 have hq:wrF (k.tdiv 2)=k / 2:=by rw[Int.tdiv_eq_ediv_of_nonneg (by omega)];exact zfu (by omega) (by omega)
 have ha:wrF (Int.mul a a)=a*a:=by have:=bnd h1 h2 h1 h2;exact zfu (show _≤a*a by omega) (show a*a≤_ by omega)
 have hpa:wrF (Int.mul p a)=p*a:=by have:=bnd h3 h4 h1 h2;exact zfu (show _≤p*a by omega) (show p*a≤_ by omega)
 have hz2:isZ 2=false:=rfl
 have hzp:isZ 55441=false:=rfl
 have hra:(a*a).tmod 55441=a*a % 55441:=Int.tmod_eq_emod_of_nonneg (bnd h1 h2 h1 h2).1
 have hrp:(p*a).tmod 55441=p*a % 55441:=Int.tmod_eq_emod_of_nonneg (bnd h3 h4 h1 h2).1
 have hrk:k.tmod 2=k % 2:=Int.tmod_eq_emod_of_nonneg (by omega)
 generalize hE:evC E ti0 B74 ⟨l,hp,gn⟩=X
 by_cases hb:k % 2=1
 · have he:eqI (k % 2) 1=true:=eqI_true hb
   simp only[B74,Tryz.f100,bodyOf,cAt,Option.getD,evC,evOps,inF,zbl,opE,opK,kMove,kBin,zcn,zco,kInt,HS.st,St.ev,zcs,HS.eff,HS.put,dlH,wrOH,alH,ti2,hc,hz2,hzp,slAt_slPut,Nat.reduceEqDiff,reduceIte,s0,s1,s5,hq,ha,hpa,hra,hrp,hrk,he,cond_false]at hE
   subst hE
   exact⟨_,rfl,by simp only[slAt_slPut,Nat.reduceEqDiff,reduceIte],by simp only[slAt_slPut,Nat.reduceEqDiff,reduceIte],by simp only[slAt_slPut,Nat.reduceEqDiff,reduceIte,hb]⟩
 · have he:eqI (k % 2) 1=false:=eqI_false hb
   simp only[B74,Tryz.f100,bodyOf,cAt,Option.getD,evC,evOps,inF,zbl,opE,opK,kMove,kBin,zcn,zco,kInt,HS.st,St.ev,zcs,HS.eff,HS.put,dlH,wrOH,alH,ti2,hc,hz2,hzp,slAt_slPut,Nat.reduceEqDiff,reduceIte,s0,s1,s5,hq,ha,hra,hrk,he,cond_false]at hE
   subst hE
   exact⟨_,rfl,by simp only[slAt_slPut,Nat.reduceEqDiff,reduceIte],by simp only[slAt_slPut,Nat.reduceEqDiff,reduceIte],by simp only[slAt_slPut,Nat.reduceEqDiff,reduceIte,hb,s5]⟩
theorem l74: ∀(n:Nat) (a k p:Int) (l:List AV),slAt l 0=i64 a→slAt l 1=i64 k→slAt l 5=i64 p→0≤a→a<55441→0≤p→p<55441→0≤k→k<2 ^ n→k<2^63→
  ∃l',loopE (evC E ti0 B74) (n+1) ⟨l,hp,gn⟩=some (.exit 0,⟨l',hp,gn⟩)∧slAt l' 5=i64 (p*a ^ k.toNat % 55441):=by
 intro n
 induction n with
 |zero=>
   intro a k p l s0 s1 s5 h1 h2 h3 h4 h5 h6 h7
   have hk0:k=0:=by simp at h6;omega
   subst hk0
   obtain⟨l',e1,e2⟩:=r74_out (E:=E) (hp:=hp) (gn:=gn) s1 rfl
   refine⟨l',by simp only[loopE,e1],?_⟩
   rw[e2,s5];simp;rw[Int.emod_eq_of_lt h3 h4]
 |succ n ih=>
   intro a k p l s0 s1 s5 h1 h2 h3 h4 h5 h6 h7
   rcases Int.lt_or_le 0 k with hk|hk
   · obtain⟨l1,e1,e2,e3,e4⟩:=r74 (E:=E) (hp:=hp) (gn:=gn) s0 s1 s5 h1 h2 h3 h4 hk h7
     have hlt:k / 2<2 ^ n:=by rw[Int.pow_succ]at h6;omega
     have hp':0≤(if k % 2=1 then p*a % 55441 else p)∧(if k % 2=1 then p*a % 55441 else p)<55441:=by split<;>omega
     obtain⟨l',f1,f2⟩:=ih _ _ _ l1 e2 e3 e4 (by omega) (by omega) hp'.1 hp'.2 (by omega) hlt (by omega)
     refine⟨l',by rw[loopE,e1];exact f1,?_⟩
     rw[f2]
     by_cases hb:k % 2=1
     · rw[if_pos hb,pow_step,show k.toNat=2*(k / 2).toNat+1 by omega]
     · rw[if_neg hb,pow_step',show k.toNat=2*(k / 2).toNat by omega]
   · have hk0:k=0:=by omega
     subst hk0
     obtain⟨l',e1,e2⟩:=r74_out (E:=E) (hp:=hp) (gn:=gn) s1 rfl
     refine⟨l',by rw[loopE,e1],?_⟩
     rw[e2,s5];simp;rw[Int.emod_eq_of_lt h3 h4]
theorem f74_run{a k:Int}(h1:0≤a)(h2:a<55441)(h5:0≤k)(h7:k<2^63):bodyE Tryz.prog ti0 E 100 [i64 a,i64 k]=some (i64 (a ^ k.toNat % 55441)):=by
 obtain⟨l',e1,e2⟩:=l74 (E:=E) (hp:=[]) (gn:=[]) 63 a k 1 (slPut (slPut [i64 a,i64 k] 4 (i64 0)) 5 (i64 1)) rfl rfl rfl h1 h2 (by omega) (by omega) h5 h7 h7
 have e1:=loopE_fuel e1 (by decide)
 refine bodyE_run (h:=⟨slPut (slPut l' 21 (i64 (1*a ^ k.toNat % 55441))) 4 (i64 (1*a ^ k.toNat % 55441)),[],[]⟩) (e:= .ret) Tryz.func100 body74 (by kernel_rfl) ?_ (.inr rfl) ?_ rfl
 · simp only[P74a,P74b,P74c,cAt,bodyOf,Option.getD,evC,evOps,inF,zbl,opE,opK,kMove,HS.st,St.ev,zcs,HS.eff,HS.put,dlH,wrOH,alH,e1,slAt_slPut,Nat.reduceEqDiff,reduceIte,e2,eq_self,Tryz.f100]
 · simp only[Tryz.f100,retR,resL,HS.st,slAt_slPut,Nat.reduceEqDiff,reduceIte,outT,zhk,zes,zez,oneV,Int.one_mul]
def pwK(a k:Int):Option AV:=match a,k with
 | .ofNat m,.ofNat n=>cond (Nat.blt m 55441&&Nat.blt n 9223372036854775808) (some (i64 (.ofNat (m ^ n % 55441)))) none
 |_,_=>none
theorem pwK_spec{a k:Int}{r:AV}(h:pwK a k=some r):0≤a∧a<55441∧0≤k∧k<2^63∧r=i64 (a ^ k.toNat % 55441):=by
 unfold pwK at h
 split at h
 · rename_i m n
   cases hc:(Nat.blt m 55441&&Nat.blt n 9223372036854775808)with
   |false=>rw[hc]at h;cases h
   |true=>
     rw[hc]at h
     simp only[cond_true,Option.some.injEq]at h
     simp only[Bool.and_eq_true,Nat.blt_eq]at hc
     simp only[Int.ofNat_eq_natCast]
     refine⟨by omega,by omega,by omega,by omega,?_⟩
     rw[←h]
     simp
 · cases h
theorem mixed0:Tryz.prog.follows .mixedOrders=true:=by kernel_rfl
theorem of_body{f:Nat}{args:List AV}{r:AV}(h:bodyE Tryz.prog ti0 E0 f args=some r):CallOK Tryz.prog f args r:=of_bodyG (tiG_ok _) mixed0 h
def KP(f:Nat)(args:List AV):Option AV:=cond (Nat.beq f 99||Nat.beq f 100) (match args with
 | [.sc (.int .i64 a),.sc (.int .i64 k)]=>pwK a k
 |_=>none) none
theorem KP_ok: ∀f args r,KP f args=some r→CallOK Tryz.prog f args r:=by
 intro f args r h
 unfold KP at h
 cases hc:(Nat.beq f 99||Nat.beq f 100)with
 |false=>rw[hc]at h;cases h
 |true=>
   rw[hc]at h
   simp only[cond_true]at h
   split at h
   · rename_i a k
     obtain⟨h1,h2,h3,h4,rfl⟩:=pwK_spec h
     simp only[Bool.or_eq_true]at hc
     rcases hc with hc|hc
     · have:=beq_iff.1 hc;subst this;exact of_body (f77_run h1 h2 h3 h4)
     · have:=beq_iff.1 hc;subst this;exact of_body (f74_run h1 h2 h3 h4)
   · cases h
end Go.Proofs.YtbakhfiibjkifaaGreat
/- The laws' comparing functions. -/
namespace Go.Proofs.YtbakhfiibjkifaaGreat
open Go.RowKit
noncomputable abbrev XX:WX:=⟨Tryz.prog,ti0,fun f=>Nat.beq f 144||Nat.beq f 90||Nat.beq f 93||Nat.beq f 123||Nat.beq f 48||Nat.beq f 68||Nat.beq f 43||Nat.beq f 12||Nat.beq f 106||Nat.beq f 155||Nat.beq f 139||Nat.beq f 116||Nat.beq f 141||Nat.beq f 85||Nat.beq f 94||Nat.beq f 42||Nat.beq f 55||Nat.beq f 96||Nat.beq f 126||Nat.beq f 69||Nat.beq f 13||Nat.beq f 7||Nat.beq f 19||Nat.beq f 21||Nat.beq f 31||Nat.beq f 38⟩
theorem call_of{f:Nat}{fn:Func}{code:Code}{args:List AV}{r:AV}(hf:Tryz.prog.funcs[f]?=some fn)(hb:fn.body=some code)
  (hok : (!(fn.name == "runtime.NumGoroutine") && dstOK fn.ntmps code && decide (args.length ≤ fn.ntmps)) = true) (hn : noRef r = true)
  (h: ∀sl:Nat→AV,(∀k,sl k=args.getD k (.sc undef))→WK XX code [] (RET ti0 fn.results.toList r) ⟨sl,fun _ _=>none,fun _=>0⟩):CallOK Tryz.prog f args r:=
 call_ofG _ (tiG_ok _) mixed0 hf hb hok hn h
theorem ti3:ti0 3=some ⟨1,false,[Value.int .i64 0],none,[],some .i64,false,false,none,none⟩:=by kernel_rfl
theorem ti4:ti0 4=some ⟨1,false,[Value.bool false],none,[],none,false,true,none,none⟩:=by kernel_rfl
theorem ti22:ti0 28=some ⟨1,false,[Value.slice none 0 0],some 37,[],none,false,false,none,none⟩:=by kernel_rfl
theorem ti23:ti0 37=some ⟨1,false,[Value.slice none 0 0],some 2,[],none,false,false,none,none⟩:=by kernel_rfl
theorem eq_of_atI{xs ys:List Int}(hl:xs.length=ys.length)(h: ∀j,j<xs.length→atI xs j=atI ys j):xs=ys:=by
 refine List.ext_getElem hl fun i h1 h2=>?_
 have:=h i h1
 simpa [atI,h1,h2]using this
theorem isLs_inj: ∀ {xs ys:List (List Int)},xs.length=ys.length→(∀j,j<xs.length→xs.getD j []=ys.getD j [])→xs=ys:=by
 intro xs ys hl h
 refine List.ext_getElem hl fun i h1 h2=>?_
 have:=h i h1
 simpa [h1,h2]using this
def iota(k:Int):Nat→List Int
 |0=>[]
 |n+1=>iota k n++ [k+n]
def sumN:List Nat→Nat
 | []=>0
 |n::ns=>n+sumN ns
def labs(k:Int):List Nat→List (List Int)
 | []=>[]
 |n::ns=>iota k n::labs (k+n) ns
theorem in_of{f:Nat}{fn:Func}{code:Code}{args:List AV}{r:AV}{ro ro':Ro}{gn gn':Nat→Nat}(hf:Tryz.prog.funcs[f]?=some fn)(hb:fn.body=some code)
  (hok : (!(fn.name == "runtime.NumGoroutine") && dstOK fn.ntmps code && decide (args.length ≤ fn.ntmps)) = true)
  (h: ∀sl:Nat→AV,(∀k,sl k=args.getD k (.sc undef))→WK XX code [] (RETI ti0 fn.results.toList r ro' gn') ⟨sl,ro,gn⟩):InOK Tryz.prog f args ro gn r ro' gn':=
 in_ofG _ (tiG_ok _) mixed0 hf hb hok h
structure Plc(s g:Nat)(p:List Nat)(W:List AV→AV):Prop where
 cells: ∀(ro:Ro) cs,ro s g=some (W cs)→ro.cells s g p=some cs
 notBx: ∀(ro:Ro) cs,ro s g=some (W cs)→isBxAt ro s g p=false
 put: ∀f cs,putR f p (W cs)=W (f cs)
theorem upr_upr(ro:Ro)(s g:Nat)(a b:AV):upr (upr ro s g a) s g b=upr ro s g b:=by
 funext s' g';simp only[zdb];split<;>rfl
theorem upr_id(ro:Ro)(s g:Nat)(a:AV)(h:ro s g=some a):upr ro s g a=ro:=by
 funext s' g';simp only[zdb];split
 ·rename_i h2;obtain⟨rfl,rfl⟩:=h2;exact h.symm
 ·rfl
theorem upr_same(ro:Ro)(s g:Nat)(a:AV):upr ro s g a s g=some a:=by simp[zdb]
def mkd(k:Int)(j:Nat)(cs:List AV):List AV:=(iota k j).map i64++cs.drop j
def rowsOf(css:List (List AV)):List AV:=css.map .row
def labsA(k:Int)(ns:List Nat):List AV:=(labs k ns).map fun xs=> .row (xs.map i64)
def mkr(k:Int)(j:Nat)(css:List (List AV)):List AV:=labsA k ((css.map List.length).take j)++(css.drop j).map .row
theorem run100:callF Tryz.prog ti0 KP (fun _=>false) 20 129 []=some (i64 38):=by kernel_rfl
theorem callF_okG{P:Program}{K:Nat→List AV→Option AV}(hm:P.follows .mixedOrders=true)(hK: ∀f args r,K f args=some r→CallOK P f args r){n f:Nat}{args:List AV}{r:AV}(h:callF P (tiG P) K (fun _=>false) n f args=some r):CallOK P f args r:=
 callF_ok (tiG_ok P) hm hK h
theorem c100:CallOK Tryz.prog 129 [] (i64 38):=callF_okG mixed0 KP_ok run100
theorem c77{a k:Int}(h1:0≤a)(h2:a<55441)(h5:0≤k)(h7:k<2^63):CallOK Tryz.prog 99 [i64 a,i64 k] (i64 (a ^ k.toNat % 55441)):=of_body (f77_run h1 h2 h5 h7)
theorem c74{a k:Int}(h1:0≤a)(h2:a<55441)(h5:0≤k)(h7:k<2^63):CallOK Tryz.prog 100 [i64 a,i64 k] (i64 (a ^ k.toNat % 55441)):=of_body (f74_run h1 h2 h5 h7)
set_option maxRecDepth 1000000 in
theorem c40{a b c:Int}:CallOK Tryz.prog 74 [i64 a,i64 b,i64 c] (bo (decide (b≤a∧a≤c))):=by
 refine call_of (fn:=Tryz.f74) (code:=bodyOf Tryz.f74) Tryz.func74 rfl (by kernel_rfl) rfl ?_
 intro sl hs
 have s0:sl 0=i64 a:=hs 0
 have s1:sl 1=i64 b:=hs 1
 have s2:sl 2=i64 c:=hs 2
 rcases Int.lt_or_le a b with h|h
 ·have h': ¬(b≤a):=by omega
  refine Yfi ?_
  exact Yaa
 ·have h': ¬(a<b):=by omega
  refine Yfi ?_
  exact Ybd
set_option maxRecDepth 1000000 in
theorem c38{a b c:Int}:CallOK Tryz.prog 113 [i64 a,i64 b,i64 c] (bo (decide (b≤a∧a≤c))):=by
 refine call_of (fn:=Tryz.f113) (code:=bodyOf Tryz.f113) Tryz.func113 rfl (by kernel_rfl) rfl ?_
 intro sl hs
 have s0:sl 0=i64 a:=hs 0
 have s1:sl 1=i64 b:=hs 1
 have s2:sl 2=i64 c:=hs 2
 rcases Int.lt_or_le a b with h|h
 ·have h': ¬(b≤a):=by omega
  refine Yfd ?_
  exact Yaa
 ·have h': ¬(a<b):=by omega
  refine Yfd ?_
  exact Ybd
def pw(a:Int)(k:Int):Int:=a ^ k.toNat % 55441
theorem pw_nonneg(a k:Int):0≤pw a k:=Int.emod_nonneg _ (by decide)
theorem pw_lt(a k:Int):pw a k<55441:=Int.emod_lt_of_pos _ (by decide)
set_option maxRecDepth 1000000 in
theorem c59{a:Int}(h1:0≤a)(h2:a<55441):CallOK Tryz.prog 64 [i64 a] (i64 (pw a 55439)):=by
 refine call_of (fn:=Tryz.f64) (code:=bodyOf Tryz.f64) Tryz.func64 rfl (by kernel_rfl) rfl ?_
 intro sl hs
 have s0:sl 0=i64 a:=hs 0
 simp(disch:=first|omega|assumption) only[Tryz.f64,bodyOf,Option.getD,go_sem, ↓reduceIte,Nat.reduceEqDiff,ti2,s0]
 refine CLL_pure _ (c74 h1 h2 (by decide) (by decide)) rfl rfl rfl ?_
 simp(disch:=first|omega|assumption) only[go_sem, ↓reduceIte,Nat.reduceEqDiff,ti2,s0]
 exact Ydw
def qt(a b:Int):Int:=a*pw b 55439 % 55441
set_option maxRecDepth 1000000 in
theorem c65{a b:Int}(h1:0≤a)(h2:a<55441)(h3:0≤b)(h4:b<55441):CallOK Tryz.prog 61 [i64 a,i64 b] (i64 (qt a b)):=by
 refine call_of (fn:=Tryz.f61) (code:=bodyOf Tryz.f61) Tryz.func61 rfl (by kernel_rfl) rfl ?_
 intro sl hs
 have s0:sl 0=i64 a:=hs 0
 have s1:sl 1=i64 b:=hs 1
 simp(disch:=first|omega|assumption) only[Tryz.f61,bodyOf,Option.getD,go_sem, ↓reduceIte,Nat.reduceEqDiff,ti2,s0,s1]
 refine CLL_pure _ (c77 h3 h4 (by decide) (by decide)) rfl rfl rfl ?_
 have hb:=bnd h1 h2 (pw_nonneg b 55439) (pw_lt b 55439)
 simp only[pw]at hb
 simp(disch:=first|omega|assumption) only[go_sem, ↓reduceIte,Nat.reduceEqDiff,zc,ti2,s0,s1,Int.tmod_eq_emod_of_nonneg]
 simp only[zr,zb,retR,resL,outT,outL,zes,zez,oneV,zcp,zed,zfi,Ro.dl,St.ev,zhk, ↓za, ↓reduceIte,Nat.reduceEqDiff,Nat.reduceAdd,Nat.reduceLeDiff,qt,pw]
set_option maxRecDepth 1000000 in
theorem c73{n:Int}(h1:1≤n)(h2:n≤55440):CallOK Tryz.prog 105 [i64 n] (i64 (pw 38 (55440 / n))):=by
 refine call_of (fn:=Tryz.f105) (code:=bodyOf Tryz.f105) Tryz.func105 rfl (by kernel_rfl) rfl ?_
 intro sl hs
 have s0:sl 0=i64 n:=hs 0
 have hd:0≤55440 / n:=Int.ediv_nonneg (by decide) (by omega)
 have hd2:55440 / n≤55440:=Int.ediv_le_self _ (by decide)
 simp(disch:=first|omega|assumption) only[Tryz.f105,bodyOf,Option.getD,go_sem, ↓reduceIte,Nat.reduceEqDiff,zc,ti2,s0,Int.tdiv_eq_ediv_of_nonneg]
 refine CLLD_pure _ c100 rfl rfl ?_
 simp(disch:=first|omega|assumption) only[go_sem, ↓reduceIte,Nat.reduceEqDiff,zc,ti2,s0,Int.tdiv_eq_ediv_of_nonneg]
 refine CLLD_pure _ (c74 (by decide) (by decide) hd (by omega)) rfl rfl ?_
 simp(disch:=first|omega|assumption) only[go_sem, ↓reduceIte,Nat.reduceEqDiff,zc,ti2,s0]
 refine FIN_of (by kernel_rfl) ?_
 simp(disch:=first|omega|assumption) only[go_sem, ↓reduceIte,Nat.reduceEqDiff,zc,ti2,s0]
 exact Ydw
def pwz(a k:Int):Int:=if k<0 then qt 1 (pw a (-k))else pw a k
theorem mulB{x y X Y:Int}(h1:0≤x)(h2:x≤X)(h3:0≤y)(h4:y≤Y):0≤x*y∧x*y≤X*Y:=
 ⟨Int.mul_nonneg h1 h3,Int.mul_le_mul h2 h4 h3 (by omega)⟩
theorem noRefL_map{α:Type}(f:α→AV)(h: ∀i,noRef (f i)=true): ∀l:List α,noRefL (l.map f)=true
 | []=>rfl
 |a::l=>by simp only[List.map_cons,noRefL,h,noRefL_map f h l,Bool.and_self]
theorem noRefL_rws(f:Nat→AV)(n:Nat)(h: ∀i,noRef (f i)=true):noRefL (rws f n)=true:=noRefL_map f h _
theorem noRef_row(cs:List AV)(h:noRefL cs=true):noRef (.row cs)=true:=by simpa only[noRef]using h
def dE(n k:Int)(i j:Nat):Int:=n*((i:Int) / n*((j:Int) % n)+(j:Int) / n*((i:Int) % n))+2*k*((i:Int) / n)*((j:Int) / n)
def dT(n k:Int)(i:Nat):Int:=n*((i:Int) / n)*((i:Int) % n)+k*((i:Int) / n)*((i:Int) / n)
def dz(n:Int):Int:=pw 38 (55440 / (n*n))
theorem rws_congr{α:Type}{f g:Nat→α}{n:Nat}(h: ∀i,i<n→f i=g i):rws f n=rws g n:=by
 unfold rws
 exact List.map_congr_left fun i hi=>h i (List.mem_range.1 hi)
theorem rws_map{α β:Type}(f:Nat→α)(g:α→β)(n:Nat):(rws f n).map g=rws (fun i=>g (f i)) n:=by simp[rws,Function.comp_def]
def dS(n k:Int):List (List Int):=rws (fun i=>rws (fun j=>pw (pw (dz n) 55439) (dE n k i j)) (n*n).toNat) (n*n).toNat
def dTs(n k:Int):List Int:=rws (fun i=>pw (dz n) (dT n k i)) (n*n).toNat
abbrev rowL(xs:List Int):AV:= .row (xs.map i64)
abbrev rowLL(xss:List (List Int)):AV:= .row (xss.map rowL)
abbrev immL(xs:List Int):AV:= .imm (xs.map i64)
abbrev immLL(xss:List (List Int)):AV:= .imm (xss.map immL)
theorem exLL(ro:Ro)(k:Nat)(xss:List (List Int)):(xss.map rowL).map (ex ro (k+2))=xss.map immL:=by
 rw[List.map_map]
 refine List.map_congr_left fun xs _=>?_
 show AV.imm ((xs.map i64).map (ex ro (k+1)))=_
 rw[ex_map]
theorem ex_refLL{ro:Ro}{s g:Nat}{xss:List (List Int)}(h:ro s g=some (rowLL xss))(k:Nat):ex ro (k+3) (.ref s g [] 0 xss.length)=immLL xss:=by
 show (match ro.cells s g []with|some cs=>AV.imm (((cs.drop 0).take xss.length).map (ex ro (k+2)))|none=> .dead)=_
 rw[zef,h]
 simp only[zeh,List.drop_zero]
 rw[List.take_of_length_le (by simp),exLL]
theorem ex_refL{ro:Ro}{s g:Nat}{xs:List Int}(h:ro s g=some (rowL xs))(k:Nat):ex ro (k+2) (.ref s g [] 0 xs.length)=immL xs:=by
 show (match ro.cells s g []with|some cs=>AV.imm (((cs.drop 0).take xs.length).map (ex ro (k+1)))|none=> .dead)=_
 rw[zef,h]
 simp only[zeh,List.drop_zero]
 rw[List.take_of_length_le (by simp),ex_map]
def num(x:Int):Prop:=0≤x∧x<55441
def numL(xs:List Int):Prop:= ∀j,num (atI xs j)
def row(S:List (List Int))(i:Nat):List Int:=S.getD i []
def numLL(S:List (List Int)):Prop:= ∀i,numL (row S i)
def sm(f:Nat→Int):Nat→Int
 |0=>0
 |n+1=>sm f n+f n
theorem num_mod(x:Int):num (x % 55441):=⟨Int.emod_nonneg _ (by decide),Int.emod_lt_of_pos _ (by decide)⟩
theorem num_mul{a b:Int}(ha:num a)(hb:num b):0≤a*b∧a*b≤55440*55440:=bnd ha.1 ha.2 hb.1 hb.2
theorem sm_bnd{f:Nat→Int}{B:Int}(h: ∀j,0≤f j∧f j≤B): ∀n:Nat,0≤sm f n∧sm f n≤n*B
 |0=>by simp[sm]
 |n+1=>by
  have ih:=sm_bnd h n
  have h1:=h n
  simp only[sm,Int.natCast_add,Int.natCast_one,Int.add_mul,Int.one_mul]
  omega
theorem sm_mod(f:Nat→Int): ∀n:Nat,sm (fun j=>f j % 55441) n % 55441=sm f n % 55441
 |0=>rfl
 |n+1=>by
  simp only[sm]
  rw[Int.add_emod,sm_mod f n,Int.emod_emod_of_dvd _ (by decide:(55441:Int)∣55441), ←Int.add_emod]
theorem sm_congr{f g:Nat→Int}: ∀ {n:Nat},(∀j,j<n→f j=g j)→sm f n=sm g n
 |0,_=>rfl
 |n+1,h=>by simp only[sm];rw[sm_congr fun j hj=>h j (by omega),h n (by omega)]
theorem isLL_idx0{a:AV}{xss:List (List Int)}(h:isLL a xss)(hk:0<xss.length){ro:Ro}{a1:Nat}{a2:Bool}{a3:List Value}{e:Nat}{a5:List (Nat×Nat)}{a6:Option IntKind}{a7 a8:Bool}{a9 a10:Option (Nat×Nat)}:kIdx (some ⟨a1,a2,a3,some e,a5,a6,a7,a8,a9,a10⟩) ro a (.sc (.int .i64 0))=some ⟨.iptr [atA a 0],none,[],[]⟩:=isLL_idx h hk
theorem isL_idx0{a:AV}{xs:List Int}(h:isL a xs)(hk:0<xs.length){ro:Ro}{a1:Nat}{a2:Bool}{a3:List Value}{e:Nat}{a5:List (Nat×Nat)}{a6:Option IntKind}{a7 a8:Bool}{a9 a10:Option (Nat×Nat)}:kIdx (some ⟨a1,a2,a3,some e,a5,a6,a7,a8,a9,a10⟩) ro a (.sc (.int .i64 0))=some ⟨.iptr [i64 (atI xs 0)],none,[],[]⟩:=isL_idx h hk
def ix:List Int→Int→Nat→Int
 | [],_,_=> -1
 |x::xs,n,k=>if x=n then k else ix xs n (k+1)
theorem ix_some: ∀ {xs:List Int} {n:Int} {k:Nat} (b:Nat),k<xs.length→atI xs k=n→(∀j,j<k→atI xs j≠n)→ix xs n b=(b+k:Nat)
 |x::xs,n,0,b,_,h,_=>by simp[atI]at h;simp[ix,h]
 |x::xs,n,k+1,b,hk,h,hn=>by
  have h0:x≠n:=by simpa [atI]using hn 0 (by omega)
  have:=ix_some (xs:=xs) (n:=n) (k:=k) (b+1) (by simpa using hk) (by simpa [atI]using h) (fun j hj=>by simpa [atI]using hn (j+1) (by omega))
  simp only[ix,if_neg h0,this];omega
 | [],_,_,_,hk,_,_=>by simp at hk
theorem ix_none: ∀ {xs:List Int} {n:Int} (b:Nat),(∀j,j<xs.length→atI xs j≠n)→ix xs n b= -1
 | [],_,_,_=>rfl
 |x::xs,n,b,hn=>by
  have h0:x≠n:=by simpa [atI]using hn 0 (by simp)
  simp only[ix,if_neg h0]
  exact ix_none (b+1) fun j hj=>by simpa [atI]using hn (j+1) (by simpa using hj)
set_option maxRecDepth 1000000 in
theorem c87{a:AV}{xs:List Int}{n:Int}(ha:isL a xs)(hx:xs.length≤maxN):CallOK Tryz.prog 171 [a,i64 n] (i64 (ix xs n 0)):=by
 refine call_of (fn:=Tryz.f171) (code:=bodyOf Tryz.f171) Tryz.func171 rfl (by kernel_rfl) rfl ?_
 intro sl hs
 have s0:sl 0=a:=hs 0
 have s1:sl 1=i64 n:=hs 1
 have hx':xs.length≤4294967296:=hx
 simp only[Tryz.f171,bodyOf,Option.getD,go_sem, ↓reduceIte,Nat.reduceEqDiff,Nat.reduceAdd,Nat.reduceMul,ti2,ti3,ti4,ti23,s0,s1]
 refine WK_for (fun k st=>st.sl 0=a∧st.sl 1=i64 n∧st.sl 5=i64 (k:Int)∧ ∀j,j<k→atI xs j≠n) xs.length ?_ ?_ ?_
 ·refine Ydg ?_
  exact⟨rfl,fun j hj=>absurd hj (Nat.not_lt_zero _)⟩
 ·rintro k sl ro gn hk ⟨s0,s1,s5,hp⟩
  dsimp only at s0 s1 s5
  have hk':(k:Int)<xs.length:=by omega
  simp(disch:=first|omega|assumption) only[go_sem, ↓reduceIte,Nat.reduceEqDiff,zc,ti2,ti3,ti4,ti23,s0,s1,s5,isL_len ha,isL_idx ha hk,hk']
  refine⟨fun he=>?_,fun hne=>⟨i64c (by omega),fun j hj=>?_⟩⟩
  ·refine Yab ?_
   have:=ix_some 0 hk he hp
   rw[this];omega
  ·rcases Nat.lt_or_ge j k with h|h
   ·exact hp j h
   ·have:j=k:=by omega
    subst this;exact hne
 ·rintro sl ro gn ⟨s0,s1,s5,hp⟩
  dsimp only at s0 s1 s5
  have hk': ¬(xs.length:Int)<xs.length:=by omega
  simp only[go_sem, ↓reduceIte,Nat.reduceEqDiff,zc,ti2,ti3,ti4,ti23,s0,s1,s5,isL_len ha,hk']
  refine Yab ?_
  rw[ix_none 0 hp]
set_option maxRecDepth 1000000 in
theorem c88{a:AV}{xs:List Int}{n:Int}(ha:isL a xs)(hx:xs.length≤maxN):CallOK Tryz.prog 166 [a,i64 n] (bo (decide (0≤ix xs n 0))):=by
 refine call_of (fn:=Tryz.f166) (code:=bodyOf Tryz.f166) Tryz.func166 rfl (by kernel_rfl) rfl ?_
 intro sl hs
 have s0:sl 0=a:=hs 0
 have s1:sl 1=i64 n:=hs 1
 simp only[Tryz.f166,bodyOf,Option.getD,go_sem, ↓reduceIte,Nat.reduceEqDiff,Nat.reduceAdd,Nat.reduceMul,ti2,ti3,ti4,ti23,s0,s1]
 refine CLL_pure _ (c87 ha hx) (by simp only[pureL,isL_pure ha,pureA,Bool.and_self]) rfl rfl ?_
 simp only[go_sem, ↓reduceIte,Nat.reduceEqDiff,zc,ti2,ti4,s0,s1]
 exact Ybd
set_option maxRecDepth 1000000 in
theorem c102{a b:AV}{xs ys:List Int}(ha:isL a xs)(hb:isL b ys)(hx:xs.length≤maxN)(hl:xs.length≤ys.length)(nx:numL xs)(ny:numL ys):CallOK Tryz.prog 97 [a,b] (i64 (sm (fun j=>atI xs j*atI ys j) xs.length % 55441)):=by
 refine call_of (fn:=Tryz.f97) (code:=bodyOf Tryz.f97) Tryz.func97 rfl (by kernel_rfl) rfl ?_
 intro sl hs
 have s0:sl 0=a:=hs 0
 have s1:sl 1=b:=hs 1
 have hx':xs.length≤4294967296:=hx
 simp only[Tryz.f97,bodyOf,Option.getD,go_sem, ↓reduceIte,Nat.reduceEqDiff,Nat.reduceAdd,Nat.reduceMul,ti2,ti3,ti4,ti23,s0,s1]
 refine WK_for (fun k st=>st.sl 0=a∧st.sl 1=b∧st.sl 6=i64 (k:Int)∧st.sl 5=i64 (sm (fun j=>atI xs j*atI ys j) k % 55441)) xs.length ?_ ?_ ?_
 ·refine Ydg ?_
  exact⟨rfl,rfl⟩
 ·rintro k sl ro gn hk ⟨s0,s1,s6,s5⟩
  dsimp only at s0 s1 s6 s5
  have hk':(k:Int)<xs.length:=by omega
  have hb1:=num_mul (nx k) (ny k)
  have hb2:=num_mod (sm (fun j=>atI xs j*atI ys j) k)
  unfold num at hb2
  simp(disch:=first|omega|assumption) only[go_sem, ↓reduceIte,Nat.reduceEqDiff,zc,ti2,ti3,ti4,ti23,s0,s1,s5,s6,isL_len ha,isL_idx ha hk,isL_idx hb (Nat.lt_of_lt_of_le hk hl),isL_sites ha,isL_sites hb,hk',Int.tmod_eq_emod_of_nonneg]
  refine FIN_of (by kernel_rfl) ?_
  simp(disch:=first|omega|assumption) only[go_sem, ↓reduceIte,Nat.reduceEqDiff,Nat.reduceAdd,Nat.reduceMul,zc,ti2,ti3,ti4,ti23,s0,s1,s5,s6]
  exact⟨i64c (by omega),i64c (by simp only[sm,Int.emod_add_emod])⟩
 ·rintro sl ro gn ⟨s0,s1,s6,s5⟩
  dsimp only at s0 s1 s6 s5
  have hk': ¬(xs.length:Int)<xs.length:=by omega
  simp only[go_sem, ↓reduceIte,Nat.reduceEqDiff,zc,ti2,ti3,ti4,ti23,s0,s1,s5,s6,isL_len ha,hk']
  exact Yaa
set_option maxRecDepth 1000000 in
theorem c119{a b:AV}{xs ys:List Int}(ha:isL a xs)(hb:isL b ys)(hx:xs.length≤maxN)(hl:xs.length≤ys.length)(nx:numL xs)(ny:numL ys):CallOK Tryz.prog 54 [a,b] (i64 (sm (fun j=>atI xs j*atI ys j) xs.length % 55441)):=by
 refine call_of (fn:=Tryz.f54) (code:=bodyOf Tryz.f54) Tryz.func54 rfl (by kernel_rfl) rfl ?_
 intro sl hs
 have s0:sl 0=a:=hs 0
 have s1:sl 1=b:=hs 1
 have hx':xs.length≤4294967296:=hx
 simp only[Tryz.f54,bodyOf,Option.getD,go_sem, ↓reduceIte,Nat.reduceEqDiff,Nat.reduceAdd,Nat.reduceMul,ti2,ti3,ti4,ti23,s0,s1,isL_len ha]
 refine WK_for (fun k st=>st.sl 0=a∧st.sl 1=b∧st.sl 8=i64 (xs.length:Int)∧st.sl 9=i64 (k:Int)∧st.sl 5=i64 (sm (fun j=>atI xs j*atI ys j % 55441) k)) xs.length ?_ ?_ ?_
 ·refine Ydg ?_
  exact⟨rfl,rfl⟩
 ·rintro k sl ro gn hk ⟨s0,s1,s8,s9,s5⟩
  dsimp only at s0 s1 s8 s9 s5
  have hk':(k:Int)<xs.length:=by omega
  have hb1:=num_mul (nx k) (ny k)
  have hb2:=sm_bnd (f:=fun j=>atI xs j*atI ys j % 55441) (B:=55440) (fun j=>by have:=num_mod (atI xs j*atI ys j);unfold num at this;omega) k
  have hb3:=num_mod (atI xs k*atI ys k)
  unfold num at hb3
  simp(disch:=first|omega|assumption) only[go_sem, ↓reduceIte,Nat.reduceEqDiff,zc,ti2,ti3,ti4,ti23,s0,s1,s5,s8,s9,isL_idx ha hk,isL_idx hb (Nat.lt_of_lt_of_le hk hl),isL_sites ha,isL_sites hb,hk',Int.tmod_eq_emod_of_nonneg]
  refine FIN_of (by kernel_rfl) ?_
  simp(disch:=first|omega|assumption) only[go_sem, ↓reduceIte,Nat.reduceEqDiff,Nat.reduceAdd,Nat.reduceMul,zc,ti2,ti3,ti4,ti23,s0,s1,s5,s8,s9]
  exact⟨i64c (by omega),i64c rfl⟩
 ·rintro sl ro gn ⟨s0,s1,s8,s9,s5⟩
  dsimp only at s0 s1 s8 s9 s5
  have hk': ¬(xs.length:Int)<xs.length:=by omega
  have hb2:=sm_bnd (f:=fun j=>atI xs j*atI ys j % 55441) (B:=55440) (fun j=>by have:=num_mod (atI xs j*atI ys j);unfold num at this;omega) xs.length
  simp(disch:=first|omega|assumption) only[go_sem, ↓reduceIte,Nat.reduceEqDiff,zc,ti2,ti3,ti4,ti23,s0,s1,s5,s8,s9,hk',Int.tmod_eq_emod_of_nonneg]
  simp only[zr,zb,retR,resL,outT,outL,zes,zez,oneV,zcp,zed,zfi,Ro.dl,St.ev,zhk, ↓za, ↓reduceIte,Nat.reduceEqDiff,Nat.reduceAdd,Nat.reduceLeDiff,sm_mod]
theorem noRef_rowL(xs:List Int):noRef (rowL xs)=true:=noRef_row _ (noRefL_map _ (fun _=>rfl) _)
theorem noRef_rowLL(xss:List (List Int)):noRef (rowLL xss)=true:=noRef_row _ (noRefL_map _ (fun xs=>noRef_rowL xs) _)
theorem noIL_map{α:Type}(f:α→AV)(h: ∀i,noI (f i)=true): ∀l:List α,noIL (l.map f)=true
 | []=>rfl
 |a::l=>by simp only[List.map_cons,noIL,h,noIL_map f h l,Bool.and_self]
theorem noI_row(cs:List AV)(h:noIL cs=true):noI (.row cs)=true:=by simpa only[noI]using h
theorem noI_rowL(xs:List Int):noI (rowL xs)=true:=noI_row _ (noIL_map _ (fun _=>rfl) _)
theorem noI_rowLL(xss:List (List Int)):noI (rowLL xss)=true:=noI_row _ (noIL_map _ (fun xs=>noI_rowL xs) _)
theorem isLL_row{a:AV}{xss:List (List Int)}(h:isLL a xss){k:Nat}(hk:k<xss.length):isL (atA a k) (row xss k):=isLL_at h hk
def whl(S:List (List Int))(n:Nat):Int:=sm (fun j=>atI (row S 0) j*atI (row S 0) j) n % 55441
def tmE(A B:List (List Int))(i j:Nat):Int:=sm (fun k=>atI (row A i) k*atI (row B k) j) B.length % 55441
def tms(A B:List (List Int)):List (List Int):=rws (fun i=>rws (fun j=>tmE A B i j) B.length) A.length
theorem rep_rws{α:Type}(x:α)(n:Nat):List.replicate n x=rws (fun _=>x) n:=by
 unfold rws
 apply List.ext_getElem<;>simp
theorem rws_set{α:Type}(f:Nat→α)(n j:Nat)(x:α):(rws f n).set j x=rws (fun i=>if i=j then x else f i) n:=by
 unfold rws
 apply List.ext_getElem
 ·simp
 ·intro i h1 h2
  simp[List.getElem_set]
  split<;>split<;>first|rfl|omega
theorem rws_get{α:Type}(f:Nat→α)(n j:Nat)(h:j<n):(rws f n)[j]?=some (f j):=by simp[rws,h]
def wr1(o:Option AV)(ro:Ro)(s g j i:Nat)(vs:List AV):Ro:=match o with
 |some a=>upr ro s g (putR (setL i vs) [j] a)
 |none=>ro
theorem wr_one(ro:Ro)(s g j i:Nat)(vs:List AV):ro.wr ⟨s,g,[j],i,vs⟩=wr1 (ro s g) ro s g j i vs:=by
 unfold wr1 Ro.wr
 cases ro s g<;>rfl
theorem wr1_row{rows cs:List AV}{ro:Ro}{s g j i:Nat}{vs:List AV}(h:rows[j]?=some (.row cs)):wr1 (some (.row rows)) ro s g j i vs=upr ro s g (.row (rows.set j (.row (setL i vs cs)))):=by
 simp only[wr1,putR,h]
def bx1(o:Option AV)(j:Nat):Bool:=match o with
 |some (.row rows)=>match rows[j]? with
  |some (.bx _)=>true
  |_=>false
 |_=>false
theorem isBx_one(ro:Ro)(s g j:Nat):isBxAt ro s g [j]=bx1 (ro s g) j:=by
 unfold isBxAt bx1 Ro.at
 cases h:ro s g with
 |none=>rfl
 |some a=>
  cases a<;>try rfl
  rename_i rows
  simp only[ath]
  cases h2:rows[j]? with
  |none=>rfl
  |some c=>cases c<;>rfl
theorem bx1_row{rows cs:List AV}{j:Nat}(h:rows[j]?=some (.row cs)):bx1 (some (.row rows)) j=false:=by simp only[bx1,h]
set_option maxRecDepth 1000000 in
theorem c126{n m:Nat}(hn:n≤maxN)(hm:m≤maxN):CallOK Tryz.prog 130 [i64 n,i64 m] (rowLL (rws (fun _=>rws (fun _=>0) m) n)):=by
 have e0:rowLL (rws (fun _=>rws (fun _=>0) m) n)= .row (rws (fun _=> .row (List.replicate m (i64 0))) n):=by simp only[rowLL,rowL,rws_map,rep_rws]
 refine call_of (fn:=Tryz.f130) (code:=bodyOf Tryz.f130) Tryz.func130 rfl (by kernel_rfl) (noRef_rowLL _) ?_
 rw[e0]
 intro sl hs
 have s0:sl 0=i64 n:=hs 0
 have s1:sl 1=i64 m:=hs 1
 have hn':n≤4294967296:=hn
 have hm':(m:Int)≤((4294967296:Nat):Int):=by have:m≤4294967296:=hm;omega
 simp only[Tryz.f130,bodyOf,Option.getD,go_sem, ↓reduceIte,Nat.reduceEqDiff,reduceCtorEq,Nat.reduceAdd,Nat.reduceMul,Nat.reduceLeDiff,ti2,ti3,ti4,ti22,ti23,s0,s1]
 refine WK_for (fun i st=>st.sl 1=i64 m∧st.sl 7=i64 n∧st.sl 8=i64 (i:Int)∧st.sl 5= .ref 8192 (st.gn 8192) [] 0 i∧st.ro 8192 (st.gn 8192)=some (.row (rws (fun _=> .row (List.replicate m (i64 0))) i))) n ?_ ?_ ?_
 ·simp only[↓za, ↓reduceIte,Nat.reduceEqDiff,zb,reduceCtorEq,s0,s1,rws_zero]
  rfl
 ·rintro i sl ro gn hi ⟨s1,s7,s8,s5,r5⟩
  dsimp only at s1 s7 s8 s5 r5
  have hi':(i:Int)<n:=by omega
  have hi2:i+1≤4294967296:=by omega
  simp(maxSteps:=10000000) (disch:=first|omega|assumption) only[go_sem, ↓reduceIte,Nat.reduceEqDiff,reduceCtorEq,Nat.reduceAdd,Nat.reduceMul,Nat.reduceLeDiff,zc,ti2,ti3,ti4,ti22,ti23,s1,s7,s8,s5,r5,hi',hi2,kMake,Int.natCast_nonneg,Int.le_refl,Int.toNat_natCast,hm',List.length_replicate,List.getD_cons_zero]
  exact i64c (by omega)
 ·rintro sl ro gn ⟨s1,s7,s8,s5,r5⟩
  dsimp only at s1 s7 s8 s5 r5
  have hi': ¬(n:Int)<n:=by omega
  simp only[go_sem, ↓reduceIte,Nat.reduceEqDiff,zc,ti2,ti3,ti4,ti22,ti23,s1,s7,s8,s5,r5,hi']
  exact Ydx
def apl(A:List (List Int))(v:List Int):List Int:=rws (fun i=>sm (fun j=>atI (row A i) j*atI v j) (row A i).length % 55441) A.length
set_option maxRecDepth 1000000 in
theorem c121{a b:AV}{A:List (List Int)}{v:List Int}(ha:isLL a A)(hb:isL b v)(hA:A.length≤maxN)(hA2: ∀i,i<A.length→(row A i).length≤maxN)(hl: ∀i,i<A.length→(row A i).length≤v.length)(nA:numLL A)(nv:numL v):CallOK Tryz.prog 163 [a,b] (rowL (apl A v)):=by
 have e0:rowL (apl A v)= .row (rws (fun i=>i64 (sm (fun j=>atI (row A i) j*atI v j) (row A i).length % 55441)) A.length):=by simp only[rowL,apl,rws_map]
 refine call_of (fn:=Tryz.f163) (code:=bodyOf Tryz.f163) Tryz.func163 rfl (by kernel_rfl) (noRef_rowL _) ?_
 rw[e0]
 intro sl hs
 have s0:sl 0=a:=hs 0
 have s1:sl 1=b:=hs 1
 have hA':A.length≤4294967296:=hA
 simp only[Tryz.f163,bodyOf,Option.getD,go_sem, ↓reduceIte,Nat.reduceEqDiff,reduceCtorEq,Nat.reduceAdd,Nat.reduceMul,Nat.reduceLeDiff,ti2,ti3,ti4,ti22,ti23,s0,s1,isLL_len ha]
 refine WK_for (fun i st=>st.sl 1=b∧st.sl 9=a∧st.sl 10=i64 (A.length:Int)∧st.sl 11=i64 (i:Int)∧st.sl 5= .ref 8192 (st.gn 8192) [] 0 i∧st.ro 8192 (st.gn 8192)=some (.row (rws (fun i=>i64 (sm (fun j=>atI (row A i) j*atI v j) (row A i).length % 55441)) i))) A.length ?_ ?_ ?_
 ·simp only[↓za, ↓reduceIte,Nat.reduceEqDiff,zb,reduceCtorEq,s0,s1,rws_zero]
  rfl
 ·rintro i sl ro gn hi ⟨s1,s9,s10,s11,s5,r5⟩
  dsimp only at s1 s9 s10 s11 s5 r5
  have hi':(i:Int)<A.length:=by omega
  have hi2:i+1≤4294967296:=by omega
  have h1:=isLL_row ha hi
  simp only[go_sem, ↓reduceIte,Nat.reduceEqDiff,zc,ti2,ti3,ti4,ti22,ti23,s1,s9,s10,s11,s5,r5,hi',isLL_idx ha hi]
  refine CLL_pure _ (c119 h1 hb (hA2 i hi) (hl i hi) (nA i) nv) (by simp only[pureL,isL_pure h1,isL_pure hb,Bool.and_self]) rfl rfl ?_
  simp(maxSteps:=10000000) (disch:=first|omega|assumption) only[go_sem, ↓reduceIte,Nat.reduceEqDiff,reduceCtorEq,Nat.reduceAdd,Nat.reduceMul,Nat.reduceLeDiff,zc,ti2,ti3,ti4,ti22,ti23,s1,s9,s10,s11,s5,r5,hi2]
  exact i64c (by omega)
 ·rintro sl ro gn ⟨s1,s9,s10,s11,s5,r5⟩
  dsimp only at s1 s9 s10 s11 s5 r5
  have hi': ¬(A.length:Int)<A.length:=by omega
  simp only[go_sem, ↓reduceIte,Nat.reduceEqDiff,zc,ti2,ti3,ti4,ti22,ti23,s1,s9,s10,s11,s5,r5,hi']
  exact Ydx
def trp(A:List (List Int)):List (List Int):=rws (fun j=>rws (fun i=>atI (row A i) j) A.length) (row A 0).length
set_option maxRecDepth 1000000 in
set_option maxHeartbeats 10000000 in
theorem c120{a:AV}{A:List (List Int)}(ha:isLL a A)(h0:0<A.length)(hA:A.length≤maxN)(hA2:(row A 0).length≤maxN)(hl: ∀i,i<A.length→(row A i).length=(row A 0).length):CallOK Tryz.prog 162 [a] (rowLL (trp A)):=by
 have e0:rowLL (trp A)= .row (rws (fun r=> .row (rws (fun c=>i64 (if c<A.length∨(c=A.length∧r<0)then atI (row A c) r else 0)) A.length)) (row A 0).length):=by
  simp only[rowLL,rowL,trp,rws_map]
  congr 1
  refine rws_congr fun r hr=>?_
  congr 1
  refine rws_congr fun c hc=>?_
  rw[if_pos (.inl hc)]
 refine call_of (fn:=Tryz.f162) (code:=bodyOf Tryz.f162) Tryz.func162 rfl (by kernel_rfl) (noRef_rowLL _) ?_
 rw[e0]
 intro sl hs
 have s0:sl 0=a:=hs 0
 have hA':A.length≤4294967296:=hA
 have hA2':(row A 0).length≤4294967296:=hA2
 have h1:=isLL_row ha h0
 simp only[Tryz.f162,bodyOf,Option.getD,go_sem, ↓reduceIte,Nat.reduceEqDiff,reduceCtorEq,Nat.reduceAdd,Nat.reduceMul,Nat.reduceLeDiff,ti2,ti3,ti4,ti22,ti23,s0,isLL_len ha,isLL_idx0 ha h0,isL_len h1]
 refine CLL_pure _ (c126 hA2 hA) rfl rfl rfl ?_
 simp only[go_sem, ↓reduceIte,Nat.reduceEqDiff,reduceCtorEq,Nat.reduceAdd,Nat.reduceMul,Nat.reduceLeDiff,ti2,ti3,ti4,ti22,ti23,s0,isLL_len ha,impE_row,List.length_map]
 refine WK_for (fun i st=>st.sl 15=a∧st.sl 16=i64 (A.length:Int)∧st.sl 17=i64 (i:Int)∧st.sl 3= .ref 8288 (st.gn 8288) [] 0 (row A 0).length∧
  st.ro 8288 (st.gn 8288)=some (.row (rws (fun r=> .row (rws (fun c=>i64 (if c<i∨(c=i∧r<0)then atI (row A c) r else 0)) A.length)) (row A 0).length))) A.length ?_ ?_ ?_
 ·simp only[↓za, ↓reduceIte,Nat.reduceEqDiff,zb,reduceCtorEq,s0]
  simp only[rowL,rws_map,Nat.not_lt_zero,and_false,or_self,if_false]
  exact⟨rfl,trivial⟩
 ·rintro i sl ro gn hi ⟨s15,s16,s17,s3,r3⟩
  dsimp only at s15 s16 s17 s3 r3
  have hi':(i:Int)<A.length:=by omega
  have hi2:i+1≤4294967296:=by omega
  have h2:=isLL_row ha hi
  have hli:=hl i hi
  simp only[go_sem, ↓reduceIte,Nat.reduceEqDiff,zc,ti2,ti3,ti4,ti22,ti23,s15,s16,s17,s3,r3,hi',isLL_idx ha hi,isL_len h2,hli]
  refine WK_for (fun j st=>st.sl 15=a∧st.sl 16=i64 (A.length:Int)∧st.sl 17=i64 (i:Int)∧st.sl 4=i64 (i:Int)∧st.sl 3= .ref 8288 (st.gn 8288) [] 0 (row A 0).length∧st.sl 22=atA a i∧st.sl 23=i64 ((row A 0).length:Int)∧st.sl 24=i64 (j:Int)∧
   st.ro 8288 (st.gn 8288)=some (.row (rws (fun r=> .row (rws (fun c=>i64 (if c<i∨(c=i∧r<j)then atI (row A c) r else 0)) A.length)) (row A 0).length))) (row A 0).length ?_ ?_ ?_
  ·simp only[↓za, ↓reduceIte,Nat.reduceEqDiff,zb,reduceCtorEq,s15,s16,s17,s3,r3]
   rfl
  ·rintro j sl ro gn hj ⟨s15,s16,s17,s4,s3,s22,s23,s24,r3⟩
   dsimp only at s15 s16 s17 s4 s3 s22 s23 s24 r3
   have hj':(j:Int)<(row A 0).length:=by omega
   have hg:=rws_get (fun r=>AV.row (rws (fun c=>i64 (if c<i∨(c=i∧r<j)then atI (row A c) r else 0)) A.length)) (row A 0).length j hj
   have hii:i+1≤A.length:=hi
   simp(disch:=first|omega|assumption) only[go_sem, ↓reduceIte,Nat.reduceEqDiff,zc,ti2,ti3,ti4,ti22,ti23,s15,s16,s17,s4,s3,s22,s23,s24,r3,hj',hj,hi,hii,isL_idx h2 (hli.symm▸hj),hg,inO_row,rowO_row,isBx_one,bx1_row hg,wr_one,wr1_row hg,zfp]
   refine⟨i64c (by omega),congrArg (fun x=>some (AV.row x)) ?_⟩
   rw[rws_set,rws_set]
   refine rws_congr fun r hr=>?_
   by_cases hrj:r=j
   ·subst hrj
    rw[if_pos rfl]
    refine congrArg AV.row (rws_congr fun c hc=>?_)
    by_cases hci:c=i
    ·subst hci
     rw[if_pos rfl,if_pos (.inr ⟨rfl,by omega⟩)]
    ·rw[if_neg hci]
     have e:(c<i∨c=i∧r<r)↔(c<i∨c=i∧r<r+1):=by omega
     simp only[e]
   ·rw[if_neg hrj]
    refine congrArg AV.row (rws_congr fun c hc=>?_)
    have e:(c<i∨c=i∧r<j)↔(c<i∨c=i∧r<j+1):=by omega
    simp only[e]
  ·rintro sl ro gn ⟨s15,s16,s17,s4,s3,s22,s23,s24,r3⟩
   dsimp only at s15 s16 s17 s4 s3 s22 s23 s24 r3
   have hj': ¬((row A 0).length:Int)<(row A 0).length:=by omega
   simp(disch:=first|omega|assumption) only[go_sem, ↓reduceIte,Nat.reduceEqDiff,zc,ti2,ti3,ti4,ti22,ti23,s15,s16,s17,s4,s3,s22,s23,s24,r3,hj']
   refine⟨i64c (by omega),congrArg (fun x=>some (AV.row x)) (rws_congr fun r hr=>congrArg AV.row (rws_congr fun c hc=>?_))⟩
   have e:(c<i∨c=i∧r<(row A 0).length)↔(c<i+1∨c=i+1∧r<0):=by omega
   simp only[e]
 ·rintro sl ro gn ⟨s15,s16,s17,s3,r3⟩
  dsimp only at s15 s16 s17 s3 r3
  have hi': ¬(A.length:Int)<A.length:=by omega
  simp only[go_sem, ↓reduceIte,Nat.reduceEqDiff,zc,ti2,ti3,ti4,ti22,ti23,s15,s16,s17,s3,r3,hi']
  exact Ydy
def mul(A B:List (List Int)):List (List Int):=rws (fun i=>apl (trp B) (row A i)) A.length
theorem row_rws(f:Nat→List Int){n k:Nat}(h:k<n):row (rws f n) k=f k:=by
 unfold row;rw[List.getD_eq_getElem?_getD,rws_get f n k h];rfl
theorem atI_rws(f:Nat→Int){n k:Nat}(h:k<n):atI (rws f n) k=f k:=by
 unfold atI;rw[List.getD_eq_getElem?_getD,rws_get f n k h];rfl
theorem row_out{A:List (List Int)}{k:Nat}(h:A.length≤k):row A k=[]:=by
 unfold row;rw[List.getD_eq_getElem?_getD,List.getElem?_eq_none h];rfl
theorem atI_out{xs:List Int}{k:Nat}(h:xs.length≤k):atI xs k=0:=by
 unfold atI;rw[List.getD_eq_getElem?_getD,List.getElem?_eq_none h];rfl
theorem numL_rws(f:Nat→Int)(n:Nat)(h: ∀i,i<n→num (f i)):numL (rws f n):=by
 intro j
 rcases Nat.lt_or_ge j n with hj|hj
 ·rw[atI_rws f hj];exact h j hj
 ·rw[atI_out (by rw[zfe];exact hj)];exact⟨by decide,by decide⟩
theorem numLL_rws(f:Nat→List Int)(n:Nat)(h: ∀i,i<n→numL (f i)):numLL (rws f n):=by
 intro j
 rcases Nat.lt_or_ge j n with hj|hj
 ·rw[row_rws f hj];exact h j hj
 ·rw[row_out (by rw[zfe];exact hj)];intro i;rw[atI_out (Nat.zero_le _)];exact⟨by decide,by decide⟩
theorem numLL_trp{A:List (List Int)}(h:numLL A):numLL (trp A):=numLL_rws _ _ fun j _=>numL_rws _ _ fun i _=>h i j
theorem trp_len(A:List (List Int)):(trp A).length=(row A 0).length:=zfe _ _
theorem trp_row{A:List (List Int)}{j:Nat}(hj:j<(row A 0).length):row (trp A) j=rws (fun i=>atI (row A i) j) A.length:=row_rws _ hj
theorem mul_eq{A B:List (List Int)}(h: ∀i,i<B.length→(row B i).length=B.length)(hB:0<B.length):mul A B=tms A B:=by
 have h0:=h 0 hB
 unfold mul tms
 refine rws_congr fun i hi=>?_
 unfold apl
 rw[trp_len,h0]
 refine rws_congr fun j hj=>?_
 have hj2:j<(row B 0).length:=by omega
 rw[trp_row hj2,zfe]
 unfold tmE
 refine congrArg (· % 55441) (sm_congr fun k hk=>?_)
 rw[atI_rws _ hk,Int.mul_comm]
theorem isL_ex8{a:AV}{xs:List Int}(ro:Ro)(h:isL a xs):ex ro 8 a=a:=isL_ex ro 6 h
set_option maxRecDepth 1000000 in
theorem c92{a b:AV}{A B:List (List Int)}(ha:isLL a A)(hb:isLL b B)(h0:0<B.length)(hA:A.length≤maxN)(hB:B.length≤maxN)(hl: ∀i,i<B.length→(row B i).length=B.length)(lA: ∀i,i<A.length→B.length≤(row A i).length)(nA:numLL A)(nB:numLL B):CallOK Tryz.prog 142 [a,b] (rowLL (tms A B)):=by
 rw[←mul_eq hl h0]
 have e0:rowLL (mul A B)= .row (rws (fun i=>rowL (apl (trp B) (row A i))) A.length):=by simp only[rowLL,mul,rws_map]
 refine call_of (fn:=Tryz.f142) (code:=bodyOf Tryz.f142) Tryz.func142 rfl (by kernel_rfl) (noRef_rowLL _) ?_
 rw[e0]
 intro sl hs
 have s0:sl 0=a:=hs 0
 have s1:sl 1=b:=hs 1
 have hA':A.length≤4294967296:=hA
 have hB0:=hl 0 h0
 simp only[Tryz.f142,bodyOf,Option.getD,go_sem, ↓reduceIte,Nat.reduceEqDiff,reduceCtorEq,Nat.reduceAdd,Nat.reduceMul,Nat.reduceLeDiff,ti2,ti3,ti4,ti22,ti23,s0,s1]
 refine CLL_pure _ (c120 hb h0 hB (by omega) (fun i hi=>by rw[hl i hi,hB0])) (by simp only[pureL,isLL_pure hb,Bool.and_self]) rfl rfl ?_
 simp only[go_sem, ↓reduceIte,Nat.reduceEqDiff,reduceCtorEq,Nat.reduceAdd,Nat.reduceMul,Nat.reduceLeDiff,ti2,ti3,ti4,ti22,ti23,s0,s1,isLL_len ha,impE_row,List.length_map]
 refine WK_for (fun i st=>st.sl 12=a∧st.sl 13=i64 (A.length:Int)∧st.sl 14=i64 (i:Int)∧st.sl 5= .ref 8208 1 [] 0 (trp B).length∧st.ro 8208 1=some (rowLL (trp B))∧
  st.sl 6= .ref 12288 (st.gn 12288) [] 0 i∧st.ro 12288 (st.gn 12288)=some (.row (rws (fun i=>rowL (apl (trp B) (row A i))) i))) A.length ?_ ?_ ?_
 ·simp only[↓za, ↓reduceIte,Nat.reduceEqDiff,zb,reduceCtorEq,s0,rws_zero]
  rfl
 ·rintro i sl ro gn hi ⟨s12,s13,s14,s5,r5,s6,r6⟩
  dsimp only at s12 s13 s14 s5 r5 s6 r6
  have hi':(i:Int)<A.length:=by omega
  have hi2:i+1≤4294967296:=by omega
  have h1:=isLL_row ha hi
  simp only[go_sem, ↓reduceIte,Nat.reduceEqDiff,zc,ti2,ti3,ti4,ti22,ti23,s12,s13,s14,s5,r5,s6,r6,hi',isLL_idx ha hi]
  have hax:argsX ro [.ref 8208 1 [] 0 (trp B).length,atA a i]=[immLL (trp B),atA a i]:=by
   have hp:pureL [.ref 8208 1 [] 0 (trp B).length,atA a i]=false:=rfl
   unfold argsX
   rw[hp,if_neg Bool.false_ne_true]
   show [ex ro 8 _,ex ro 8 _]=_
   rw[ex_refLL r5 5,isL_ex8 ro h1]
  refine CLL_args _ (c121 (isLL_imm (trp B)) h1 (by rw[trp_len];omega) (fun j hj=>by rw[trp_len]at hj;rw[trp_row hj,zfe];exact hB) (fun j hj=>by rw[trp_len]at hj;rw[trp_row hj,zfe];exact lA i hi) (numLL_trp nB) (nA i)) hax rfl rfl (noI_rowL _) ?_
  ·simp(maxSteps:=10000000) (disch:=first|omega|assumption) only[go_sem, ↓reduceIte,Nat.reduceEqDiff,reduceCtorEq,Nat.reduceAdd,Nat.reduceMul,Nat.reduceLeDiff,zc,ti2,ti3,ti4,ti22,ti23,s12,s13,s14,s5,r5,s6,r6,hi2,impE_row,List.length_map]
   exact i64c (by omega)
 ·rintro sl ro gn ⟨s12,s13,s14,s5,r5,s6,r6⟩
  dsimp only at s12 s13 s14 s5 r5 s6 r6
  have hi': ¬(A.length:Int)<A.length:=by omega
  simp only[go_sem, ↓reduceIte,Nat.reduceEqDiff,zc,ti2,ti3,ti4,ti22,ti23,s12,s13,s14,s5,r5,s6,r6,hi']
  simp only[zr,zb,retR,resL,outT,outL,zes,zez,oneV,zcp,zed,zfi,Ro.dl,St.ev,zhk, ↓za, ↓reduceIte,Nat.reduceEqDiff,Nat.reduceAdd,Nat.reduceLeDiff,r6]
theorem ti31:ti0 24=some ⟨1,false,[Value.slice none 0 0],some 28,[],none,false,false,none,none⟩:=by kernel_rfl
theorem ti33:ti0 26=some ⟨1,true,[Value.slice none 0 0],none,[(0,24)],none,false,false,none,none⟩:=by kernel_rfl
theorem ti77:ti0 75=some ⟨1,false,[Value.slice none 0 0],some 3,[],none,false,false,none,none⟩:=by kernel_rfl
def ixp(p:Int→Bool):List Int→Nat→Int
 | [],_=> -1
 |x::xs,k=>if p x then k else ixp p xs (k+1)
theorem ixp_some{p:Int→Bool}: ∀ {xs:List Int} {k:Nat} (b:Nat),k<xs.length→p (atI xs k)=true→(∀j,j<k→p (atI xs j)=false)→ixp p xs b=(b+k:Nat)
 |x::xs,0,b,_,h,_=>by simp[atI]at h;simp[ixp,h]
 |x::xs,k+1,b,hk,h,hn=>by
  have h0:p x=false:=by simpa [atI]using hn 0 (by omega)
  have:=ixp_some (xs:=xs) (k:=k) (b+1) (by simpa using hk) (by simpa [atI]using h) (fun j hj=>by simpa [atI]using hn (j+1) (by omega))
  simp only[ixp,h0,Bool.false_eq_true,if_false,this];omega
 | [],_,_,hk,_,_=>by simp at hk
theorem ixp_none{p:Int→Bool}: ∀ {xs:List Int} (b:Nat),(∀j,j<xs.length→p (atI xs j)=false)→ixp p xs b= -1
 | [],_,_=>rfl
 |x::xs,b,hn=>by
  have h0:p x=false:=by simpa [atI]using hn 0 (by simp)
  simp only[ixp,h0,Bool.false_eq_true,if_false]
  exact ixp_none (b+1) fun j hj=>by simpa [atI]using hn (j+1) (by simpa using hj)
set_option maxRecDepth 1000000 in
theorem c93{a:AV}{xs:List Int}{g:Nat}{caps:List AV}{p:Int→Bool}(ha:isL a xs)(hx:xs.length≤maxN)(hi:XX.isIn g=false)(hcp:pureL caps=true)(hc: ∀x,CallOK Tryz.prog g (i64 x::caps) (bo (p x))):CallOK Tryz.prog 151 [a,.fn g caps] (i64 (ixp p xs 0)):=by
 refine call_of (fn:=Tryz.f151) (code:=bodyOf Tryz.f151) Tryz.func151 rfl (by kernel_rfl) rfl ?_
 intro sl hs
 have s0:sl 0=a:=hs 0
 have s1:sl 1= .fn g caps:=hs 1
 have hx':xs.length≤4294967296:=hx
 simp only[Tryz.f151,bodyOf,Option.getD,go_sem, ↓reduceIte,Nat.reduceEqDiff,Nat.reduceAdd,Nat.reduceMul,ti2,ti3,ti4,ti23,s0,s1,isL_len ha]
 refine WK_for (fun k st=>st.sl 0=a∧st.sl 1= .fn g caps∧st.sl 7=i64 (xs.length:Int)∧st.sl 8=i64 (k:Int)∧ ∀j,j<k→p (atI xs j)=false) xs.length ?_ ?_ ?_
 ·refine Ydg ?_
  exact⟨rfl,fun j hj=>absurd hj (Nat.not_lt_zero _)⟩
 ·rintro k sl ro gn hk ⟨s0,s1,s7,s8,hp⟩
  dsimp only at s0 s1 s7 s8
  have hk':(k:Int)<xs.length:=by omega
  simp only[go_sem, ↓reduceIte,Nat.reduceEqDiff,zc,ti2,ti3,ti4,ti23,s0,s1,s7,s8,isL_idx ha hk,hk']
  refine CLL_pure _ (hc (atI xs k)) (by simp only[pureL,pureA,hcp,Bool.and_self]) hi rfl ?_
  cases hpx:p (atI xs k)with
  |true=>
   simp only[go_sem, ↓reduceIte,Nat.reduceEqDiff,zc,ti2,ti3,ti4,ti23,s0,s1,s7,s8]
   refine Yab ?_
   have:=ixp_some 0 hk hpx hp
   rw[this];omega
  |false=>
   simp(disch:=first|omega|assumption) only[go_sem, ↓reduceIte,Nat.reduceEqDiff,zc,ti2,ti3,ti4,ti23,s0,s1,s7,s8]
   refine⟨i64c (by omega),fun j hj=>?_⟩
   rcases Nat.lt_or_ge j k with h|h
   ·exact hp j h
   ·have:j=k:=by omega
    subst this;exact hpx
 ·rintro sl ro gn ⟨s0,s1,s7,s8,hp⟩
  dsimp only at s0 s1 s7 s8
  have hk': ¬(xs.length:Int)<xs.length:=by omega
  simp only[go_sem, ↓reduceIte,Nat.reduceEqDiff,zc,ti2,ti3,ti4,ti23,s0,s1,s7,s8,hk']
  refine Yab ?_
  rw[ixp_none 0 hp]
set_option maxRecDepth 1000000 in
theorem c95{a:AV}{xs:List Int}{g:Nat}{caps:List AV}{p:Int→Bool}(ha:isL a xs)(hx:xs.length≤maxN)(hi:XX.isIn g=false)(hcp:pureL caps=true)(hc: ∀x,CallOK Tryz.prog g (i64 x::caps) (bo (p x))):CallOK Tryz.prog 127 [a,.fn g caps] (bo (decide (0≤ixp p xs 0))):=by
 refine call_of (fn:=Tryz.f127) (code:=bodyOf Tryz.f127) Tryz.func127 rfl (by kernel_rfl) rfl ?_
 intro sl hs
 have s0:sl 0=a:=hs 0
 have s1:sl 1= .fn g caps:=hs 1
 simp only[Tryz.f127,bodyOf,Option.getD,go_sem, ↓reduceIte,Nat.reduceEqDiff,Nat.reduceAdd,Nat.reduceMul,ti2,ti3,ti4,ti23,s0,s1]
 refine CLL_pure _ (c93 ha hx hi hcp hc) (by simp only[pureL,isL_pure ha,pureA,hcp,Bool.and_self]) rfl rfl ?_
 simp only[go_sem, ↓reduceIte,Nat.reduceEqDiff,zc,ti3,ti4,s0,s1]
 exact Ybd
theorem kIdx_ref0{ro:Ro}{s g:Nat}{p:List Nat}{off n:Nat}{a1:Nat}{a2:Bool}{a3:List Value}{e:Nat}{a5:List (Nat×Nat)}{a6:Option IntKind}{a7 a8:Bool}{a9 a10:Option (Nat×Nat)}:kIdx (some ⟨a1,a2,a3,some e,a5,a6,a7,a8,a9,a10⟩) ro (.ref s g p off n) (.sc (.int .i64 0))=if 0<n∧(ro.cells s g p).isSome=true then some ⟨.ptr s g p off,none,[],[]⟩else none:=zen (k:=0)
theorem ix_cases(xs:List Int)(n:Int):ix xs n 0= -1∨ ∃m:Nat,ix xs n 0=m∧m<xs.length∧atI xs m=n:=by
 by_cases h: ∃m:Nat,m<xs.length∧atI xs m=n
 ·right
  have: ∃m:Nat,m<xs.length∧atI xs m=n∧ ∀j,j<m→atI xs j≠n:=by
   obtain⟨m,h1,h2⟩:=h
   induction m using Nat.strongRecOn with
   |ind m ih=>
    by_cases h3: ∃j,j<m∧atI xs j=n
    ·obtain⟨j,h4,h5⟩:=h3;exact ih j h4 (by omega) h5
    ·exact⟨m,h1,h2,fun j hj he=>h3 ⟨j,hj,he⟩⟩
  obtain⟨m,h1,h2,h3⟩:=this
  exact⟨m,by rw[ix_some 0 h1 h2 h3];omega,h1,h2⟩
 ·left
  exact ix_none 0 fun j hj he=>h ⟨j,hj,he⟩
theorem ix_has(f:Nat→Int)(n:Nat)(x:Int):(0≤ix (rws f n) x 0)↔ ∃j,j<n∧f j=x:=by
 rcases ix_cases (rws f n) x with h|⟨m,h,h1,h2⟩
 ·rw[h]
  refine⟨fun h=>absurd h (by decide),?_⟩
  rintro⟨j,hj,he⟩
  have: ∀(xs:List Int) (n:Int) (k b:Nat),k<xs.length→atI xs k=n→0≤ix xs n b:=by
   intro xs n k
   induction xs generalizing k with
   |nil=>intro b hk;simp at hk
   |cons y ys ih=>
    intro b hk he
    simp only[ix]
    split
    ·omega
    ·cases k with
     |zero=>rename_i hne;exact absurd (by simpa [atI]using he) hne
     |succ k=>exact ih k (b+1) (by simpa using hk) (by simpa [atI]using he)
  have:=this (rws f n) x j 0 (by rw[zfe];exact hj) (by rw[atI_rws f hj];exact he)
  omega
 ·rw[h]
  rw[zfe]at h1
  rw[atI_rws f h1]at h2
  exact⟨fun _=>⟨m,h1,h2⟩,fun _=>by omega⟩
section
variable (S:List (List Int))(T:List Int)
def cjA(i:Nat):Int:=ix (row (tms S S) i) (whl S T.length) 0
def cjOk(i:Nat):Prop:=(∀k,k<T.length→(k:Int)≠cjA S T i→atI (row (tms S S) i) k=0)∧0≤cjA S T i∧(∀j,j<i→cjA S T j≠cjA S T i)∧atI T (cjA S T i).toNat=atI T i
def CjP:Prop:=(∀i,i<T.length→cjOk S T i)∧cjA S T 0=0
def cjL:List Int:=rws (cjA S T) T.length
end
structure Shp(S:List (List Int))(T:List Int):Prop where
 pos:0<T.length
 max:T.length≤maxN
 lS:S.length=T.length
 lR: ∀i,i<T.length→(row S i).length=T.length
 nS:numLL S
 nT:numL T
theorem tms_len(A B:List (List Int)):(tms A B).length=A.length:=zfe _ _
def nz(x:Int):Bool:=decide (x≠0)
theorem ixp_cases(p:Int→Bool)(xs:List Int):(ixp p xs 0= -1∧ ∀j,j<xs.length→p (atI xs j)=false)∨ ∃m:Nat,ixp p xs 0=m∧m<xs.length∧p (atI xs m)=true∧ ∀j,j<m→p (atI xs j)=false:=by
 by_cases h: ∃m:Nat,m<xs.length∧p (atI xs m)=true
 ·right
  have: ∃m:Nat,m<xs.length∧p (atI xs m)=true∧ ∀j,j<m→p (atI xs j)=false:=by
   obtain⟨m,h1,h2⟩:=h
   induction m using Nat.strongRecOn with
   |ind m ih=>
    by_cases h3: ∃j,j<m∧p (atI xs j)=true
    ·obtain⟨j,h4,h5⟩:=h3;exact ih j h4 (by omega) h5
    ·refine⟨m,h1,h2,fun j hj=>?_⟩
     cases he:p (atI xs j)with
     |false=>rfl
     |true=>exact absurd ⟨j,hj,he⟩ h3
  obtain⟨m,h1,h2,h3⟩:=this
  exact⟨m,by rw[ixp_some 0 h1 h2 h3];omega,h1,h2,h3⟩
 ·left
  have h': ∀j,j<xs.length→p (atI xs j)=false:=fun j hj=>by
   cases he:p (atI xs j)with
   |false=>rfl
   |true=>exact absurd ⟨j,hj,he⟩ h
  exact⟨ixp_none 0 h',h'⟩
theorem ixp_neg{p:Int→Bool}{xs:List Int}:0≤ixp p xs 0↔ ∃m,m<xs.length∧p (atI xs m)=true:=by
 rcases ixp_cases p xs with⟨h,h2⟩|⟨m,h,h1,h2,h3⟩
 ·rw[h]
  refine⟨fun h=>absurd h (by decide),?_⟩
  rintro⟨m,h3,h4⟩;rw[h2 m h3]at h4;cases h4
 ·rw[h];exact⟨fun _=>⟨m,h1,h2⟩,fun _=>by omega⟩
section
variable (S:List (List Int))(T:List Int)
def djA(i:Nat):Int:=ixp nz (row (tms S S) i) 0
def djOk(i:Nat):Prop:=0≤djA S i∧atI (row (tms S S) i) (djA S i).toNat=whl S T.length∧(∀k,k<T.length→djA S i<k→atI (row (tms S S) i) k=0)∧(∀j,j<i→djA S j≠djA S i)∧
 atI T (djA S i).toNat=atI T i∧((i:Int)=0↔djA S i=0)
end
end Go.Proofs.YtbakhfiibjkifaaGreat
