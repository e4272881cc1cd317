/- Texts joined: CqE CqF Eh0. -/
import Derived.ChangeOld
import Derived.Below
import Derived.Carry
import Derived.Deep.Slices
import Derived.ChangeSlices
import Derived.Lib.SmallJoins
import Derived.Test.YtbakhfiibjkifaaGreatCg
import Derived.Test.YtbakhfiibjkifaaGreatMj
import Derived.Test.YtbakhfiibjkifaaGreatTb
import Derived.Test.YtbakhfiibjkifaaGreatTc
set_option linter.all false
/- Characters: FnCharacterTables, the table's part. -/
namespace Go.Proofs.YtbakhfiibjkifaaGreat
open Go.RowKit
set_option maxRecDepth 1000000
theorem b3U{b:Nat}{gn:Nat→Nat}{F:C3}{n:Nat}{v:Value}:a2k b gn (.tup [.agg [a0t F n],.sc v])=⟨.tup [.agg [.ref b (gn b+1) [] 0 n],.sc v],none,[],[(b,a0t F n)]⟩:=by
 have h:a2k b gn (.tup [.agg [a0t F n],.sc v])=⟨.tup [.agg [.ref b (gn b+1) [] 0 (rws (fun i=>AV.row (rws (fun j=> .row (rws (fun k=>i64 (F i j k)) n)) n)) n).length],.sc v],none,[],[(b,a0t F n)]⟩:=nr _
 rw[h,zfe]
theorem b1u(F:C3)(n:Nat)(v:Value):noI (.tup [.agg [a0t F n],.sc v])=true:=by
 have h:=a2q F n
 simp only[noI,a2R,Bool.and_true]at h ⊢
 exact h
section
variable{a:AV}{bs:List Int}{ro0:Ro}{gn0:Nat→Nat}
theorem c1c(hc:Cod a bs)(hl:bs.length≤4096):InS Tryz.prog 31 [a] ro0 gn0 (fun r ro' gn'=> ∃x y,r= .tup [x,y]∧ ∃(X:List (List Int)) (dl:List Int),x=a2x X∧y= .imm (dl.map i64)∧X.length≤16∧dl.length≤16∧ ∀m,m<X.length→NL (row X m)∧(row X m).length≤16):=
 InS.frz2 (Q:=fun x y _ _=> ∃(X:List (List Int)) (dl:List Int),x=a2x X∧y= .imm (dl.map i64)∧X.length≤16∧dl.length≤16∧ ∀m,m<X.length→NL (row X m)∧(row X m).length≤16) (b9q hc hl) fun r ro' gn' ⟨_,X,dl,s1,g1,s2,g2,h,_,_,h3⟩=>⟨_,_,s1,g1,s2,g2,h,X,dl,rfl,rfl,h3⟩
variable{sl:Nat→AV}{ro:Ro}{gn:Nat→Nat}
set_option maxHeartbeats 16000000 in
theorem ctS1(hc:Cod a bs)(hb:isB a bs)(hl:bs.length≤4096)(s0:sl 0=a):WK XX (c0t 7 (a0b Tryz.f5)) [.lp fun st=>st.sl 0=a] (RET ti0 [.tmp 2] (bo true)) ⟨sl,ro,gn⟩:=by
 have hpa:a0W a=true:=a7A hb
 have cB:=cBig hb
 rw[decide_eq_false (by omega)]at cB
 dsimp only[Tryz.f5,a0b,Option.getD,c0t]
 refine Yao ?_
 refine a0c _ cB (by simp only[a0Q,hpa,Bool.and_self]) rfl rfl ?_
 refine Yao ?_
 refine a0p rfl (c1c hc hl) ?_
 rintro _ ro1 gn1 ⟨_,_,rfl,X,dl,rfl,rfl,lX,ld,hN⟩
 have mX:X.length≤a0G:=by unfold a0G;omega
 have mD:dl.length≤a0G:=by unfold a0G;omega
 have hN': ∀m,m<X.length→NL (row X m)∧(row X m).length≤a0G:=fun m hm=>⟨(hN m hm).1,Nat.le_trans (hN m hm).2 (by unfold a0G;omega)⟩
 have k1:=cRcI (a1d X) (a0n dl) mX mD hN'
 have k2:=cRcS (a1d X) (a0n dl) mX hN'
 by_cases hT:RcC X dl∧TlP X (dvN dl)
 ·obtain⟨hRc,hT⟩:=hT
  rw[b5K hRc hT]at k1 k2
  dsimp only at k1 k2
  refine Yao ?_
  refine a0z _ k1 (.cons (a2G (a1d X) (by decide)) (.cons (a6b (a0n dl) (by decide)) .nil)) rfl rfl (b1u _ _ _) ?_
  obtain⟨n,en⟩: ∃n,X.length=n:=⟨_,rfl⟩
  have hSq:SqP X:=fun m hm=>⟨hRc.2.2 m hm,a2O (hN m hm).1⟩
  have hP:=b4R hSq hT
  have hCm:=b9Q X (dvN dl)
  have hRg:=hT.2.1
  have eD:rws (fun i=>((dd (tR X (dvN dl)) i:Nat):Int)) (tR X (dvN dl)).length=dl:=by
   refine List.ext_getElem? fun k=>?_
   by_cases hk:k<X.length
   ·have h1:=(hRc.2.1.2 k hk).1
    have h2:k<dl.length:=by rw[hRc.2.1.1];exact hk
    rw[a0l _ _ _ (by rw[a3I];exact hk),hT.2.2 k hk,List.getElem?_eq_getElem h2]
    have e:atI dl k=dl[k]:=by unfold atI;rw[List.getD_eq_getElem?_getD,List.getElem?_eq_getElem h2];rfl
    rw[←e]
    unfold dvN
    exact congrArg some (by omega)
   ·rw[List.getElem?_eq_none (by rw[zfe,a3I];omega),List.getElem?_eq_none (by rw[hRc.2.1.1];omega)]
  have hch:=fun l (hl:l<X.length)=>a8f hSq hT hl
  have kl:=b5e (a0V (tN X (dvN dl)) X.length) (a0V (tN X (dvN dl)) X.length) hRg.1.sz
  have k3:=c3F (a0V (tN X (dvN dl)) X.length) hRg hCm
  have k4:=c4H (a0V (tN X (dvN dl)) X.length) hRg
  have k5:=c5n (a0V (tN X (dvN dl)) X.length) hRg hCm (by rw[show a0L (tN X (dvN dl)) X.length=tR X (dvN dl)from rfl,a3I];exact hP.length_eq)
  rw[show a0L (tN X (dvN dl)) X.length=tR X (dvN dl)from rfl]at k4 k5
  rw[eD]at k4
  obtain⟨Y,eY⟩: ∃Y,b2T (tR X (dvN dl))=Y:=⟨_,rfl⟩
  rw[eY]at k5 hP
  have hYl:Y.length=X.length:=hP.length_eq
  have k6:=b1R (a0n dl) (a0n dl) mD rfl
  have hLC: ∀m,m<X.length→LC (tR X (dvN dl)) (X.getD m []):=fun m hm=>⟨by rw[a3I];exact hRc.2.2 m hm,(hN m hm).1⟩
  have hYm: ∀m,m<Y.length→row Y m∈X:=fun m hm=>hP.mem_iff.1 (a2X hm)
  have hX': ∀y,y∈X→y.length=X.length∧NL y:=fun y hy=>by
   obtain⟨m,hm,rfl⟩:=List.getElem_of_mem hy
   have e:row X m=X[m]:=by unfold row;rw[List.getD_eq_getElem?_getD,List.getElem?_eq_getElem hm];rfl
   rw[←e]
   exact⟨hRc.2.2 m hm,(hN m hm).1⟩
  have k8:=cRcI (a1d Y) (a0n dl) (by rw[hYl];exact mX) mD (fun m hm=>⟨(hX' _ (hYm m hm)).2,by rw[(hX' _ (hYm m hm)).1];exact mX⟩)
  have hT2:=hT.perm hP.symm (fun _ _=>rfl)
  rw[b5K ⟨by rw[hYl];exact hRc.1,by rw[hYl];exact hRc.2.1,fun m hm=>by rw[hYl];exact(hX' _ (hYm m hm)).1⟩ hT2]at k8
  dsimp only at k8
  have k9:=b5e (a:=b2Q (tN Y (dvN dl)) Y.length) (b:=b2Q (tN X (dvN dl)) X.length) (by
   have:=a0V (tN Y (dvN dl)) Y.length
   rwa [show a0L (tN Y (dvN dl)) Y.length=a0L (tN X (dvN dl)) X.length from b5a hP (fun _ _=>rfl)]at this) (a0V (tN X (dvN dl)) X.length) hRg.1.sz
  refine Ygi ?_
  refine a0z _ k2 (.cons (a2G (a1d X) (by decide)) (.cons (a6b (a0n dl) (by decide)) .nil)) rfl rfl (b1u _ _ _) ?_
  refine Ygi ?_
  refine a0z _ kl (.cons (a1k Ur (by decide)) (.cons (a1k Ur (by decide)) .nil)) rfl rfl rfl ?_
  simp(disch:=first|assumption|omega) only[go_sem,a1l]
  refine a0z _ k3 (.cons (a1E (n:=7) (.cons (a1k Ur (by decide)) .nil)) .nil) rfl rfl rfl ?_
  simp(disch:=first|assumption|omega) only[go_sem,a9o,a1l]
  refine a0z _ k4 (.cons (a1E (n:=7) (.cons (a1k Ur (by decide)) .nil)) .nil) rfl rfl (b0M _ _) ?_
  simp(disch:=first|assumption|omega) only[go_sem,b4A,a1l]
  refine a0z _ k5 (.cons (a1E (n:=7) (.cons (a1k Ur (by decide)) .nil)) .nil) rfl rfl (c0U _ _) ?_
  simp(disch:=first|assumption|omega) only[go_sem,b3q]
  refine a0z _ k6 (.cons (a0q Ur rfl (by decide)) (.cons (a6b (a0n dl) (by decide)) .nil)) rfl rfl rfl ?_
  simp(disch:=first|assumption|omega) only[go_sem,a5P,hYl]
  obtain⟨g1,e1⟩: ∃g,g=gn1 20576+1:=⟨_,rfl⟩
  obtain⟨g2,e2⟩: ∃g,g=gn1 20512+1:=⟨_,rfl⟩
  obtain⟨g3,e3⟩: ∃g,g=gn1 45072+1:=⟨_,rfl⟩
  obtain⟨g4,e4⟩: ∃g,g=gn1 49168+1:=⟨_,rfl⟩
  rw[←e1, ←e2, ←e3, ←e4]
  refine a0f (fun i st=>st.sl 0=a∧st.sl 3=a2x X∧st.sl 5= .ptr 20576 g1 [] 0∧st.sl 13= .ref 49168 g4 [] 0 X.length∧st.sl 11= .ref 45072 g3 [] 0 dl.length∧st.sl 15=i64 (i:Int)∧st.ro 20576 g1=some (.bx [.ref 20512 g2 [] 0 X.length])∧st.ro 20512 g2=some (a0t (tN X (dvN dl)) X.length)∧st.ro 45072 g3=some (a0H dl)∧st.ro 49168 g4=some (a0I Y)) X.length ?_ ?_ ?_
  ·simp only[↓za, ↓reduceIte,Nat.reduceEqDiff,zb,reduceCtorEq]
   exact⟨s0,rfl⟩
  ·rintro i sl ro gn hi ⟨s0,s3,s5,s13,s11,s15,r20576,r20512,r45072,r49168⟩
   dsimp only at s0 s3 s5 s13 s11 s15 r20576 r20512 r45072 r49168
   have hi':(i:Int)<(X.length:Nat):=by omega
   have iX:i<X.length:=by omega
   have k7:=c4w (a0V (tN X (dvN dl)) X.length) hRg.1.sz (a0m (a1d X) iX) (hN' i iX).2
   have hR7:=a0m (a1d X) iX
   simp(disch:=first|assumption|omega) only[go_sem,s3,s5,s15,hi',r20576,r20512,a1l,a5P,a0S (a1d X) iX,b8H _ hR7,a2r hR7]
   have i7:icV (a0L (tN X (dvN dl)) X.length) (row X i)=(true,0):=(b9V hRg hCm (hLC i iX)).trans (congrArg (·,0) ((a3B _ _).2 (hch i iX)))
   rw[i7]at k7
   dsimp only at k7
   refine a1V _ k7 (.cons (a1E (n:=7) (.cons (a1k r20512 (by decide)) .nil)) (.cons (a6b (a0m (a1d X) iX) (by decide)) .nil)) rfl rfl ?_
   simp(disch:=first|assumption|omega) only[go_sem,a9o]
   refine a0r (by repeat' split<;>kernel_rfl) ?_
   simp(disch:=first|assumption|omega) only[go_sem,s0,s3,s5,s13,s11,s15,r20576,r20512,r45072,r49168]
   exact a0w (by omega)
  ·rintro sl ro gn ⟨s0,s3,s5,s13,s11,s15,r20576,r20512,r45072,r49168⟩
   dsimp only at s0 s3 s5 s13 s11 s15 r20576 r20512 r45072 r49168
   have hi': ¬((X.length:Nat):Int)<(X.length:Nat):=by omega
   simp(disch:=first|assumption|omega) only[go_sem,s3,s13,s11,s15,hi',a5P]
   refine a0z _ k8 (.cons (a6l (by first|exact r49168|(simp only[↓za, ↓reduceIte,Nat.reduceEqDiff,zb,reduceCtorEq];exact r49168)) hYl.symm (by decide)) (.cons (a0q (by first|exact r45072|(simp only[↓za, ↓reduceIte,Nat.reduceEqDiff,zb,reduceCtorEq];exact r45072)) rfl (by decide)) .nil)) rfl rfl (b1u _ _ _) ?_
   simp(disch:=first|assumption|omega) only[go_sem,s5,b3U,a1l,r20576]
   refine a0z _ k9 (.cons (a1k Ur (by decide)) (.cons (a1k (Ue r20512) (by decide)) .nil)) rfl rfl rfl ?_
   simp(disch:=first|assumption|omega) only[go_sem,s0]
 ·have hE: ∃e:Int,rcV X dl=(a1q,e)∧e≠0:=by
   by_cases h1:RcC X dl
   ·exact⟨5,b0r h1 (fun h2=>hT ⟨h1,h2⟩),by decide⟩
   ·exact⟨2,a5W h1,by decide⟩
  obtain⟨e,eE,he⟩:=hE
  rw[eE]at k1 k2
  dsimp only at k1 k2
  have kl:=b5e (a:=a1q) (b:=a1q) (T:=[]) (.inr ⟨rfl,rfl⟩) (.inr ⟨rfl,rfl⟩) (by unfold SzP;decide)
  refine Yao ?_
  refine a0z _ k1 (.cons (a2G (a1d X) (by decide)) (.cons (a6b (a0n dl) (by decide)) .nil)) rfl rfl rfl ?_
  refine Ygf ?_
  refine a0z _ k2 (.cons (a2G (a1d X) (by decide)) (.cons (a6b (a0n dl) (by decide)) .nil)) rfl rfl rfl ?_
  refine Ygf ?_
  refine a0z _ kl (.cons (a1f _ _ _ (by decide)) (.cons (a1f _ _ _ (by decide)) .nil)) rfl rfl rfl ?_
  simp(disch:=first|assumption|omega) only[go_sem,eq_false he]
  exact s0
end
section
variable{a:AV}{bs:List Int}{sl:Nat→AV}{ro:Ro}{gn:Nat→Nat}
set_option maxHeartbeats 16000000 in
theorem ctS2(hc:Cod a bs)(hl:bs.length≤4096)(s0:sl 0=a):WK XX (c3T 7 (a0b Tryz.f5)) [] (RET ti0 [.tmp 2] (bo true)) ⟨sl,ro,gn⟩:=by
 dsimp only[Tryz.f5,a0b,Option.getD,c3T]
 refine Yav ?_
 refine a0p rfl (c0h hc hl) ?_
 rintro _ ro1 gn1 ⟨-, T,U,c,d,r2,r3,rfl,hR,hR',hL1,hL2⟩
 obtain⟨s,u,o,m,cv,rfl,⟨n1,n2,hm1,hsI,rfl⟩,lu,hbk,hcv,hz,hx⟩:=id hR
 obtain⟨t,u',o',m',dv,rfl,⟨n1',n2',hm1',hsI',rfl⟩,lu',hbk',hdv,hz',hx'⟩:=id hR'
 obtain⟨s1,u1,p1,X,rfl,hs1,k11,k12,k13,k14⟩:=hL1
 obtain⟨s2,u2,p2,Y,rfl,hs2,k21,k22,k23,k24⟩:=hL2
 have ne: ∀ {s:Nat},s∈WRs→s≠98416∧s≠98432∧s≠102464∧s≠106560∧s≠122912:=fun h=>by
  simp only[WRs,WDs,List.mem_cons,List.not_mem_nil,or_false]at h
  omega
 obtain⟨a1,a2,a3,a4,a5⟩:=ne hsI
 obtain⟨b1,b2,b3,b4,b5⟩:=ne hsI'
 have lX:X.length≤a0G:=by unfold a0G;omega
 have lY:Y.length≤a0G:=by unfold a0G;omega
 have hqT: ∀(ro2:Ro),(∀x y,y≤gn1 x→x≠8288→x≠4096→ro2 x y=ro1 x y)→exq 8 ro2 (.agg [.ref s u [] o T.length]) (.agg [cv]):=fun ro2 h=>a1E (n:=7) (.cons (hx ro2 (fun x y e hy=>h x y hy (by rcases e with rfl|rfl;exact n1;decide) (by rcases e with rfl|rfl;exact n2;decide))) .nil)
 have hqU: ∀(ro2:Ro),(∀x y,y≤gn1 x→x≠8288→x≠4096→ro2 x y=ro1 x y)→exq 8 ro2 (.agg [.ref t u' [] o' U.length]) (.agg [dv]):=fun ro2 h=>a1E (n:=7) (.cons (hx' ro2 (fun x y e hy=>h x y hy (by rcases e with rfl|rfl;exact n1';decide) (by rcases e with rfl|rfl;exact n2';decide))) .nil)
 have hqX: ∀(ro2:Ro),(∀x y,y≤gn1 x→x≠8288→x≠4096→ro2 x y=ro1 x y)→exq 8 ro2 (.ref s1 u1 p1 0 X.length) (.imm (X.map i64)):=fun ro2 h=>b1W (k14 ro2 (h s1 u1 k12 (by omega) (by omega))).1 (by decide)
 have hqY: ∀(ro2:Ro),(∀x y,y≤gn1 x→x≠8288→x≠4096→ro2 x y=ro1 x y)→exq 8 ro2 (.ref s2 u2 p2 0 Y.length) (.imm (Y.map i64)):=fun ro2 h=>b1W (k24 ro2 (h s2 u2 k22 (by omega) (by omega))).1 (by decide)
 by_cases h0:pcV T U X Y=0
 ·have hall:(a2j T∧a2j U)∧(CmP T∧CmP U)∧(KC T X∧KC U Y):=by
   by_cases h1:a2j T∧a2j U
   ·by_cases h2:CmP T∧CmP U
    ·by_cases h3:KC T X∧KC U Y
     ·exact⟨h1,h2,h3⟩
     ·rw[b0j h1 h2 h3]at h0;exact absurd h0 (by decide)
    ·rw[b4e h1 h2]at h0;exact absurd h0 (by decide)
   ·rw[b5l h1]at h0;exact absurd h0 (by decide)
  obtain⟨⟨gR,gU⟩,⟨gC,gD⟩,gX,gY⟩:=hall
  have k1:=c4Y hcv hdv (a0n X) (a0n Y) gR gU gC gD gX gY
  have k2:=c4Z hcv hdv (a0n X) (a0n Y) gR gU gC gD gX gY
  have x16:X.length≤16:=by rw[gX.1.1];exact gR.1.2.1
  have y16:Y.length≤16:=by rw[gY.1.1];exact gU.1.2.1
  obtain⟨Z,eZ⟩: ∃Z,prX X Y=Z:=⟨_,rfl⟩
  have lZ:Z.length≤256:=by rw[←eZ,b0e];exact Nat.mul_le_mul x16 y16
  have mZ:Z.length≤a0G:=by unfold a0G;omega
  rw[eZ]at k1 k2
  have k3:=b1R (a0n Z) (a0n Z) mZ rfl
  refine Ycw ?_
  refine a0z _ k1 (.cons (hqT _ (by intro x y hy h1 h2;simp only[zdb];repeat' (first|rfl|rw[if_neg (by rintro⟨rfl,rfl⟩;omega)]))) (.cons (hqU _ (by intro x y hy h1 h2;simp only[zdb];repeat' (first|rfl|rw[if_neg (by rintro⟨rfl,rfl⟩;omega)]))) (.cons (hqX _ (by intro x y hy h1 h2;simp only[zdb];repeat' (first|rfl|rw[if_neg (by rintro⟨rfl,rfl⟩;omega)]))) (.cons (hqY _ (by intro x y hy h1 h2;simp only[zdb];repeat' (first|rfl|rw[if_neg (by rintro⟨rfl,rfl⟩;omega)]))) .nil)))) rfl rfl (b0M _ _) ?_
  simp(maxSteps:=10000000) (disch:=first|assumption|omega) only[go_sem,b4A,a1l]
  refine a0z _ k2 (.cons (hqT _ (by intro x y hy h1 h2;simp only[zdb];repeat' (first|rfl|rw[if_neg (by rintro⟨rfl,rfl⟩;omega)]))) (.cons (hqU _ (by intro x y hy h1 h2;simp only[zdb];repeat' (first|rfl|rw[if_neg (by rintro⟨rfl,rfl⟩;omega)]))) (.cons (hqX _ (by intro x y hy h1 h2;simp only[zdb];repeat' (first|rfl|rw[if_neg (by rintro⟨rfl,rfl⟩;omega)]))) (.cons (hqY _ (by intro x y hy h1 h2;simp only[zdb];repeat' (first|rfl|rw[if_neg (by rintro⟨rfl,rfl⟩;omega)]))) .nil)))) rfl rfl (b0M _ _) ?_
  simp(maxSteps:=10000000) (disch:=first|assumption|omega) only[go_sem,b4A]
  refine a0z _ k3 (.cons (a0q Ur rfl (by decide)) (.cons (a0q Ur rfl (by decide)) .nil)) rfl rfl rfl ?_
  have hw:wrF ((T.length:Int)*(U.length:Int))=(T.length:Int)*(U.length:Int):=by
   have h1:T.length*U.length≤256:=Nat.mul_le_mul gR.1.2.1 gU.1.2.1
   have h2:((T.length*U.length:Nat):Int)=(T.length:Int)*(U.length:Int):=Int.natCast_mul _ _
   exact zfu (by omega) (by omega)
  by_cases h16:(16:Int)<(T.length:Int)*(U.length:Int)
  ·simp(maxSteps:=10000000) (disch:=first|assumption|omega) only[go_sem,a1l,a3i,hbk,hbk',a1,a2,a3,a4,b1,b2,b3,b4,hw,eq_true h16]
   exact Yaa
  ·have h16':T.length*U.length≤16:=by
    have:((T.length*U.length:Nat):Int)=(T.length:Int)*(U.length:Int):=Int.natCast_mul _ _
    omega
   rcases cPrI hcv hdv gR gU h16' with⟨hq,k4⟩|k4
   ·obtain⟨n,en⟩: ∃n,T.length*U.length=n:=⟨_,rfl⟩
    have pR:=c1g gR gU h16' hq
    have pC:=c4h (T:=T) (U:=U) gC gD
    have pX:chP (prT T U) (prX X Y):=c4P gX.2 gY.2 gX.1.1 gY.1.1 gR.1.1 gU.1.1
    have pL:LC (prT T U) (prX X Y):=⟨by rw[a8i,b0e,gX.1.1,gY.1.1],c2V X Y⟩
    have k5:=c4w (a0V (prF (at3 T) (at3 U) U.length) (T.length*U.length)) pR.1.sz (a0n Z) mZ
    have i5:icV (a0L (prF (at3 T) (at3 U) U.length) (T.length*U.length)) Z=(true,0):=by
     rw[←eZ]
     exact(b9V pR pC pL).trans (congrArg (·,0) ((a3B _ _).2 pX))
    rw[i5]at k5
    dsimp only at k5
    refine Yce ?_
    refine a0z _ k4 (.cons (hqT _ (by intro x y hy h1 h2;simp only[zdb];repeat' (first|rfl|rw[if_neg (by rintro⟨rfl,rfl⟩;omega)]))) (.cons (hqU _ (by intro x y hy h1 h2;simp only[zdb];repeat' (first|rfl|rw[if_neg (by rintro⟨rfl,rfl⟩;omega)]))) .nil)) rfl rfl (b1u _ _ _) ?_
    simp(maxSteps:=10000000) (disch:=first|assumption|omega) only[go_sem,b3U,a1l]
    refine a0z _ k5 (.cons (a1E (n:=7) (.cons (a1k Ur (by decide)) .nil)) (.cons (a0q Ur rfl (by decide)) .nil)) rfl rfl rfl ?_
    refine Yde ?_
    exact Yaa
   ·have k5:=c4w (c:=a1q) (T:=[]) (.inr ⟨rfl,rfl⟩) (by unfold SzP;decide) (a0n Z) mZ
    generalize icV [] Z=w at*
    obtain⟨w1,w2⟩:=w
    dsimp only at k5
    refine Yce ?_
    refine a0z _ k4 (.cons (hqT _ (by intro x y hy h1 h2;simp only[zdb];repeat' (first|rfl|rw[if_neg (by rintro⟨rfl,rfl⟩;omega)]))) (.cons (hqU _ (by intro x y hy h1 h2;simp only[zdb];repeat' (first|rfl|rw[if_neg (by rintro⟨rfl,rfl⟩;omega)]))) .nil)) rfl rfl rfl ?_
    simp(maxSteps:=10000000) (disch:=first|assumption|omega) only[go_sem,a7L,a1l]
    refine a0z _ k5 (.cons (a1E (n:=7) (.cons (a1f _ _ _ (by decide)) .nil)) (.cons (a0q Ur rfl (by decide)) .nil)) rfl rfl rfl ?_
    refine Yde ?_
    show STP (some false) XX 32 _ _ _ _ _ _ _
    simp(maxSteps:=10000000) (disch:=first|assumption|omega) only[go_sem]
    exact Yaa
 ·have k1:=c5a hcv hdv hz hz' (a0n X) (a0n Y) lX lY h0
  have k2:=c4n hcv hdv (a0n X) (a0n Y) lX lY h0
  have k3:=b1R (a:=a1q) (b:=a1q) (X:=[]) (Y:=[]) (.inr ⟨rfl,rfl⟩) (.inr ⟨rfl,rfl⟩) (by decide) rfl
  generalize pcV T U X Y=e at*
  refine Ycw ?_
  refine a0z _ k1 (.cons (hqT _ (by intro x y hy h1 h2;simp only[zdb];repeat' (first|rfl|rw[if_neg (by rintro⟨rfl,rfl⟩;omega)]))) (.cons (hqU _ (by intro x y hy h1 h2;simp only[zdb];repeat' (first|rfl|rw[if_neg (by rintro⟨rfl,rfl⟩;omega)]))) (.cons (hqX _ (by intro x y hy h1 h2;simp only[zdb];repeat' (first|rfl|rw[if_neg (by rintro⟨rfl,rfl⟩;omega)]))) (.cons (hqY _ (by intro x y hy h1 h2;simp only[zdb];repeat' (first|rfl|rw[if_neg (by rintro⟨rfl,rfl⟩;omega)]))) .nil)))) rfl rfl rfl ?_
  simp(maxSteps:=10000000) (disch:=first|assumption|omega) only[go_sem,a9o,a1l]
  refine a0z _ k2 (.cons (hqT _ (by intro x y hy h1 h2;simp only[zdb];repeat' (first|rfl|rw[if_neg (by rintro⟨rfl,rfl⟩;omega)]))) (.cons (hqU _ (by intro x y hy h1 h2;simp only[zdb];repeat' (first|rfl|rw[if_neg (by rintro⟨rfl,rfl⟩;omega)]))) (.cons (hqX _ (by intro x y hy h1 h2;simp only[zdb];repeat' (first|rfl|rw[if_neg (by rintro⟨rfl,rfl⟩;omega)]))) (.cons (hqY _ (by intro x y hy h1 h2;simp only[zdb];repeat' (first|rfl|rw[if_neg (by rintro⟨rfl,rfl⟩;omega)]))) .nil)))) rfl rfl rfl ?_
  simp(maxSteps:=10000000) (disch:=first|assumption|omega) only[go_sem,a9o]
  refine a0z _ k3 (.cons (a1f _ _ _ (by decide)) (.cons (a1f _ _ _ (by decide)) .nil)) rfl rfl rfl ?_
  simp(maxSteps:=10000000) (disch:=first|assumption|omega) only[go_sem,eq_false h0]
  exact Yaa
theorem cChT(hb:isB a bs)(hr: ∀k,0≤atI bs k∧atI bs k<256):a0d Tryz.prog 5 [a] (bo true):=by
 have hpa:a0W a=true:=a7A hb
 refine a0e (fn:=Tryz.f5) (code:=a0b Tryz.f5) Tryz.func5 rfl (by kernel_rfl) (rfl) ?_
 intro sl hs
 have s0:sl 0=a:=hs 0
 by_cases hl:4096<bs.length
 ·have cB:=cBig hb
  rw[decide_eq_true hl]at cB
  dsimp only[Tryz.f5,a0b,Option.getD]
  refine Yav ?_
  refine a0c _ cB (by simp only[a0Q,hpa,Bool.and_self]) rfl rfl ?_
  refine Yav ?_
  exact Yaa
 ·have hl':bs.length≤4096:=by omega
  have hc:Cod a bs:=⟨hb,fun k _=>hr k,by omega⟩
  refine b9m (fun st=>st.sl 0=a) 7 (ctS1 hc hb hl' s0) ?_
  intro sl ro gn h
  exact ctS2 hc hl' h
end
end Go.Proofs.YtbakhfiibjkifaaGreat
/- What the law hands in, read by the machine: bytes. -/
namespace Go.Proofs.YtbakhfiibjkifaaGreat
open Go.RowKit Go.ChangeShapes Go.WideShapes Go.Deep Go.Joins
theorem wf8{n:Int}(h:(Lit.int .u8 n).wf=true):0≤n∧n<256:=by
 have e:IntKind.bits .u8=8:=rfl
 have s:IntKind.signed .u8=false:=rfl
 simp only[Lit.wf,IntKind.min,IntKind.max,s,e]at h
 simp at h
 omega
section
variable{H:Type}{enc:TypeId×Value→H}{P:Program}{w:World}{held:Bool}
theorem c1v{t e:TypeId}{fuel:Nat}{v:Value}{x:DataW H×List MemPlace}(ht:P.underlying t=some (.slice e))(he:P.underlying e=some (.int .u8))(hc:P.cellsOf e=1)(h:DataW.trod enc P w 0 (fun _=>true) held fuel t [v]=some x):
  ∃a xs,Rel (cx0 w (fun _=>False)) a v []∧isB a xs∧xs.length<2^63∧ ∀j,0≤atI xs j∧atI xs j<256:=by
 rcases open_ints ht he hc h with⟨hcs,_⟩|⟨ad,len,cap,zs,hcs,_,hl,hm,hz,_,hcell,hwf⟩
 ·simp only[List.cons.injEq,and_true]at hcs
  subst hcs
  exact⟨.sc (.slice none 0 0),[],.sc _ .nil,.inr ⟨rfl,_,_,rfl⟩,by simp,fun j=>by simp[atI]⟩
 ·simp only[List.cons.injEq,and_true]at hcs
  subst hcs
  simp only[if_true]at hz
  have hmx:cap<2^63:=Nat.lt_of_le_of_lt hm (by decide)
  rcases Nat.eq_zero_or_pos len with h0|hpos
  ·subst h0
   exact⟨.sc (.slice (some ad) 0 cap),[],.sc _ .nil,.inr ⟨rfl,_,_,rfl⟩,by simp,fun j=>by simp[atI]⟩
  ·have hc0:=hcell 0 (by omega)
   obtain⟨hs,hb⟩:=b4P hc0
   have hs':ad.spot=none:=by simpa [Addr.add]using hs
   have hb':ad.block<w.heap.size:=by simpa [Addr.add]using hb
   have hlen:(zs.take len).length=len:=by rw[List.length_take];omega
   have hlen2:((zs.take len).map (Value.int .u8)).length=len:=by rw[List.length_map,hlen]
   refine⟨.imm ((zs.take len).map u8),zs.take len,?_,.inl rfl,by omega,fun j=>?_⟩
   ·have hr:a0h (cx0 w (fun _=>False)) ((zs.take len).map u8) ((zs.take len).map (Value.int .u8)) []:=by
     have:=a3F (cx0 w (fun _=>False)) ((zs.take len).map (Value.int .u8))
     rwa [List.map_map]at this
    have:=a0h.imm (c:=cx0 w (fun _=>False)) ad.block ad.off cap hr ⟨fun h=>h,hb',fun i u hu=>?_⟩ (by rw[hlen2];exact hl) a0h.nil
    ·rw[hlen2]at this
     have e:(⟨ad.block,ad.off,none⟩:Addr)=ad:=by cases ad;simp_all
     rwa [e]at this
    ·show w.cell? ⟨ad.block,ad.off+i,none⟩=some u
     rw[←b5T hs' i]
     have hi:i<len:=by
      have:=(List.getElem?_eq_some_iff.1 hu).1
      rwa [hlen2]at this
     rw[hcell i (by omega)]
     rw[List.getElem?_map,List.getElem?_take,if_pos hi]at hu
     cases hzi:zs[i]? with
     |none=>rw[hzi]at hu;cases hu
     |some z=>
      rw[hzi]at hu
      simp only[Option.map_some,Option.some.injEq]at hu
      rw[←hu]
      simp[List.getD_eq_getElem?_getD,hzi]
   ·rcases Nat.lt_or_ge j (zs.take len).length with hj|hj
    ·have hmem:atI (zs.take len) j∈zs:=by
      have:atI (zs.take len) j=(zs.take len)[j]:=by simp only[atI,List.getD_eq_getElem?_getD,List.getElem?_eq_getElem hj,Option.getD_some]
      rw[this]
      exact List.mem_of_mem_take (List.getElem_mem hj)
     exact wf8 (hwf _ hmem)
    ·rw[a2c hj];exact⟨by decide,by decide⟩
end
end Go.Proofs.YtbakhfiibjkifaaGreat
