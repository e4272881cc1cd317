/- Texts joined: CqB CqC CqD. -/
import Derived.Test.YtbakhfiibjkifaaGreatMi
import Derived.Test.YtbakhfiibjkifaaGreatCx
import Derived.Test.YtbakhfiibjkifaaGreatTb
set_option linter.all false
/- Characters: a drawn number that leaves nothing behind; what RingOfCharacters' draw gives. -/
namespace Go.Proofs.YtbakhfiibjkifaaGreat
open Go.RowKit
set_option maxRecDepth 1000000
section
variable{a:AV}{bs:List Int}{g:Nat}{ro0:Ro}{gn0:Nat→Nat}
theorem b5o(ha:isB a bs)(k h:Int):a0C (b2s a k h)=true:=by
 have e:a0C a=true:=by
  rcases ha with rfl|⟨-, o,c,rfl⟩
  ·show a0j (bs.map u8)=true
   induction bs with
   |nil=>rfl
   |cons b bs ih=>exact ih
  ·rfl
 show (a0C a&&(true&&(true&&true)))=true
 rw[e];rfl
theorem c4K(hc:Cod a bs)(hs:Src a bs (ro0 8288 g)):InS Tryz.prog 69 [.ptr 8288 g [] 0] ro0 gn0 (NxP a bs g ro0 gn0 55441):=by
 refine((sDr1 hc hs).low ?_).mono ?_
 ·rintro r ro' gn' ⟨fr,⟨k,h, -, eS⟩,v,rfl, -⟩
  refine⟨rfl,fun s y b hy hb=>?_⟩
  by_cases e:CxS g s y
  ·obtain⟨rfl,rfl⟩:=e
   rw[eS]at hb
   obtain rfl:=Option.some.inj hb
   exact .inr (b5o hc.b _ _)
  ·rw[fr.kp s y hy e]at hb
   exact .inl hb
 ·rintro r ro2 gn2 ⟨⟨ro',gn',⟨fr,⟨k,h,hk,eS⟩,v,rfl,hv⟩,rfl⟩,rfl,hnone⟩
  have hg:g≤gn2 8288:=by
   obtain⟨k0,h0, -, e0⟩:=hs
   refine Nat.le_of_not_lt fun hlt=>?_
   rw[hnone 8288 g hlt]at e0
   cases e0
  refine⟨v,rfl,fun h=>absurd h (by decide),fun _=>hv,rfl,b2s a (k:Int) h,?_,k,h,hk,rfl⟩
  funext s y
  unfold b8k
  rw[zdb]
  by_cases hy:y≤gn2 s
  ·rw[if_pos hy]
   by_cases e:s=8288∧y=g
   ·rw[if_pos e]
    obtain⟨rfl,rfl⟩:=e
    exact eS
   ·rw[if_neg e]
    exact fr.kp s y hy e
  ·rw[if_neg hy,if_neg (fun e=>hy (by rw[e.1,e.2];exact hg)),hnone s y (by omega)]
theorem xDr1{ops:Array Oper}{i:Nat}{st:St}(hc:Cod a bs)(hs:Src a bs (st.ro 8288 g))(ha:a2U ops i=true):inX XX ops i 69 [.ptr 8288 g [] 0] st (NxP a bs g st.ro st.gn 55441) [] [8288]:=
 ⟨fun ro1 gn1 h1 h2=>(c4K hc (by rw[h1 8288 (.inr (by simp))];exact hs)).mono fun _ _ _ h=>h.loc (h1 8288 (.inr (by simp))) (h2 8288 (by simp)),fun _ _ _ h=>h.off,ha,.inl (NxP.ne hs)⟩
end
theorem a5E{k1 k2:Nat}{Po:AV→Ro→(Nat→Nat)→Prop}{sl:Nat→AV}{ro:Ro}{gn:Nat→Nat}{x y:AV}(h1:sl k1=x)(h2:sl k2=y)(hp:Po (.tup [x,y]) ro gn):c1A ti0 [.tmp k1,.tmp k2] Po .ret ⟨sl,ro,gn⟩:=by
 subst h1
 subst h2
 exact⟨.inr rfl,[sl k1,sl k2],rfl,hp⟩
theorem a6s(x:List Int):b3e (a0H x)=a3q x:=by
 show AV.imm (a6U (x.map i64))=_
 rw[a3w,List.map_map]
 exact congrArg AV.imm (List.map_congr_left fun _ _=>rfl)
theorem b2I(X:List (List Int)):b3e (a0I X)=a2x X:=by
 show AV.imm (a6U (X.map a0H))=_
 rw[a3w,List.map_map]
 exact congrArg AV.imm (List.map_congr_left fun x _=>a6s x)
theorem b2O(x:List Int):a0C (a3q x)=true:=by
 show a0j (x.map i64)=true
 induction x with
 |nil=>rfl
 |cons z x ih=>exact ih
theorem b4Y(Y:List (List Int)):a0j (Y.map a3q)=true:=by
 induction Y with
 |nil=>rfl
 |cons z x ih=>
  show (a0C (a3q z)&&a0j (x.map a3q))=true
  rw[b2O,ih];rfl
theorem b3L(x:List Int):b3e (a3q x)=a3q x:=by simp only[b3e]
theorem b2k(x:List Int):a8y (a0H x):= .inl ⟨_,rfl,a1K _ (fun _=>rfl) _⟩
def Wrc:List Nat:=[20480,20512,24624,57360,69664,69728]++Wdc
def RcD(gn0:Nat→Nat)(r:AV)(ro':Ro):Prop:= ∃(X:List (List Int)) (dl:List Int) (s1 g1 s2 g2:Nat),TwoI ro' r (a2x X) (.imm (dl.map i64)) s1 g1 s2 g2∧(s1∈Wrc∧gn0 s1<g1)∧(s2∈Wrc∧gn0 s2<g2)∧X.length≤16∧dl.length≤16∧ ∀m,m<X.length→NL (row X m)∧(row X m).length≤16
theorem RcD.of{gn0:Nat→Nat}{ro':Ro}{s1 g1 s2 g2 n off:Nat}{W:List (List Int)}{dl:List Int}(h1:ro' s1 g1=some (a0I W))(h2:ro' s2 g2=some (a0H dl))(hne:s1≠s2)(ho:off≤W.length)(hn:n=W.length-off)(m1:s1∈Wrc∧gn0 s1<g1)(m2:s2∈Wrc∧gn0 s2<g2)(l1:W.length≤16)(l2:dl.length≤16)(hW: ∀m,m<W.length→NL (row W m)∧(row W m).length≤16):RcD gn0 (.tup [.ref s1 g1 [] off n,.ref s2 g2 [] 0 dl.length]) ro':=by
 have e1:((a6U (W.map a0H)).drop off).take n=(W.drop off).map a3q:=by
  rw[a3w,List.map_map, ←List.map_drop,List.take_of_length_le (by rw[List.length_map,List.length_drop,hn];exact Nat.le_refl _)]
  exact List.map_congr_left fun x _=>a6s x
 have e2:(a6U (dl.map i64)).take dl.length=dl.map i64:=by
  rw[a3w,List.map_map,List.take_of_length_le (by rw[List.length_map];exact Nat.le_refl _)]
  exact List.map_congr_left fun _ _=>rfl
 refine⟨W.drop off,dl,s1,g1,s2,g2,⟨off,n,dl.length,W.map a0H,dl.map i64,rfl,hne,h1,h2,fun a ha=>?_,fun a ha=>?_,by rw[List.length_map];omega,by rw[List.length_map];exact Nat.le_refl _,by rw[e1],by rw[e2]⟩,m1,m2,by rw[List.length_drop];omega,l2,fun m hm=>?_⟩
 ·obtain⟨x, -, rfl⟩:=List.mem_map.1 ha
  exact .inl (b2k x)
 ·obtain⟨x, -, rfl⟩:=List.mem_map.1 ha
  exact .inr ⟨_,rfl⟩
 ·rw[List.length_drop]at hm
  have e:row (W.drop off) m=row W (off+m):=by
   unfold row
   rw[List.getD_eq_getElem?_getD,List.getElem?_drop,List.getD_eq_getElem?_getD]
  rw[e]
  exact hW (off+m) (by omega)
theorem xFrz{ops:Array Oper}{i f:Nat}{st:St}{args:List AV}{r:AV}{R:List Nat}(h: ∀ro1:Ro,(∀s,s∈R→ro1 s=st.ro s)→a0d Tryz.prog f (args.map (ex ro1 8)) r)(hI:noI r=true)(ha:a2U ops i=true):inX XX ops i f args st (fun v ro' gn'=>v=b3e r∧ro'=st.ro∧gn'=st.gn) R []:=by
 refine⟨fun ro1 gn1 h1 h2=>(c0Y (h ro1 fun s hs=>h1 s (.inl hs)) hI).mono ?_,?_,ha,.inl ⟨_,_,_,rfl,rfl,rfl⟩⟩
 ·rintro v ro' gn' ⟨rfl,rfl,rfl⟩
  exact⟨st.ro,st.gn,⟨rfl,rfl,rfl⟩,funext fun s=>(a0O (by simp)).symm,funext fun s=>(a0O (by simp)).symm⟩
 ·rintro v ro' gn' ⟨-, rfl,rfl⟩ s hs
  exact⟨rfl,rfl⟩
theorem NL2{x y:Int}(hx:num x)(hy:num y):NL [x,y]:=fun j hj=>by
 rcases(show j=0∨j=1 by simp at hj;omega)with rfl|rfl
 ·exact⟨hx.1,by have:=hx.2;show x≤_;omega⟩
 ·exact⟨hy.1,by have:=hy.2;show y≤_;omega⟩
theorem b0q{ro:Ro}{s g k:Nat}{X:List (List Int)}(h:ro s g=some (a0I X))(hk:k<X.length):ro.cells s g [k]=some ((X.getD k []).map i64):=by
 unfold Ro.cells Ro.at
 simp only[h,a0I,ath,a2J hk]
theorem b7D{ro:Ro}{s g k:Nat}{X:List (List Int)}(h:ro s g=some (a0I X))(hk:k<X.length):a1L ro s g [k]=false:=by
 unfold a1L Ro.at
 simp only[h,a0I,ath,a2J hk]
theorem b6M{ro:Ro}{s g k j:Nat}{X:List (List Int)}{v:Int}(h:ro s g=some (a0I X))(hk:k<X.length):ro.wr ⟨s,g,[k],j,[i64 v]⟩=upr ro s g (a0I (X.set k ((X.getD k []).set j v))):=by
 unfold Ro.wr
 simp only[h,a0I,a3H,a2J hk,setL]
 rw[List.map_set,show a0H ((X.getD k []).set j v)= .row (((X.getD k []).map i64).set j (i64 v))from congrArg AV.row List.map_set]
theorem Frx.srcF{ro0 ro ro':Ro}{gn0 gn:Nat→Nat}{g:Nat}(h:Frx Wrc (fun _ _=>False) ro0 gn0 ro gn)(hg:gn0 8288<g)(f: ∀W rb gb,8288∈W→Frx W (CxS g) rb gb ro gn→Frx W (CxS g) rb gb ro' gn):Frx Wrc (fun _ _=>False) ro0 gn0 ro' gn:=
 h.trans (f Wrc _ _ (by decide) (Frx.refl _ _ _ _)) (fun x y (e:CxS g x y)=>by
  obtain⟨rfl,rfl⟩:=e
  exact .inl hg)
theorem b7V{X:List (List Int)}{i:Nat}{z:Int}(hX: ∀m,m<X.length→NL (row X m)∧(row X m).length≤16)(hi:i<X.length)(hz:0≤z∧z<55441): ∀m,m<(X.set i ((X.getD i []).set 0 z)).length→NL (row (X.set i ((X.getD i []).set 0 z)) m)∧(row (X.set i ((X.getD i []).set 0 z)) m).length≤16:=fun m hm=>by
 rw[List.length_set]at hm
 have h:=hX m hm
 by_cases e:i=m
 ·subst e
  have e:row (X.set i ((X.getD i []).set 0 z)) i=(X.getD i []).set 0 z:=by
   unfold row
   rw[List.getD_eq_getElem?_getD,List.getElem?_set_self hi];rfl
  rw[e]
  refine⟨fun j hj=>?_,by rw[List.length_set];exact h.2⟩
  rw[List.length_set]at hj
  unfold atI
  rw[List.getD_eq_getElem?_getD,List.getElem?_set]
  by_cases h0:0=j
  ·subst h0
   rw[if_pos rfl,if_pos hj]
   show 0≤z∧z≤_
   omega
  ·rw[if_neg h0, ←List.getD_eq_getElem?_getD]
   exact h.1 j hj
 ·have e:row (X.set i ((X.getD i []).set 0 z)) m=row X m:=by
   unfold row
   rw[List.getD_eq_getElem?_getD,List.getElem?_set_ne e, ←List.getD_eq_getElem?_getD]
  rw[e]
  exact h
section
variable{ro:Ro}{X:List (List Int)}{a1:Nat}{a2:Bool}{a3:List Value}{e:Nat}{a5:List (Nat×Nat)}{a6:Option IntKind}{a7 a8:Bool}{a9 a10:Option (Nat×Nat)}
theorem a5P:a5x (some ⟨a1,a2,a3,some e,a5,a6,a7,a8,a9,a10⟩) ro (a2x X)=some ⟨i64 X.length,none,[],[]⟩:=a0R (a1d X)
theorem b6r(h:1≤X.length):a3U (some ⟨a1,a2,a3,some e,a5,a6,a7,a8,a9,a10⟩) ro (a2x X) (some (.sc (.int .i64 1))) none=some ⟨a2x (X.drop 1),none,[],[]⟩:=by
 have h':(1:Int)≤((X.map a3q).length:Int):=by rw[List.length_map];omega
 show (if(0:Int)≤1∧(1:Int)≤((X.map a3q).length:Int)∧((X.map a3q).length:Int)≤((X.map a3q).length:Int)then some (⟨.imm (((X.map a3q).drop 1).take (((X.map a3q).length:Int)-1).toNat),none,[],[]⟩:Eff)else none)=_
 rw[if_pos ⟨by decide,h',Int.le_refl _⟩,List.take_of_length_le (by rw[List.length_drop];omega), ←List.map_drop]
theorem c1w(h:0<X.length):a5J (some ⟨a1,a2,a3,some e,a5,a6,a7,a8,a9,a10⟩) ro (a2x X) (.sc (.int .i64 0))=some ⟨.iptr [a3q (X.getD 0 [])],none,[],[]⟩:=by
 rw[a6c (a1d X) h]
 cases X with
 |nil=>cases h
 |cons x X=>rfl
end
def fpC(r:Option (List Nat)):List FP:=[⟨some [12320],[]⟩,⟨r,[24592]⟩,⟨some [12320],[]⟩,⟨r,[24624]⟩,e0,e0]
def fpD(r:Option (List Nat))(s:Nat):List FP:=[⟨some [12320],[]⟩,⟨some [s,500000],[]⟩,⟨some [12320],[]⟩,⟨r,[24624]⟩,e0,e0]
def fpZ:List FP:=[e0,e0,e0,⟨some [24592],[]⟩,⟨some [],[8288]⟩,⟨some [24592],[]⟩,⟨some [24592],[]⟩,e0,⟨some [],[8288]⟩,⟨some [24592],[]⟩,⟨some [24592],[24592]⟩]
section
variable{a:AV}{bs:List Int}{ro0:Ro}{gn0:Nat→Nat}
set_option maxHeartbeats 16000000 in
theorem b9q(hc:Cod a bs)(hl:bs.length≤4096):InS Tryz.prog 31 [a] ro0 gn0 (fun r ro' gn'=>Frx Wrc (fun _ _=>False) ro0 gn0 ro' gn'∧RcD gn0 r ro'):=by
 refine a1U (fn:=Tryz.f31) (code:=a0b Tryz.f31) Tryz.func31 rfl (by kernel_rfl) ?_
 intro sl hs
 have s0:sl 0=a:=hs 0
 dsimp only[Tryz.f31,a0b,Option.getD]
 simp(disch:=first|assumption|omega) only[go_sem,s0]
 refine a0p rfl (sFrm hc hl) ?_
 rintro _ _ _ ⟨rfl,w,rfl,rfl,hw⟩
 refine Yao ?_
 refine a0p rfl (c4e hc (Ue hw) (mx:=5) (by decide) (by decide)) ?_
 rintro _ ro1 gn1 ⟨fr1,hS1,T,c,rfl,hR,hV⟩
 have hF1:Frx Wrc (fun _ _=>False) ro0 gn0 ro1 gn1:=(show Frx Wrc (fun _ _=>False) ro0 gn0 _ _ from KFt).trans (fr1.monoB (by decide)) (by
  rintro x y ⟨rfl,rfl⟩
  exact .inl (by omega))
 obtain⟨s,u,o,m,cv,rfl,⟨n1,n2,hm1,hsI,hm⟩,h3,h4,h5,h6,h7⟩:=id hR
 obtain⟨e1,e2,e3,e4⟩:s≠8288∧s≠12320∧s≠24592∧s≠24624:=by
  have:=hsI
  simp only[WRs,WDs,List.mem_cons,List.not_mem_nil,or_false]at this
  omega
 have hbox: ∀(ro2:Ro),ro2 s=ro1 s→ro2 500000=ro1 500000→a8x 8 ro2 [.agg [.ref s u [] o m]] [.agg [cv]]:=fun ro2 k1 k2=> .cons (a1E (n:=7) (.cons (h7 ro2 (fun x y hx hy=>by
  rcases hx with rfl|rfl
  ·rw[k1]
  ·rw[k2])) .nil)) .nil
 have upE: ∀(ro:Ro) (S G:Nat) (v:AV),s≠S→upr ro S G v s=ro s:=fun ro S G v h=>funext fun y=>by rw[zdb,if_neg (fun e=>h e.1)]
 have upF: ∀(ro:Ro) (S G:Nat) (v:AV),500000≠S→upr ro S G v 500000=ro 500000:=fun ro S G v h=>funext fun y=>by rw[zdb,if_neg (fun e=>h e.1)]
 have w12320:=hF1.up 12320
 have w20480:=hF1.up 20480
 have w20496:=hF1.up 20496
 have w20512:=hF1.up 20512
 have w20528:=hF1.up 20528
 have w24592:=hF1.up 24592
 have w24624:=hF1.up 24624
 have w57360:=hF1.up 57360
 have w69664:=hF1.up 69664
 by_cases hRg:a2j T
 ·have c1:=b6y h5 (t:=true) ⟨fun _=>hRg,fun _=>rfl⟩
  by_cases hC:CmP T
  ·have c2:=a4F h5 hRg.1 (t:=true) ⟨fun _=>hC,fun _=>rfl⟩
   refine Yax ?_
   refine a0z _ c1 (hbox _ (by rw[upE _ _ _ _ e2,upE _ _ _ _ e2]) (by rw[upF _ _ _ _ (by decide),upF _ _ _ _ (by decide)])) rfl rfl rfl ?_
   refine Yax ?_
   refine a0z _ c2 (hbox _ (by rw[upE _ _ _ _ e2,upE _ _ _ _ e2]) (by rw[upF _ _ _ _ (by decide),upF _ _ _ _ (by decide)])) rfl rfl rfl ?_
   obtain⟨k,h,hk,hro⟩:=id hS1
   have c3:=c1X h5 hRg.1
   have cd:=b3t h5 hRg.1
   rw[a4U hRg]at cd
   obtain⟨X,eX⟩: ∃X,c0E T=X:=⟨_,rfl⟩
   have hX1:X.length≤16:=by rw[←eX, ←a7H hRg.1];exact Nat.le_trans (b0m hRg.1) hRg.1.2.1
   have hT16:=hRg.1.2.1
   have hX2: ∀k,k<X.length→(X.getD k []).length=T.length∧NL (X.getD k []):=fun k hk=>by
    have:=a2X hk
    rw[←eX]at this hk ⊢
    obtain⟨q1,q2, -⟩:=(a8e hRg.1).1 this
    exact⟨q1,fun j _=>by have:=q2 j;unfold num at this;omega⟩
   have hX3: ∀m,m<X.length→NL (row X m)∧(row X m).length≤16:=fun m hm=>⟨(hX2 m hm).2,by have:=(hX2 m hm).1;show (X.getD m []).length≤16;omega⟩
   rw[eX]at c3
   obtain⟨D,eD⟩: ∃D,rws (fun i=>((dd T i:Nat):Int)) T.length=D:=⟨_,rfl⟩
   have hD1:D.length=T.length:=by rw[←eD];exact zfe _ _
   rw[eD]at cd
   by_cases hv3:0<X.length∧nxV bs k h 10=3
   ·refine Yax ?_
    refine a4T (fpD (if shO (b0G (ro1 s u))=true then some [s]else none) s) (xFrz (r:=a0I X) (R:=[s,500000]) (fun ro2 h=>?_) (a3V X) (by kernel_rfl)) rfl ?_ rfl (by split<;>first|exact a4r (p:=fun s=>okD _ (fpD (some [s]) s)) hsI (by kernel_rfl)|exact a4r (p:=fun s=>okD _ (fpD none s)) hsI (by kernel_rfl)) rfl
    ·have g1:=h s (by simp)
     have g2:=h 500000 (by simp)
     dsimp only at g1 g2
     rw[upE _ _ _ _ e2,upE _ _ _ _ e2]at g1
     rw[upF _ _ _ _ (by decide),upF _ _ _ _ (by decide)]at g2
     rw[(hbox ro2 g1 g2).mapE 8 (Nat.le_refl _)]
     exact c3
    rintro _ _ _ ⟨rfl,rfl,rfl⟩
    refine Ydw ?_
    refine c2z _ cd (hbox _ (by rw[upE _ _ _ _ e2,upE _ _ _ _ e2]) (by rw[upF _ _ _ _ (by decide),upF _ _ _ _ (by decide)])) rfl (a1j D) ?_
    refine Yff ?_
    refine a6K rfl ?_
    obtain⟨hl0,hv3⟩:=hv3
    have hl0':(0:Int)<X.length:=by omega
    simp(disch:=first|assumption|omega) only[go_sem,b2I,a5P,eq_true hl0']
    refine a0p rfl (b1s hc hk (Ue hro) (n:=10) (by omega) (by omega)) ?_
    rintro _ ro2 gn2 ⟨rfl,v0,v1,hgE,k2,hS2,f2⟩
    dsimp only at hgE k2 f2
    have hF2:Frx Wrc (fun _ _=>False) ro0 gn0 ro2 _:=(show Frx Wrc (fun _ _=>False) ro0 gn0 _ _ from KFt).srcF (by omega) f2
    have d2:ro2 24624 (gn1 24624+1)=some (a0H D):=(k2 _ _ (by decide)).trans Ur
    subst hgE
    rw[hv3]
    obtain⟨Y,eY⟩: ∃Y,X.drop 1=Y:=⟨_,rfl⟩
    have hYl:Y.length=X.length-1:=by rw[←eY,List.length_drop]
    have hYr: ∀m,row Y m=row X (1+m):=fun m=>by
     rw[←eY]
     unfold row
     rw[List.getD_eq_getElem?_getD,List.getElem?_drop, ←List.getD_eq_getElem?_getD]
    have co:=b0B (a1d Y) (by unfold a0G;omega) (fun i hi=>by rw[hYr];have:=(hX3 (1+i) (by omega)).2;unfold a0G;omega)
    have eo:AV.row (rws (fun x=>a0H (row Y x)) Y.length)=a0I Y:=by
     show _=AV.row (Y.map a0H)
     refine congrArg AV.row (List.ext_getElem? fun j=>?_)
     by_cases hj:j<Y.length
     ·rw[a0l _ _ _ hj,a2J hj];rfl
     ·rw[List.getElem?_eq_none (by rw[zfe];omega),List.getElem?_eq_none (by rw[List.length_map];omega)]
    rw[eo]at co
    simp(disch:=first|assumption|omega) only[go_sem,b6r hl0,Option.map_some,Option.map_none,eY]
    refine a1V _ co (.cons (a2G (a1d Y) (by decide)) .nil) rfl (a3V Y) ?_
    simp(disch:=first|assumption|omega) only[go_sem,a0i,List.length_map,a0I,c1w hl0]
    refine a0r (by
     rw[if_pos (b4Y Y),ite_self]
     kernel_rfl) ?_
    refine Yao ?_
    refine a5E (x:= .ref 69664 (gn1 69664+1+1) [] 0 (Y.length+1)) (y:= .ref 24624 (gn1 24624+1) [] 0 D.length) Ur Ur ⟨KFt,?_⟩
    refine⟨Y++ [X.getD 0 []],D,69664,gn1 69664+1+1,24624,gn1 24624+1,⟨0,Y.length+1,D.length,Y.map a0H++ [a3q (X.getD 0 [])],D.map i64,rfl,by decide,?_,Ue d2,fun z hz=>?_,fun z hz=>?_,?_,?_,?_,?_⟩,⟨by decide,by omega⟩,⟨by decide,by omega⟩,?_,by omega,fun m hm=>?_⟩
    ·rw[List.take_of_length_le (by rw[List.length_map];exact Nat.le_refl _)]
     simp only[↓za, ↓reduceIte,zb]
    ·rcases List.mem_append.1 hz with h|h
     ·obtain⟨x, -, rfl⟩:=List.mem_map.1 h
      exact .inl (b2k x)
     ·rw[List.mem_singleton.1 h]
      exact .inl (.inr ⟨_,rfl⟩)
    ·obtain⟨x, -, rfl⟩:=List.mem_map.1 hz
     exact .inr ⟨_,rfl⟩
    ·rw[List.length_append,List.length_map,List.length_singleton,Nat.zero_add]
     exact Nat.le_refl _
    ·rw[List.length_map];exact Nat.le_refl _
    ·rw[a3w,List.drop_zero,List.map_append,List.map_map,List.take_of_length_le (by rw[List.length_append,List.length_map,List.length_map];exact Nat.le_refl _)]
     show AV.imm (List.map a3q (Y++ [X.getD 0 []]))=_
     rw[List.map_append,List.map_singleton,List.map_singleton,b3L]
     exact congrArg (fun l=>AV.imm (l++_)) (List.map_congr_left fun x _=>(a6s x).symm)
    ·rw[a3w,List.map_map,List.take_of_length_le (by rw[List.length_map];exact Nat.le_refl _)]
     exact congrArg AV.imm (List.map_congr_left fun _ _=>rfl)
    ·rw[List.length_append,List.length_singleton];omega
    ·rw[List.length_append,List.length_singleton]at hm
     by_cases hm':m<Y.length
     ·have e:row (Y++ [X.getD 0 []]) m=row X (1+m):=by
       rw[←hYr]
       unfold row
       rw[List.getD_eq_getElem?_getD,List.getElem?_append_left hm', ←List.getD_eq_getElem?_getD]
      rw[e]
      exact hX3 _ (by omega)
     ·obtain rfl:m=Y.length:=by omega
      have e:row (Y++ [X.getD 0 []]) Y.length=row X 0:=by
       unfold row
       rw[List.getD_eq_getElem?_getD,List.getElem?_append_right (Nat.le_refl _),Nat.sub_self]
       rfl
      rw[e]
      exact hX3 _ hl0
   ·refine Yax ?_
    refine a1V _ c3 (hbox _ (by rw[upE _ _ _ _ e2,upE _ _ _ _ e2]) (by rw[upF _ _ _ _ (by decide),upF _ _ _ _ (by decide)])) rfl (a3V X) ?_
    refine Ydw ?_
    refine a1V _ cd (hbox _ (by rw[upE _ _ _ _ e3,upE _ _ _ _ e2,upE _ _ _ _ e2]) (by rw[upF _ _ _ _ (by decide),upF _ _ _ _ (by decide),upF _ _ _ _ (by decide)])) rfl (a1j D) ?_
    simp(disch:=first|assumption|omega) only[go_sem,a0i,List.length_map]
    refine a0r (by repeat' split<;>first|exact a4r (p:=fun s=>okD _ (fpC (some [s]))) hsI (by kernel_rfl)|kernel_rfl) ?_
    by_cases hl0:X.length=0
    ·have hl0': ¬(0:Int)<X.length:=by omega
     simp(disch:=first|assumption|omega) only[go_sem,eq_false hl0']
     refine a5E (x:= .ref 24592 (gn1 24592+1) [] 0 X.length) (y:= .ref 24624 (gn1 24624+1) [] 0 D.length) Ur Ur ⟨KFt,?_⟩
     exact RcD.of (W:=X) (dl:=D) (off:=0) Ur Ur (by decide) (Nat.zero_le _) rfl ⟨by decide,by omega⟩ ⟨by decide,by omega⟩ hX1 (by omega) hX3
    ·have hl0':(0:Int)<X.length:=by omega
     simp(disch:=first|assumption|omega) only[go_sem,eq_true hl0']
     refine a0p rfl (b1s hc hk (Ue hro) (n:=10) (by omega) (by omega)) ?_
     rintro _ ro2 gn2 ⟨rfl,v0,v1,hgE,k2,hS2,f2⟩
     dsimp only at hgE k2 f2
     have hF2:Frx Wrc (fun _ _=>False) ro0 gn0 ro2 _:=(show Frx Wrc (fun _ _=>False) ro0 gn0 _ _ from KFt).trans (f2 Wrc _ _ (by decide) (Frx.refl _ _ _ _)) (fun x y (e:CxS (gn0 8288+1) x y)=>by
      obtain⟨rfl,rfl⟩:=e
      exact .inl (by omega))
     have t2:ro2 24592 (gn1 24592+1)=some (a0I X):=(k2 _ _ (by decide)).trans Ur
     have d2:ro2 24624 (gn1 24624+1)=some (a0H D):=(k2 _ _ (by decide)).trans Ur
     subst hgE
     replace hv3:nxV bs k h 10≠3:=fun e=>hv3 ⟨by omega,e⟩
     generalize nxV bs k h 10=v at*
     by_cases hv0:v=0
     ·simp(disch:=first|assumption|omega) only[go_sem,eq_true hv0,t2,a0I]
      refine a4T fpZ (b3T hc hS2 (n:=(X.length:Int)) (by omega) (by kernel_rfl)) rfl ?_ rfl (by kernel_rfl) rfl
      intro r4x ro4 gn4 hN
      obtain⟨i,rfl, -, hi,hgE,k4,hS4,f4⟩:=hN.out
      dsimp only at hgE k4 f4
      subst hgE
      obtain⟨i0,i1⟩:=hi (by omega)
      obtain⟨i,rfl⟩:=Int.eq_ofNat_of_zero_le i0
      have hiX:i<X.length:=by omega
      have t4:=(k4 24592 _ (by decide)).trans t2
      have d4:=(k4 24624 _ (by decide)).trans d2
      have hg:=a2J hiX
      obtain⟨L,eL⟩: ∃L,X.getD i []=L:=⟨_,rfl⟩
      have hL:=hX2 i hiX
      rw[eL]at hg hL
      have hL0:0<L.length:=by rw[hL.1];exact hRg.1.1
      simp(disch:=first|assumption|omega) only[go_sem,t4,a0I,hg,hiX]
      refine a5c (xDr1 hc hS4 (by kernel_rfl)) ?_ rfl
      intro r5x ro5 gn5 hN
      obtain⟨z,rfl, -, hz,hgE,k5,hS5,f5⟩:=hN.out
      dsimp only at hgE k5 f5
      subst hgE
      have hz:=hz (by decide)
      have t5:=(k5 24592 _ (by decide)).trans t4
      have d5:=(k5 24624 _ (by decide)).trans d4
      have hk0: ∀(t:Option TI) (ro:Ro),a5J t ro (.ref 24592 (gn1 24592+1) [i] 0 L.length) (.sc (.int .i64 0))=a5J t ro (.ref 24592 (gn1 24592+1) [i] 0 L.length) (i64 ((0:Nat):Int)):=fun _ _=>rfl
      have c5:=b0q t5 hiX
      have x5:=b6M (j:=0) (v:=z) t5 hiX
      rw[eL]at c5 x5
      simp(disch:=first|assumption|omega) only[go_sem,hk0,c5,b7D t5 hiX,x5,hL0]
      refine a6K rfl ?_
      refine Yao ?_
      refine a5E (x:= .ref 24592 (gn1 24592+1) [] 0 X.length) (y:= .ref 24624 (gn1 24624+1) [] 0 D.length) Ur Ur ⟨(((hF2.srcF (by omega) f4).srcF (by omega) f5).wr 24592 _ _ (by decide) (.inl (by omega))),?_⟩
      have hrs:=b7V (z:=z) hX3 hiX hz
      rw[eL]at hrs
      exact RcD.of (W:=X.set i (L.set 0 z)) (dl:=D) (off:=0) Ur (Ue d5) (by decide) (Nat.zero_le _) (by rw[List.length_set];rfl) ⟨by decide,by omega⟩ ⟨by decide,by omega⟩ (by rw[List.length_set];exact hX1) (by omega) hrs
     ·by_cases hv1:v=1
      ·have hsub:((X.length:Int)-1).toNat=X.length-1:=by omega
       have h1X:1≤X.length:=by omega
       simp(maxSteps:=10000000) (disch:=first|assumption|omega) only[go_sem,Int.reduceToNat,eq_false hv0,eq_true hv1,t2,a0I,Option.map_none,Option.map_some,hsub]
       refine a5E (x:= .ref 24592 (gn1 24592+1) [] 1 (X.length-1)) (y:= .ref 24624 (gn1 24624+1) [] 0 D.length) Ur Ur ⟨hF2,?_⟩
       exact RcD.of (W:=X) (dl:=D) (off:=1) t2 d2 (by decide) h1X rfl ⟨by decide,by omega⟩ ⟨by decide,by omega⟩ hX1 (by omega) hX3
      ·by_cases hv2:v=2
       ·simp(disch:=first|assumption|omega) only[go_sem,eq_false hv0,eq_false hv1,eq_true hv2]
        have hD0:(1:Int)≤D.length:=by have:=hRg.1.1;omega
        refine a0z _ (c2j (a0n D) (by unfold a0G;omega)) (.cons (a0q d2 rfl (by decide)) .nil) rfl rfl (a1j D) ?_
        refine Yff ?_
        refine a0p rfl (a4q hc (Ue hS2) (n:=(D.length:Int)) (by omega)) ?_
        intro r4x ro4 gn4 hN
        obtain⟨z1,rfl, -, hz1,hgE,k4,hS4,f4⟩:=hN.out
        dsimp only at hgE k4 f4
        subst hgE
        obtain⟨z10,z11⟩:=hz1 hD0
        obtain⟨z1,rfl⟩:=Int.eq_ofNat_of_zero_le z10
        have hz1D:z1<D.length:=by omega
        have q4:ro4 57360 (gn1 57360+1)=some (a0H D):=(k4 _ _ (by decide)).trans Ur
        simp(disch:=first|assumption|omega) only[go_sem,q4,a0H]
        refine a0p rfl (a4q hc (by first|exact hS4|(simp only[↓za, ↓reduceIte,Nat.reduceEqDiff,zb,reduceCtorEq];exact hS4)) (n:=(D.length:Int)) (by omega)) ?_
        intro r5x ro5 gn5 hN
        obtain⟨z2,rfl, -, hz2,hgE,k5,hS5,f5⟩:=hN.out
        dsimp only at hgE k5 f5
        subst hgE
        have t5:=((k5 24592 (gn1 24592+1) (by decide)).trans (k4 _ _ (by decide))).trans (Ue t2)
        have q5:=(k5 57360 _ (by decide)).trans q4
        simp(disch:=first|assumption|omega) only[go_sem,q5,a0H,hz1D,List.length_map]
        refine a5E (x:= .ref 24592 (gn1 24592+1) [] 0 X.length) (y:= .ref 57360 (gn1 57360+1) [] 0 D.length) Ur Ur ⟨?_,?_⟩
        ·refine Frx.wr ?_ 57360 _ _ (by decide) (.inl (by omega))
         exact((show Frx Wrc (fun _ _=>False) ro0 gn0 _ _ from KFt).srcF (by omega) f4).srcF (by omega) f5
        ·have e:=RcD.of (gn0:=gn0) (W:=X) (dl:=D.set z1 z2) (s1:=24592) (g1:=gn1 24592+1) (s2:=57360) (g2:=gn1 57360+1) (off:=0) (n:=X.length) (ro':=upr ro5 57360 (gn1 57360+1) (a0H (D.set z1 z2))) (Ue t5) Ur (by decide) (Nat.zero_le _) rfl ⟨by decide,by omega⟩ ⟨by decide,by omega⟩ hX1 (by rw[List.length_set];omega) hX3
         rw[List.length_set,show a0H (D.set z1 z2)= .row ((D.map i64).set z1 (i64 z2))from congrArg AV.row List.map_set]at e
         exact e
       ·simp(disch:=first|assumption|omega) only[go_sem,eq_false hv0,eq_false hv1,eq_false hv2,eq_false hv3]
        refine a5E (x:= .ref 24592 (gn1 24592+1) [] 0 X.length) (y:= .ref 24624 (gn1 24624+1) [] 0 D.length) Ur Ur ⟨hF2,?_⟩
        exact RcD.of (W:=X) (dl:=D) (off:=0) t2 d2 (by decide) (Nat.zero_le _) rfl ⟨by decide,by omega⟩ ⟨by decide,by omega⟩ hX1 (by omega) hX3
  ·have c2:=a4F h5 hRg.1 (t:=false) ⟨fun h=>Bool.noConfusion h,fun h=>absurd h hC⟩
   refine Yax ?_
   refine a0z _ c1 (hbox _ (by rw[upE _ _ _ _ e2,upE _ _ _ _ e2]) (by rw[upF _ _ _ _ (by decide),upF _ _ _ _ (by decide)])) rfl rfl rfl ?_
   refine Yax ?_
   refine a0z _ c2 (hbox _ (by rw[upE _ _ _ _ e2,upE _ _ _ _ e2]) (by rw[upF _ _ _ _ (by decide),upF _ _ _ _ (by decide)])) rfl rfl rfl ?_
   refine Yao ?_
   refine a5E (x:= .ref 20512 (gn1 20512+1) [] 0 2) (y:= .ref 20528 (gn1 20528+1) [] 0 2) Ur Ur ⟨KFt,?_⟩
   refine RcD.of (W:=[[1,1],[1,2]]) (dl:=[0,1]) (off:=0) (n:=2) Ur Ur (by decide) (Nat.zero_le _) rfl ⟨by decide,by omega⟩ ⟨by decide,by omega⟩ (by decide) (by decide) (fun m hm=>?_)
   rcases(show m=0∨m=1 by simp at hm;omega)with rfl|rfl
   ·exact⟨NL2 (by unfold num;decide) (by unfold num;decide),by decide⟩
   ·exact⟨NL2 (by unfold num;decide) (by unfold num;decide),by decide⟩
 ·have c1:=b6y h5 (t:=false) ⟨fun h=>Bool.noConfusion h,fun h=>absurd h hRg⟩
  refine Yax ?_
  refine a0z _ c1 (hbox _ (by rw[upE _ _ _ _ e2,upE _ _ _ _ e2]) (by rw[upF _ _ _ _ (by decide),upF _ _ _ _ (by decide)])) rfl rfl rfl ?_
  refine Yao ?_
  refine a5E (x:= .ref 20512 (gn1 20512+1) [] 0 2) (y:= .ref 20528 (gn1 20528+1) [] 0 2) Ur Ur ⟨KFt,?_⟩
  refine RcD.of (W:=[[1,1],[1,2]]) (dl:=[0,1]) (off:=0) (n:=2) Ur Ur (by decide) (Nat.zero_le _) rfl ⟨by decide,by omega⟩ ⟨by decide,by omega⟩ (by decide) (by decide) (fun m hm=>?_)
  rcases(show m=0∨m=1 by simp at hm;omega)with rfl|rfl
  ·exact⟨NL2 (by unfold num;decide) (by unfold num;decide),by decide⟩
  ·exact⟨NL2 (by unfold num;decide) (by unfold num;decide),by decide⟩
end
theorem c0I{k k1 k2 k3:Nat}{Po:AV→Ro→(Nat→Nat)→Prop}{sl:Nat→AV}{ro:Ro}{gn:Nat→Nat}{s g s' g':Nat}{v v' w x:AV}(h1:sl k= .ptr s g [] 0)(h2:ro s g=some (.bx [v]))(hl:lift s g [0] v=v)(h1':sl k1= .ptr s' g' [] 0)(h2':ro s' g'=some (.bx [v']))(hl':lift s' g' [0] v'=v')(h3:sl k2=w)(h4:sl k3=x)(hp:Po (.tup [.agg [v],.agg [v'],w,x]) ro gn):c1A ti0 [.cell k 26,.cell k1 26,.tmp k2,.tmp k3] Po .ret ⟨sl,ro,gn⟩:=by
 refine⟨.inr rfl,[.agg [v],.agg [v'],w,x],?_,hp⟩
 simp only[a1H,opC,St.ev,h1,h3,h4,a1l,Ro.cells,h2,blk,List.length_singleton,List.drop_zero,List.take_succ_cons,List.take_zero,zfi,List.nil_append,hl,h1',h2',hl']
 simp
theorem RdU.keepU{ro ro':Ro}{gn gn':Nat→Nat}{T:List (List (List Int))}{c:AV}(h:RdU ro gn T c)(hk: ∀x y,(x∈WRs∨x=500000)→y≤gn x→ro' x y=ro x y)(hg: ∀x,gn x≤gn' x):RdU ro' gn' T c:=by
 obtain⟨s,u,o,m,cv,rfl,⟨h1,h2,hm1,hm2,hm⟩,h3,h4,h5,h6,h7⟩:=h
 exact⟨s,u,o,m,cv,rfl,⟨h1,h2,hm1,hm2,hm⟩,Nat.le_trans h3 (hg s),by rw[hk s u (.inl hm2) h3];exact h4,h5,h6,fun ro2 hk2=>h7 ro2 fun x y hx hy=>(hk2 x y hx (Nat.le_trans hy (hg x))).trans (hk x y (by rcases hx with rfl|rfl;exact .inl hm2;exact .inr rfl) hy)⟩
theorem LsR.wrS{gn:Nat→Nat}{r:AV}{ro':Ro}{gn':Nat→Nat}{S:Nat}(h:LsR gn r ro' gn')(hS:S≠8192∧S≠16400)(G:Nat)(v:AV):LsR gn r (upr ro' S G v) gn':=by
 obtain⟨s,u,p,L,e,hs,k1,k2,k3,k4⟩:=h
 refine⟨s,u,p,L,e,hs,k1,k2,k3,fun ro2 e=>k4 ro2 ?_⟩
 rw[e,zdb,if_neg]
 rintro⟨rfl, -⟩
 rcases hs with h|h
 ·exact hS.1 h
 ·exact hS.2 h
def Wpc:List Nat:=4112::12352::12368::Wdc
def fpR(s t:Nat):List FP:=[⟨some [12352],[]⟩,⟨some [12368],[]⟩,e0,⟨some [12352],[]⟩,⟨some [s,500000],Wd4⟩,e0,⟨some [12368],[]⟩,⟨some [t,500000],Wd4⟩,⟨some [4096,s],[4096]⟩,⟨some [4112,t],[4112]⟩,e0,e0]
def PcD(gn0:Nat→Nat)(r:AV)(ro':Ro)(gn':Nat→Nat):Prop:= ∃T U c d x y,r= .tup [.agg [c],.agg [d],x,y]∧RdU ro' gn' T c∧RdU ro' gn' U d∧LsR gn0 x ro' gn'∧LsR gn0 y ro' gn'
section
variable{a:AV}{bs:List Int}{ro0:Ro}{gn0:Nat→Nat}
set_option maxHeartbeats 16000000 in
theorem c0h(hc:Cod a bs)(hl:bs.length≤4096):InS Tryz.prog 38 [a] ro0 gn0 (fun r ro' gn'=>Frx Wpc (fun _ _=>False) ro0 gn0 ro' gn'∧PcD gn0 r ro' gn'):=by
 refine a1U (fn:=Tryz.f38) (code:=a0b Tryz.f38) Tryz.func38 rfl (by kernel_rfl) ?_
 intro sl hs
 have s0:sl 0=a:=hs 0
 dsimp only[Tryz.f38,a0b,Option.getD]
 simp only[go_sem,s0,a1l]
 refine a0p rfl (sFrm hc hl) ?_
 rintro _ _ _ ⟨rfl,w,rfl,rfl,hw⟩
 refine Yav ?_
 refine a0p rfl (c4e hc (Ue hw) (mx:=4) (by decide) (by decide)) ?_
 rintro _ ro1 gn1 ⟨fr1,hS1,T,c,rfl,hR, -⟩
 have hF1:Frx Wpc (fun _ _=>False) ro0 gn0 ro1 gn1:=(show Frx Wpc (fun _ _=>False) ro0 gn0 _ _ from KFt).trans (fr1.monoB (by decide)) (by
  rintro x y ⟨rfl,rfl⟩
  exact .inl (by omega))
 have r4:ro1 4096 (gn0 4096+1)=some (.bx [a1q]):=(fr1.kp _ _ Ur (fun e=>by have:=e.1;omega)).trans Ur
 have q4:ro1 4112 (gn0 4112+1)=some (.bx [a1q]):=(fr1.kp _ _ Ur (fun e=>by have:=e.1;omega)).trans Ur
 have u4:=fr1.up 4096
 have u5:=fr1.up 4112
 have u8:=fr1.up 8288
 simp only[↓za, ↓reduceIte,Nat.reduceEqDiff]at u4 u5 u8
 refine Yav ?_
 refine a0p rfl (c4e hc (by first|exact hS1|(simp only[↓za, ↓reduceIte,Nat.reduceEqDiff,zb,reduceCtorEq];exact hS1)) (mx:=4) (by decide) (by decide)) ?_
 rintro _ ro2 gn2 ⟨fr2,hS2,U,d,rfl,hR', -⟩
 dsimp only at fr2
 have hF2:Frx Wpc (fun _ _=>False) ro0 gn0 ro2 gn2:=hF1.trans (fr2.monoB (by decide)) (by
  rintro x y ⟨rfl,rfl⟩
  exact .inl (by omega))
 have hR2:=hR.frx fr2
 have r4b:=(fr2.kp 4096 (gn0 4096+1) u4 (fun e=>by have:=e.1;omega)).trans r4
 have q4b:=(fr2.kp 4112 (gn0 4112+1) u5 (fun e=>by have:=e.1;omega)).trans q4
 obtain⟨s,u,o,m,cv,rfl,⟨n1,n2,hm1,hsI,hm⟩,h3,h4,h5,h6,h7⟩:=id hR2
 obtain⟨t,u',o',m',dv,rfl,⟨n1',n2',hm1',hsI',hm'⟩,h3',h4',h5',h6',h7'⟩:=id hR'
 have ne: ∀ {s:Nat},s∈WRs→s≠12352∧s≠12368∧s≠4112:=fun h=>by
  simp only[WRs,WDs,List.mem_cons,List.not_mem_nil,or_false]at h
  omega
 obtain⟨a1,a2,a3⟩:=ne hsI
 obtain⟨b1,b2,b3⟩:=ne hsI'
 have upE: ∀(z:Nat) (ro:Ro) (S G:Nat) (v:AV),z≠S→upr ro S G v z=ro z:=fun z ro S G v h=>funext fun y=>by rw[zdb,if_neg (fun e=>h e.1)]
 simp(maxSteps:=10000000) (disch:=first|assumption|omega) only[go_sem,a1l,h4,h4',a1,a2,b1,b2]
 refine a4T (fpR s t) (xPk hc (Ue hS2) hsI h5 h6 hm hm1 (by simp only[upE,ne_eq,a1,a2,not_false_eq_true];exact h4) (fun ro2 k1 k2=>h7 ro2 (fun x y hx hy=>by
  rcases hx with rfl|rfl
  ·rw[k1];simp only[upE,ne_eq,a1,a2,not_false_eq_true]
  ·rw[k2];simp only[upE,ne_eq,(by decide: ¬500000=12352),(by decide: ¬500000=12368),not_false_eq_true])) (by kernel_rfl)) rfl ?_ rfl ?_ rfl
 rotate_left
 ·exact a4r (p:=fun s=>okD _ (fpR s t)) hsI (List.all_eq_true.2 fun s' hs'=>a4r (p:=fun t=>okD _ (fpR s' t)) hsI' ((List.all_eq_true.1 (show WRs.all (fun s'=>WRs.all fun t=>okD _ (fpR s' t))=true by kernel_rfl)) s' hs'))
 rintro r ro3 gn3 ⟨fr3,hS3,hL⟩
 dsimp only at fr3 hL
 have v4:=fr2.up 4096
 have v5:=fr2.up 4112
 have hkp: ∀x y,(x∈WRs∨x=500000)→y≤gn2 x→(upr (upr (upr (upr ro2 12352 (gn2 12352+1) (.bx [a1q])) 12368 (gn2 12368+1) (.bx [a1q])) 12352 (gn2 12352+1) (.bx [.ref s u [] o m])) 12368 (gn2 12368+1) (.bx [.ref t u' [] o' m'])) x y=ro2 x y:=fun x y hx _=>by
  have:x≠12352∧x≠12368:=by
   rcases hx with h|rfl
   ·exact⟨(ne h).1,(ne h).2.1⟩
   ·decide
  rw[upE x _ _ _ _ this.2,upE x _ _ _ _ this.1,upE x _ _ _ _ this.2,upE x _ _ _ _ this.1]
 have hkg: ∀x,gn2 x≤upg (upg gn2 12352 (gn2 12352+1)) 12368 (gn2 12368+1) x:=fun x=>by
  rw[zda]
  split
  ·rename_i e;subst e;omega
  ·rw[zda]
   split
   ·rename_i e;subst e;omega
   ·exact Nat.le_refl _
 have hR3:=(hR2.keepU hkp hkg).frx fr3
 have hR3':=(hR'.keepU hkp hkg).frx fr3
 have ra:ro3 12352 (gn2 12352+1)=some (.bx [.ref s u [] o m]):=(fr3.kp _ _ Ur (fun e=>by have:=e.1;omega)).trans Ur
 have rb:ro3 12368 (gn2 12368+1)=some (.bx [.ref t u' [] o' m']):=(fr3.kp _ _ Ur (fun e=>by have:=e.1;omega)).trans Ur
 have r4c:ro3 4096 (gn0 4096+1)=some (.bx [a1q]):=(fr3.kp _ _ (by simp only[↓za, ↓reduceIte,Nat.reduceEqDiff];omega) (fun e=>by have:=e.1;omega)).trans (Ue r4b)
 have q4c:ro3 4112 (gn0 4112+1)=some (.bx [a1q]):=(fr3.kp _ _ (by simp only[↓za, ↓reduceIte,Nat.reduceEqDiff];omega) (fun e=>by have:=e.1;omega)).trans (Ue q4b)
 have z4:=fr3.up 4096
 have z5:=fr3.up 4112
 have z8:=hF1.up 8192
 have z9:=hF1.up 16400
 have y8:=fr2.up 8192
 have y9:=fr2.up 16400
 have zz:=fr2.up 8288
 have y1:=hF2.up 12352
 have y2:=hF2.up 12368
 simp only[↓za, ↓reduceIte,Nat.reduceEqDiff]at z4 z5
 have hF3:Frx Wpc (fun _ _=>False) ro0 gn0 ro3 gn3:=(show Frx Wpc (fun _ _=>False) ro0 gn0 (upr (upr (upr (upr ro2 12352 (gn2 12352+1) (.bx [a1q])) 12368 (gn2 12368+1) (.bx [a1q])) 12352 (gn2 12352+1) (.bx [.ref s u [] o m])) 12368 (gn2 12368+1) (.bx [.ref t u' [] o' m'])) (upg (upg gn2 12352 (gn2 12352+1)) 12368 (gn2 12368+1))from KFt).trans (fr3.monoB (by decide)) (by
  rintro x y ⟨rfl,rfl⟩
  exact .inl (by omega))
 have hb: ∀ {V:List (List (List Int))} {ro gn} {s u o m:Nat},RdU ro gn V (.ref s u [] o m)→(b0G (ro s u)).isSome=true:=fun h=>by
  obtain⟨s',u',o',m',cv',e, -, -, b, -⟩:=h
  obtain⟨rfl,rfl⟩:_=s'∧_=u':=by injection e with e1 e2;exact⟨e1,e2⟩
  exact b
 have hb3:=hb hR3'
 obtain⟨t2,u2,o2,m2,ev,e2,⟨w1,w2,w3,w4,w5⟩,w6,w7,w8,w9,w10⟩:=id hR3'
 obtain⟨rfl,rfl,rfl,rfl⟩:t=t2∧u'=u2∧o'=o2∧m'=m2:=by injection e2 with e1 e2 e3 e4 e5;exact⟨e1,e2,e4,e5⟩
 simp(disch:=first|assumption|omega) only[go_sem,a1l,rb]
 refine a5c (xPk hc hS3 hsI' w8 w9 w5 w3 w7 (fun ro4 k1 k2=>w10 ro4 (fun x y hx hy=>by
  rcases hx with rfl|rfl
  ·rw[k1]
  ·rw[k2])) (by kernel_rfl)) ?_ rfl
 rintro r' ro4 gn4 ⟨fr4,hS4,hL4⟩
 dsimp only at fr4 hL4
 have hR4:=hR3.frx fr4
 have hR4':=hR3'.frx fr4
 have r4d:ro4 4096 (gn0 4096+1)=some (.bx [a1q]):=(fr4.kp _ _ (by omega) (fun e=>by have:=e.1;omega)).trans r4c
 have q4d:ro4 4112 (gn0 4112+1)=some (.bx [a1q]):=(fr4.kp _ _ (by omega) (fun e=>by have:=e.1;omega)).trans q4c
 have b4:=hb hR4
 have b4':=hb hR4'
 have hF4:Frx Wpc (fun _ _=>False) ro0 gn0 ro4 gn4:=hF3.trans (fr4.monoB (by decide)) (by
  rintro x y ⟨rfl,rfl⟩
  exact .inl (by omega))
 simp(disch:=first|assumption|omega) only[go_sem,a1l,r4d,q4d,b4,b4',n2']
 refine a6K rfl ?_
 refine Ybm ?_
 have kw: ∀x,(x∈WRs∨x=500000)→ ∀(ro:Ro) (G G':Nat) (v v':AV) (y:Nat),upr (upr ro 4096 G v) 4112 G' v' x y=ro x y:=fun x hx ro G G' v v' y=>by
  have:x≠4096∧x≠4112:=by
   rcases hx with h|rfl
   ·exact⟨(b3r h).2.1,(ne h).2.2⟩
   ·decide
  rw[upE x _ _ _ _ this.2,upE x _ _ _ _ this.1]
 refine c0I (s:=4096) (g:=gn0 4096+1) (s':=4112) (g':=gn0 4112+1) Ur Ur (zfh 4096 (gn0 4096+1) [0] s u [] o m) Ur Ur (zfh 4112 (gn0 4112+1) [0] t u' [] o' m') Ur Ur ⟨(hF4.wr 4096 _ _ (by decide) (.inl (by omega))).wr 4112 _ _ (by decide) (.inl (by omega)),T,U,_,_,r,r',rfl,?_,?_,?_,?_⟩
 ·exact hR4.keepU (fun x y hx _=>kw x hx _ _ _ _ _ y) (fun _=>Nat.le_refl _)
 ·exact hR4'.keepU (fun x y hx _=>kw x hx _ _ _ _ _ y) (fun _=>Nat.le_refl _)
 ·exact(((hL.up (by simp only[↓za, ↓reduceIte,Nat.reduceEqDiff];omega) (by simp only[↓za, ↓reduceIte,Nat.reduceEqDiff];omega)).frx fr4).wr _ _).wrS (by decide) _ _
 ·exact((hL4.up (hF3.up 8192) (hF3.up 16400)).wr _ _).wrS (by decide) _ _
end
end Go.Proofs.YtbakhfiibjkifaaGreat
