/- Texts joined: DaA DaB DaC. -/
import Derived.Test.YtbakhfiibjkifaaGreatCc
import Derived.Test.YtbakhfiibjkifaaGreatRc
set_option linter.all false
/- Draws: orders of labels, images, drawn rings. -/
namespace Go.Proofs.YtbakhfiibjkifaaGreat
open Go.RowKit
set_option maxRecDepth 1000000
def W95:List Nat:=[8288,8192,28688,32768]
structure c4u(O:List Int)(n:Nat):Prop where
 l:O.length=n
 r: ∀x,x∈O→0≤x∧x<(n:Int)
section
variable{a:AV}{bs:List Int}{g:Nat}
set_option maxHeartbeats 4000000 in
theorem c2c{ro0:Ro}{gn0:Nat→Nat}{n:Nat}(hc:Cod a bs)(hs:Src a bs (ro0 8288 g))(h1:1≤n)(hn:n≤100):InS Tryz.prog 141 [.ptr 8288 g [] 0,i64 (n:Int)] ro0 gn0
  (fun r ro' gn'=>Frx W95 (CxS g) ro0 gn0 ro' gn'∧Src a bs (ro' 8288 g)∧ ∃(s u:Nat) (O:List Int),(s=8192∨s=32768)∧r= .ref s u [] 0 O.length∧gn0 s<u∧u≤gn' s∧ro' s u=some (a0H O)∧c4u O n):=by
 have hs1:=hs
 refine a1U (fn:=Tryz.f141) (code:=a0b Tryz.f141) Tryz.func141 rfl (by kernel_rfl) ?_
 intro sl hs
 have s0:sl 0= .ptr 8288 g [] 0:=hs 0
 have s1:sl 1=i64 (n:Int):=hs 1
 dsimp only[Tryz.f141,a0b,Option.getD]
 refine Yah ?_
 refine a0f (fun i st=>st.sl 0= .ptr 8288 g [] 0∧st.sl 1=i64 (n:Int)∧st.sl 6=i64 ((i+1:Nat):Int)∧(Frx W95 (CxS g) ro0 gn0 st.ro st.gn)∧(Src a bs (st.ro 8288 g))∧(∃(so uo:Nat) (O:List Int),(so=8192∨so=32768)∧st.sl 5= .ref so uo [] 0 O.length∧st.ro so uo=some (a0H O)∧gn0 so<uo∧uo≤st.gn so∧c4u O (i+1))) ((n-1)) ?_ ?_ ?_
 ·refine Yac ?_
  refine⟨rfl,KFt,hs1,8192,gn0 8192+1,[0],.inl rfl,rfl,by simp only[↓reduceIte,zb];rfl,by omega,Ur,rfl,fun x hx=>?_⟩
  rw[List.mem_singleton.1 hx];omega
 ·rintro i sl ro gn hi ⟨s0,s1,s6,fr,sr,ps⟩
  dsimp only at s0 s1 s6
  have hi':(i:Int)<((n-1):Nat):=by omega
  dsimp only at fr sr ps
  obtain⟨so,uo,O,hso,s5,rO,l1,l2,hO⟩:=ps
  have hOl:=hO.l
  have hin:((i+1:Nat):Int)<(n:Int):=by omega
  simp only[go_sem,s0,s1,s6,ti2,hin]
  refine a0p rfl (a4q hc sr (n:=((i+1:Nat):Int)) (by omega)) ?_
  rintro _ _ _ ⟨v,rfl, -, hv,rfl,wz,rfl,hwz⟩
  obtain⟨v0,v1⟩:=hv (by omega)
  obtain⟨q,rfl⟩:=Int.eq_ofNat_of_zero_le v0
  obtain⟨p,hp⟩: ∃p,p=1+q:=⟨_,rfl⟩
  have e1v:(1:Int)+(q:Int)=(p:Int):=by omega
  have hpl:p≤O.length:=by omega
  have hdt:List.take (O.length-p) (List.drop p (O.map i64))=(O.drop p).map i64:=by
   rw[List.take_of_length_le (by rw[List.length_drop,List.length_map];exact Nat.le_refl _),List.map_drop]
  have hal: ∀L:List Int,(L.map i64).all zez=true:=fun L=>List.all_eq_true.2 fun x hx=>by obtain⟨y, -, rfl⟩:=List.mem_map.1 hx;rfl
  have hda:=hal (O.drop p)
  have hdl:((O.drop p).map i64).length=O.length-p:=by rw[List.length_map,List.length_drop]
  have hbd:1+(O.length-p)≤4294967296:=by omega
  have htt:List.take p (O.map i64)=(O.take p).map i64:=by rw[List.map_take]
  have hta:=hal (O.take p)
  have htl:((O.take p).map i64).length=p:=by rw[List.length_map,List.length_take];omega
  have htb:p≤4294967296:=by omega
  have hxt:List.take (1+(O.length-p)) (i64 ((i+1:Nat):Int)::(O.drop p).map i64)=(((i+1:Nat):Int)::O.drop p).map i64:=by
   rw[List.take_of_length_le (by rw[List.length_cons,hdl];omega)]
   rfl
  have hxa:=hal (((i+1:Nat):Int)::O.drop p)
  have hxl:((((i+1:Nat):Int)::O.drop p).map i64).length=1+(O.length-p):=by rw[List.length_map,List.length_cons,List.length_drop];omega
  have hxb:p+(1+(O.length-p))≤4294967296:=by omega
  have htt2:List.take p ((O.take p).map i64)=(O.take p).map i64:=List.take_of_length_le (by rw[htl];exact Nat.le_refl _)
  rcases hso with rfl|rfl
  ·have hne: ¬uo=gn 8192+1:=by omega
   have u1:=fr.up 28688
   have u2:=fr.up 32768
   refine Ybe ?_
   refine⟨a0w (by omega),KFt,hwz,32768,gn 32768+1+1+1,O.take p++(((i+1:Nat):Int)::O.drop p),.inr rfl,?_,?_,by have:=fr.up 32768;omega,by simp only[↓reduceIte];omega,?_⟩
   ·rw[List.length_append,List.length_take,List.length_cons,List.length_drop,show min p O.length+(O.length-p+1)=p+(O.length-p+1) by omega]
   ·refine Ybp ?_
    unfold a0H
    rw[List.map_append]
    rfl
   ·refine⟨by rw[List.length_append,List.length_take,List.length_cons,List.length_drop];have:=hO.l;omega,fun x hx=>?_⟩
    have hr:=hO.r
    rcases List.mem_append.1 hx with hx|hx
    ·have:=hr x (List.mem_of_mem_take hx);omega
    ·rcases List.mem_cons.1 hx with rfl|hx
     ·omega
     ·have:=hr x (List.mem_of_mem_drop hx);omega
  ·have hne: ¬uo=gn 32768+1:=by omega
   have u1:=fr.up 28688
   have u2:=fr.up 32768
   refine Ybe ?_
   refine⟨a0w (by omega),KFt,hwz,32768,gn 32768+1+1+1,O.take p++(((i+1:Nat):Int)::O.drop p),.inr rfl,?_,?_,by have:=fr.up 32768;omega,by simp only[↓reduceIte];omega,?_⟩
   ·rw[List.length_append,List.length_take,List.length_cons,List.length_drop,show min p O.length+(O.length-p+1)=p+(O.length-p+1) by omega]
   ·refine Ybp ?_
    unfold a0H
    rw[List.map_append]
    rfl
   ·refine⟨by rw[List.length_append,List.length_take,List.length_cons,List.length_drop];have:=hO.l;omega,fun x hx=>?_⟩
    have hr:=hO.r
    rcases List.mem_append.1 hx with hx|hx
    ·have:=hr x (List.mem_of_mem_take hx);omega
    ·rcases List.mem_cons.1 hx with rfl|hx
     ·omega
     ·have:=hr x (List.mem_of_mem_drop hx);omega
 ·rintro sl ro gn ⟨s0,s1,s6,fr,sr,ps⟩
  dsimp only at s0 s1 s6
  have hi': ¬(((n-1):Nat):Int)<((n-1):Nat):=by omega
  dsimp only at fr sr ps
  obtain⟨so,uo,O,hso,s5,rO,l1,l2,hO⟩:=ps
  have hin: ¬((n-1+1:Nat):Int)<(n:Int):=by omega
  rw[show n-1+1=n by omega]at hO
  simp only[go_sem,s1,s6,ti2,eq_false hin]
  exact a0Y (sl 5) Ur ⟨fr,sr,so,uo,O,hso,s5,l1,l2,rO,hO⟩
end
def imG(xs:List Int)(F:C3)(n:Nat):C3:=itF (fun i=>itF (fun j=>itF (fun k G=>a0Z G (atN xs i) (atN xs j) (atN xs k) (F i j k)) n) n) n F
theorem b9T{a p:AV}{F:C3}{n:Nat}(ha:a0F a (a0L F n)){xs:List Int}(hp:isL p xs)(P:c4u xs n)(hn:n≤a0G):a0d Tryz.prog 140 [a,p] (a0t (imG xs F n) n):=by
 have lX:(a0L F n).length=n:=c1B F n
 have hn2:n≤4294967296:=hn
 have hl:=P.l
 have hat: ∀i,i<n→atI xs i=((atN xs i:Nat):Int)∧atN xs i<n:=fun i hi=>a7e P.r (by omega)
 refine a0e (fn:=Tryz.f140) (code:=a0b Tryz.f140) Tryz.func140 rfl (by kernel_rfl) (a0J _ _) ?_
 intro sl hs
 have s0:sl 0=a:=hs 0
 have s1:sl 1=p:=hs 1
 dsimp only[Tryz.f140,a0b,Option.getD]
 refine Ybn ?_
 refine a0c _ (c4N ha hn) PUt rfl rfl ?_
 simp only[go_sem,a0i,zfe]
 refine a0f (fun i st=>st.sl 0=a∧st.sl 1=p∧st.sl 5= .ref 8208 1 [] 0 n∧st.sl 6=i64 (i:Int)∧st.ro 8208 1=some (a0t (itF (fun i=>itF (fun j=>itF (fun k G=>a0Z G (atN xs i) (atN xs j) (atN xs k) (F i j k)) n) n) i F) n)) n ?_ ?_ ?_
 ·refine Yac ?_
  exact⟨rfl,rfl⟩
 ·rintro i sl ro gn hi ⟨s0,s1,s5,s6,r8208⟩
  dsimp only at s0 s1 s5 s6 r8208
  have hi':(i:Int)<(n:Nat):=by omega
  have hm:=a0o ha (k:=i) (by omega)
  have lm:(mat (a0L F n) i).length=n:=c2I hi
  obtain⟨p1,p2⟩:=hat i hi
  generalize hG:itF (fun i=>itF (fun j=>itF (fun k G=>a0Z G (atN xs i) (atN xs j) (atN xs k) (F i j k)) n) n) i F=G at r8208
  have hG2:itF (fun i=>itF (fun j=>itF (fun k G=>a0Z G (atN xs i) (atN xs j) (atN xs k) (F i j k)) n) n) (i+1) F=itF (fun j=>itF (fun k G=>a0Z G (atN xs i) (atN xs j) (atN xs k) (F i j k)) n) n G:=by rw[←hG];rfl
  rw[hG2]
  simp(disch:=first|assumption|omega) only[go_sem,s0,s6,hi',lX]
  refine a0f (fun j st=>st.sl 0=a∧st.sl 1=p∧st.sl 5= .ref 8208 1 [] 0 n∧st.sl 6=i64 (i:Int)∧st.sl 7=i64 (j:Int)∧st.ro 8208 1=some (a0t (itF (fun j=>itF (fun k G=>a0Z G (atN xs i) (atN xs j) (atN xs k) (F i j k)) n) j G) n)) n ?_ ?_ ?_
  ·simp only[↓za, ↓reduceIte,Nat.reduceEqDiff,zb,reduceCtorEq,s0,s1,s5,s6,r8208]
   exact⟨rfl,rfl⟩
  ·rintro j sl ro gn hj ⟨s0,s1,s5,s6,s7,r8208⟩
   dsimp only at s0 s1 s5 s6 s7 r8208
   have hj':(j:Int)<(n:Nat):=by omega
   have hr:=a0m hm (k:=j) (by omega)
   have lr:(row (mat (a0L F n) i) j).length=n:=c4a hi hj
   obtain⟨p3,p4⟩:=hat j hj
   generalize hH:itF (fun j=>itF (fun k G=>a0Z G (atN xs i) (atN xs j) (atN xs k) (F i j k)) n) j G=H at r8208
   have hH2:itF (fun j=>itF (fun k G=>a0Z G (atN xs i) (atN xs j) (atN xs k) (F i j k)) n) (j+1) G=itF (fun k G=>a0Z G (atN xs i) (atN xs j) (atN xs k) (F i j k)) n H:=by rw[←hH];rfl
   rw[hH2]
   simp(disch:=first|assumption|omega) only[go_sem,s0,s7,hj',lX]
   refine a0f (fun k st=>st.sl 0=a∧st.sl 1=p∧st.sl 5= .ref 8208 1 [] 0 n∧st.sl 6=i64 (i:Int)∧st.sl 7=i64 (j:Int)∧st.sl 8=i64 (k:Int)∧st.ro 8208 1=some (a0t (itF (fun k G=>a0Z G (atN xs i) (atN xs j) (atN xs k) (F i j k)) k H) n)) n ?_ ?_ ?_
   ·simp only[↓za, ↓reduceIte,Nat.reduceEqDiff,zb,reduceCtorEq,s0,s1,s5,s6,s7,r8208]
    exact⟨rfl,rfl⟩
   ·rintro k sl ro gn hk ⟨s0,s1,s5,s6,s7,s8,r8208⟩
    dsimp only at s0 s1 s5 s6 s7 s8 r8208
    have hk':(k:Int)<(n:Nat):=by omega
    obtain⟨p5,p6⟩:=hat k hk
    have v1:atI (row (mat (a0L F n) i) j) k=F i j k:=a1c hi hj hk
    have hu:itF (fun k G=>a0Z G (atN xs i) (atN xs j) (atN xs k) (F i j k)) (k+1) H=a0Z (itF (fun k G=>a0Z G (atN xs i) (atN xs j) (atN xs k) (F i j k)) k H) (atN xs i) (atN xs j) (atN xs k) (F i j k):=rfl
    rw[hu]
    generalize itF (fun k G=>a0Z G (atN xs i) (atN xs j) (atN xs k) (F i j k)) k H=K at r8208
    simp(disch:=first|assumption|omega) only[go_sem,s0,s1,s5,s6,s7,s8,r8208,hk',lX,p1,p3,p5,v1,a0M r8208 p2 p4,a1x r8208 p2 p4,a1m r8208 p2 p4 p6]
    refine a0r (by kernel_rfl) ?_
    simp(disch:=first|assumption|omega) only[go_sem,s0,s1,s5,s6,s7,s8]
    exact a0w (by omega)
   ·rintro sl ro gn ⟨s0,s1,s5,s6,s7,s8,r8208⟩
    dsimp only at s0 s1 s5 s6 s7 s8 r8208
    have hk': ¬((n:Nat):Int)<(n:Nat):=by omega
    simp(disch:=first|assumption|omega) only[go_sem,s0,s1,s5,s6,s7,s8,r8208,hk',lX]
    exact a0w (by omega)
  ·rintro sl ro gn ⟨s0,s1,s5,s6,s7,r8208⟩
   dsimp only at s0 s1 s5 s6 s7 r8208
   have hj': ¬((n:Nat):Int)<(n:Nat):=by omega
   simp(disch:=first|assumption|omega) only[go_sem,s0,s1,s5,s6,s7,r8208,hj',lX]
   exact a0w (by omega)
 ·rintro sl ro gn ⟨s0,s1,s5,s6,r8208⟩
  dsimp only at s0 s1 s5 s6 r8208
  have hi': ¬((n:Nat):Int)<(n:Nat):=by omega
  simp(disch:=first|assumption|omega) only[go_sem,s0,s5,s6,hi',lX]
  refine Yei ?_
  unfold imG
  rfl
section
variable{a:AV}{bs:List Int}{g:Nat}{ro:Ro}{gn:Nat→Nat}{n:Int}
theorem Frx.src{W:List Nat}{rb ro ro':Ro}{gb gn:Nat→Nat}(h:Frx W (CxS g) rb gb ro gn)(w:AV)(hW:8288∈W):Frx W (CxS g) rb gb (upr ro 8288 g w) gn:=h.wr _ _ _ hW (.inr ⟨rfl,rfl⟩)
theorem NxP.out{r:AV}{ro':Ro}{gn':Nat→Nat}(h:NxP a bs g ro gn n r ro' gn'): ∃v:Int,r=i64 v∧(n<1→v=0)∧(1≤n→0≤v∧v<n)∧gn=gn'∧(∀s u,s≠8288→ro' s u=ro s u)∧Src a bs (ro' 8288 g)∧ ∀W rb gb,8288∈W→Frx W (CxS g) rb gb ro gn→Frx W (CxS g) rb gb ro' gn:=by
 obtain⟨v,e1,e2,e3,rfl,w,rfl,e4⟩:=h
 exact⟨v,e1,e2,e3,rfl,fun s u hs=>by rw[a2u hs],by rw[a2Z];exact e4,fun W rb gb hW hF=>hF.src (ro':=ro) w hW⟩
theorem PkP.out{xs:List Int}{r:AV}{ro':Ro}{gn':Nat→Nat}(h:PkP a bs g ro gn xs r ro' gn'): ∃k,k<xs.length∧r=i64 (atI xs k)∧gn=gn'∧(∀s u,s≠8288→ro' s u=ro s u)∧Src a bs (ro' 8288 g)∧ ∀W rb gb,8288∈W→Frx W (CxS g) rb gb ro gn→Frx W (CxS g) rb gb ro' gn:=by
 obtain⟨k,e1,e2,rfl,w,rfl,e4⟩:=h
 exact⟨k,e1,e2,rfl,fun s u hs=>by rw[a2u hs],by rw[a2Z];exact e4,fun W rb gb hW hF=>hF.src (ro':=ro) w hW⟩
end
def W69:List Nat:=[8288,8256,24608,16432,28752,49200,69696,82032,82064,90160,106608,110656,8192,28688,32768,4096,20544]
def WRs:List Nat:=20544::WDs
theorem b3r{s:Nat}(h:s∈WRs):s≠8288∧s≠4096∧s≠8240∧s≠500000:=by
 refine⟨fun e=>?_,fun e=>?_,fun e=>?_,fun e=>?_⟩<;>subst e<;>exact absurd h (by decide)
def DrR(gn:Nat→Nat)(mx:Nat)(r:AV)(ro':Ro)(gn':Nat→Nat):Prop:= ∃(s u n:Nat) (F:C3),s∈WRs∧r= .agg [.ref s u [] 0 n]∧gn s<u∧u≤gn' s∧ro' s u=some (a0t F n)∧1≤n∧n≤mx
section
variable{a:AV}{bs:List Int}{g:Nat}
set_option maxHeartbeats 4000000 in
theorem c1O{ro0:Ro}{gn0:Nat→Nat}{mx:Nat}(hc:Cod a bs)(hs:Src a bs (ro0 8288 g))(h1:1≤mx)(h16:mx≤16):InS Tryz.prog 116 [.ptr 8288 g [] 0,i64 (mx:Int)] ro0 gn0
  (fun r ro' gn'=>Frx W69 (CxS g) ro0 gn0 ro' gn'∧Src a bs (ro' 8288 g)∧DrR gn0 mx r ro' gn'):=by
 have hs1:=hs
 refine a1U (fn:=Tryz.f116) (code:=a0b Tryz.f116) Tryz.func116 rfl (by kernel_rfl) ?_
 intro sl hs
 have s0:sl 0= .ptr 8288 g [] 0:=hs 0
 have s1:sl 1=i64 (mx:Int):=hs 1
 dsimp only[Tryz.f116,a0b,Option.getD]
 simp only[go_sem,s0,s1,a1l]
 refine a0p rfl (c4z hc (Ue hs1) h1 h16) ?_
 rintro _ ro1 gn1 ⟨fr1,hS1,s,u,n,F,hsI,rfl,l1,l2,rF,n1,n2⟩
 have hF1:Frx W69 (CxS g) ro0 gn0 ro1 gn1:=(show Frx W69 (CxS g) ro0 gn0 (upr ro0 4096 (gn0 4096+1) (.bx [a1q])) (upg gn0 4096 (gn0 4096+1))from KFt).trans (fr1.monoB (by decide)) (fun x y h=> .inr h)
 have r4:ro1 4096 (gn0 4096+1)=some (.bx [a1q]):=(fr1.kp _ _ Ur (fun e=>by have:=e.1;omega)).trans Ur
 obtain⟨ne1,ne2, -, -⟩:=b3r (List.mem_cons_of_mem 20544 hsI)
 have l1':gn0 s<u:=by simp only[↓za, ↓reduceIte,eq_false ne2]at l1;exact l1
 have w1:=hF1.up 4096
 have q4:gn0 4096<gn0 4096+1:=by omega
 by_cases hn:1<n
 ·have hn':(1:Int)<(n:Int):=by omega
  simp only[go_sem,s0,ti2,rF,eq_true hn']
  refine a0p rfl (a4q hc hS1 (n:=2) (by omega)) ?_
  intro r2 ro2 gn2 hN
  obtain⟨x,rfl, -, -, hgE,k2,hS2,f2⟩:=hN.out
  dsimp only at hgE k2 f2
  subst hgE
  have hF2:=f2 W69 _ _ (by decide) hF1
  have r4b:=(k2 4096 (gn0 4096+1) (by decide)).trans r4
  have rFb:=(k2 s u ne1).trans rF
  by_cases hx:x=0
  ·simp only[go_sem,s0,ti2,eq_true hx]
   refine a0p rfl (c2c hc hS2 (n:=n) n1 (by omega)) ?_
   rintro _ ro3 gn3 ⟨fr3,hS3,so,uo,O,hso,rfl,l3,l4,rO,hO⟩
   have hF3:Frx W69 (CxS g) ro0 gn0 ro3 gn3:=hF2.trans (fr3.monoB (by decide)) (fun x y h=> .inr h)
   have r4c:=(fr3.kp 4096 (gn0 4096+1) (by have:=hF1.up 4096;have:=fr1.up 4096;simp only[↓za, ↓reduceIte]at this;omega) (fun e=>by have:=e.1;omega)).trans r4b
   have rFc:=(fr3.kp s u l2 (fun e=>ne1 e.1)).trans rFb
   refine Ybi ?_
   refine a0z _ (b9T (a0V F n) (a0n O) hO (by unfold a0G;omega)) (.cons (a1k rFc (by decide)) (.cons (a0q rO rfl (by decide)) .nil)) rfl rfl (a2q _ _) ?_
   simp(disch:=first|assumption|omega) only[go_sem,a0i,zfe,a1l,r4c]
   have v1:=hF3.up 20544
   exact a3W (s:=4096) (g:=gn0 4096+1) Ur Ur (zfh _ _ _ _ _ _ _ _) ⟨KFt,Ue hS3,20544,(gn3 20544+1),n,(imG O F n),(by decide),rfl,(by omega),Ur,Ur,n1,n2⟩
  ·simp(disch:=first|assumption|omega) only[go_sem,ti2,a1l,eq_false hx,r4b,rFb]
   exact a3W (s:=4096) (g:=gn0 4096+1) Ur Ur (zfh _ _ _ _ _ _ _ _) ⟨KFt,Ue hS2,s,u,n,F,(List.mem_cons_of_mem _ hsI),rfl,l1',l2,(by simp only[↓za, ↓reduceIte,zb,eq_false ne2];exact rFb),n1,n2⟩
 ·have hn': ¬(1:Int)<(n:Int):=by omega
  simp(disch:=first|assumption|omega) only[go_sem,ti2,a1l,rF,eq_false hn',r4,undef]
  exact a3W (s:=4096) (g:=gn0 4096+1) Ur Ur (zfh _ _ _ _ _ _ _ _) ⟨KFt,Ue hS1,s,u,n,F,(List.mem_cons_of_mem _ hsI),rfl,l1',l2,(by simp only[↓za, ↓reduceIte,zb,eq_false ne2];exact rF),n1,n2⟩
end
abbrev plI(F:C3)(n x:Nat):AV:= .imm (rws (fun j=> .imm (rws (fun k=>i64 (F x j k)) n)) n)
abbrev plA(F:C3)(n x:Nat):AV:= .row (rws (fun j=> .row (rws (fun k=>i64 (F x j k)) n)) n)
abbrev plL(F:C3)(n x:Nat):List (List Int):=rws (fun j=>rws (fun k=>F x j k) n) n
def cvL(L:List Nat)(F:C3)(n:Nat):AV:= .imm (L.map (plI F n))
def TL(L:List Nat)(F:C3)(n:Nat):List (List (List Int)):=L.map (plL F n)
theorem b7I(F:C3)(n x:Nat):a2t (plI F n x) (plL F n x):=b2C F n x
theorem b1a(L:List Nat)(F:C3)(n:Nat):a0F (cvL L F n) (TL L F n):=by
 refine .inl ⟨_,rfl,?_⟩
 unfold TL
 induction L with
 |nil=>trivial
 |cons x L ih=>exact⟨b7I F n x,ih⟩
theorem c3q(ro:Ro)(F:C3)(n x k:Nat):ex ro (k+3) (plA F n x)=plI F n x:=by
 show AV.imm ((rws (fun j=>AV.row (rws (fun k=>i64 (F x j k)) n)) n).map (ex ro (k+2)))=_
 rw[a0y]
 refine congrArg AV.imm (a0g fun y _=>?_)
 show AV.imm ((rws (fun k=>i64 (F x y k)) n).map (ex ro (k+1)))=_
 rw[a0y]
 rfl
theorem a6a(F:C3)(n:Nat):a0t F n= .row ((List.range n).map (plA F n)):=rfl
theorem a5X{ro:Ro}{s u n o m:Nat}{F:C3}(h:ro s u=some (a0t F n)):exq 7 ro (.ref s u [] o m) (cvL (((List.range n).drop o).take m) F n):=by
 refine⟨fun k hk=>?_,fun hp=>by simp[a0W]at hp⟩
 obtain⟨j,rfl⟩: ∃j,k=j+4:=⟨k-4,by omega⟩
 show (match ro.cells s u []with|some cs=>AV.imm (((cs.drop o).take m).map (ex ro (j+3)))|none=> .dead)=_
 rw[zef,h,a6a]
 show AV.imm (((((List.range n).map (plA F n)).drop o).take m).map (ex ro (j+3)))=_
 rw[←List.map_drop, ←List.map_take,List.map_map]
 exact congrArg AV.imm (List.map_congr_left fun x _=>c3q ro F n x j)
theorem b9M{ro:Ro}{s u b gb n N:Nat}{F:C3}{L:List Nat}(h:ro s u=some (.bx (L.map fun x=> .ref b (gb+1+x) [] 0 n)))(hp: ∀x,x∈L→ro b (gb+1+x)=some (plA F n x))(hN:N=L.length):exq 7 ro (.ref s u [] 0 N) (cvL L F n):=by
 subst hN
 refine⟨fun k hk=>?_,fun hp=>by simp[a0W]at hp⟩
 obtain⟨j,rfl⟩: ∃j,k=j+5:=⟨k-5,by omega⟩
 show (match ro.cells s u []with|some cs=>AV.imm (((cs.drop 0).take L.length).map (ex ro (j+4)))|none=> .dead)=_
 rw[zef,h]
 show AV.imm ((((L.map fun x=>AV.ref b (gb+1+x) [] 0 n).drop 0).take L.length).map (ex ro (j+4)))=_
 rw[List.drop_zero,List.take_of_length_le (by rw[List.length_map];exact Nat.le_refl _),List.map_map]
 refine congrArg AV.imm (List.map_congr_left fun x hx=>?_)
 show ex ro (j+4) (.ref b (gb+1+x) [] 0 n)=_
 show (match ro.cells b (gb+1+x) []with|some cs=>AV.imm (((cs.drop 0).take n).map (ex ro (j+3)))|none=> .dead)=_
 rw[zef,hp x hx]
 show AV.imm ((((rws (fun j=>AV.row (rws (fun k=>i64 (F x j k)) n)) n).drop 0).take n).map (ex ro (j+3)))=_
 rw[List.drop_zero,List.take_of_length_le (by rw[zfe];exact Nat.le_refl _),a0y]
 refine congrArg AV.imm (a0g fun y _=>?_)
 show AV.imm ((rws (fun k=>i64 (F x y k)) n).map (ex ro (j+2)))=_
 rw[a0y]
 rfl
def RdT(ro:Ro)(gn:Nat→Nat)(T:List (List (List Int)))(c:AV):Prop:=
 ∃(s u o m:Nat) (cv:AV),c= .ref s u [] o m∧(s≠8288∧s≠4096∧m≤100∧s∈WRs∧T.length=m)∧u≤gn s∧(b0G (ro s u)).isSome=true∧a0F cv T∧SzP T∧ ∀ro2:Ro,(∀x y,y≤gn x→x≠8288→x≠4096→ro2 x y=ro x y)→exq 7 ro2 c cv
def RdU(ro:Ro)(gn:Nat→Nat)(T:List (List (List Int)))(c:AV):Prop:=
 ∃(s u o m:Nat) (cv:AV),c= .ref s u [] o m∧(s≠8288∧s≠4096∧m≤100∧s∈WRs∧T.length=m)∧u≤gn s∧(b0G (ro s u)).isSome=true∧a0F cv T∧SzP T∧ ∀ro2:Ro,(∀x y,(x=s∨x=500000)→y≤gn x→ro2 x y=ro x y)→exq 7 ro2 c cv
theorem b7e{L:List Nat}{F:C3}{n:Nat}(h1:L.length≤100)(h2:n≤100):SzP (TL L F n):=by
 have hl:(TL L F n).length=L.length:=List.length_map _
 refine⟨by rw[hl];unfold a0G;omega,fun i hi=>?_⟩
 rw[hl]at hi
 have hm:mat (TL L F n) i=plL F n (L[i]):=by
  unfold mat TL
  rw[List.getD_eq_getElem?_getD,List.getElem?_map,List.getElem?_eq_getElem hi]
  rfl
 rw[hm]
 refine⟨by rw[zfe];unfold a0G;omega,fun j hj=>?_⟩
 rw[zfe]at hj
 rw[a1A _ hj,zfe]
 unfold a0G;omega
section
variable{a:AV}{bs:List Int}{g:Nat}{ro:Ro}{gn:Nat→Nat}{n:Int}
def nxV(bs:List Int)(k:Nat)(h n:Int):Int:=if k<bs.length then(nxX h+atI bs k).tmod n else(nxX h).tmod n
theorem b1s{k:Nat}{h:Int}(hc:Cod a bs)(hk:k≤bs.length)(hro:ro 8288 g=some (b2s a (k:Int) h))(h1:1≤n)(hn:n<4611686018427387904):InS Tryz.prog 68 [.ptr 8288 g [] 0,i64 n] ro gn (fun r ro' gn'=>r=i64 (nxV bs k h n)∧0≤nxV bs k h n∧nxV bs k h n<n∧gn=gn'∧(∀s u,s≠8288→ro' s u=ro s u)∧Src a bs (ro' 8288 g)∧ ∀W rb gb,8288∈W→Frx W (CxS g) rb gb ro gn→Frx W (CxS g) rb gb ro' gn):=by
 have hx:0≤nxX h:=(a6f _).1
 rcases Nat.lt_or_ge k bs.length with h2|h2
 ·have hb:=hc.r k h2
  have e:nxV bs k h n=(nxX h+atI bs k).tmod n:=if_pos h2
  refine(a9P ⟨h1,hn⟩ hc.b hc.r hc.l h2 hro).toS.mono ?_
  rintro _ _ _ ⟨rfl,rfl,rfl⟩
  rw[e]
  exact⟨rfl,Int.tmod_nonneg _ (by omega),Int.tmod_lt_of_pos _ (by omega),rfl,fun s u hs=>by rw[a2u hs],⟨k+1,_,h2,by rw[a2Z]⟩,fun W rb gb hW hF=>hF.src (ro':=ro) _ hW⟩
 ·have e:nxV bs k h n=(nxX h).tmod n:=if_neg (by omega)
  refine(a9F ⟨h1,hn⟩ hc.b hc.l (by omega) hro).toS.mono ?_
  rintro _ _ _ ⟨rfl,rfl,rfl⟩
  rw[e]
  exact⟨rfl,Int.tmod_nonneg _ hx,Int.tmod_lt_of_pos _ (by omega),rfl,fun s u hs=>by rw[a2u hs],⟨k,_,hk,by rw[a2Z]⟩,fun W rb gb hW hF=>hF.src (ro':=ro) _ hW⟩
end
def W38:List Nat:=[8288,8256,24608,16432,28752,49200,69696,82032,82064,90160,106608,110656,8192,28688,32768,4096,20544,8240,500000,24832]
def DrX(a:AV)(bs:List Int)(g:Nat)(gn:Nat→Nat)(mx:Nat)(r:AV)(ro':Ro)(gn':Nat→Nat):Prop:= ∃(k:Nat) (h:Int) (s u n:Nat) (F:C3),k≤bs.length∧ro' 8288 g=some (b2s a (k:Int) h)∧s∈WRs∧r= .agg [.ref s u [] 0 n]∧gn s<u∧u≤gn' s∧1≤n∧n≤mx∧
 ((nxV bs k h 20≠2∧ro' s u=some (a0t F n))∨(nxV bs k h 20=2∧ ∃gb,gn 500000≤gb∧gb+n≤gn' 500000∧ro' s u=some (.bx ((List.range n).map fun x=> .ref 500000 (gb+1+x) [] 0 n))∧ ∀x,x<n→ro' 500000 (gb+1+x)=some (plA F n x)))
theorem c3K{a:AV}{bs:List Int}{g:Nat}{ro0:Ro}{gn0:Nat→Nat}{mx:Nat}(hc:Cod a bs)(hs:Src a bs (ro0 8288 g))(h1:1≤mx)(h16:mx≤16):InS Tryz.prog 116 [.ptr 8288 g [] 0,i64 (mx:Int)] ro0 gn0
  (fun r ro' gn'=>Frx W38 (CxS g) ro0 gn0 ro' gn'∧DrX a bs g gn0 mx r ro' gn'):=by
 refine c3x (c1O hc hs h1 h16) ?_
 rintro r ro' gn' ⟨fr,⟨k,h,hk,hro⟩,s,u,n,F,hsI,rfl,l1,l2,rF,n1,n2⟩
 have fr':Frx W38 (CxS g) ro0 gn0 ro' gn':=fr.monoB (by decide)
 obtain⟨ne1,ne2,ne3,ne4⟩:=b3r hsI
 by_cases hv:nxV bs k h 20=2
 ·refine⟨_,.unp s u 500000 n (fun i=>rws (fun j=> .row (rws (fun k=>i64 (F i j k)) n)) n) ne4 (by show ro' s u=_;rw[rF,a6a]),?_,k,h,s,u,n,F,hk,?_,hsI,rfl,l1,?_,n1,n2,.inr ⟨hv,gn' 500000,fr'.up _,?_,?_,fun x hx=>?_⟩⟩
  ·refine⟨fun z hz=>?_,fun x=>?_,fun x y hy hC=>?_⟩
   ·have hz1:z≠s:=fun e=>hz (by rw[e];exact(List.all_eq_true.1 (show WRs.all (fun s=>W38.contains s)=true by decide) s hsI |> List.contains_iff_mem.1))
    have hz2:z≠500000:=fun e=>hz (by rw[e];decide)
    refine⟨?_,?_⟩
    ·funext y
     show (if z=s∧y=u then _ else if z=500000∧_ then _ else ro' z y)=ro0 z y
     rw[if_neg (fun e=>hz1 e.1),if_neg (fun e=>hz2 e.1),(fr'.off z hz).1]
    ·show upg gn' 500000 _ z=_
     rw[zda,if_neg hz2,(fr'.off z hz).2]
   ·show gn0 x≤upg gn' 500000 (gn' 500000+n) x
    have:=fr'.up x
    rw[zda]
    split
    ·rename_i e;subst e;omega
    ·exact this
   ·have hup:=fr'.up x
    show (if x=s∧y=u then _ else if x=500000∧gn' 500000<y∧y≤gn' 500000+n then _ else ro' x y)=ro0 x y
    rw[if_neg (fun e=>by obtain⟨rfl,rfl⟩:=e;omega),if_neg (fun e=>by obtain⟨rfl,e2,e3⟩:=e;omega)]
    exact fr'.kp x y hy hC
  ·show (if 8288=s∧g=u then _ else if 8288=500000∧_ then _ else ro' 8288 g)=_
   rw[if_neg (fun e=>ne1 e.1.symm),if_neg (fun e=>by have:=e.1;omega)]
   exact hro
  ·show u≤upg gn' 500000 (gn' 500000+n) s
   rw[zda,if_neg ne4];exact l2
  ·show gn' 500000+n≤upg gn' 500000 (gn' 500000+n) 500000
   rw[zda,if_pos rfl];exact Nat.le_refl _
  ·show (if s=s∧u=u then _ else _)=_
   rw[if_pos ⟨rfl,rfl⟩]
   refine congrArg (fun z=>some (AV.bx z)) (List.map_congr_left fun x _=>?_)
   show AV.ref 500000 (gn' 500000+1+x) [] 0 (rws _ n).length=_
   rw[zfe]
  ·have e:gn' 500000+1+x-(gn' 500000+1)=x:=by omega
   refine(if_neg (fun e=>ne4 e.1.symm)).trans ((if_pos ⟨rfl,?_,?_⟩).trans ?_)
   ·show some (AV.row (rws (fun j=> .row (rws (fun k=>i64 (F (gn' 500000+1+x-(gn' 500000+1)) j k)) n)) n))=_
    rw[e]
   ·show gn' 500000<gn' 500000+1+x
    omega
   ·show gn' 500000+1+x≤gn' 500000+n
    omega
 ·exact⟨_,.refl,fr',k,h,s,u,n,F,hk,hro,hsI,rfl,l1,l2,n1,n2,.inl ⟨hv,rF⟩⟩
end Go.Proofs.YtbakhfiibjkifaaGreat
