/- Texts joined: Da6 Da7 Da8 Da9. -/
import Derived.Test.YtbakhfiibjkifaaGreatRb
set_option linter.all false
/- Draws: tables of dihedral rings. -/
namespace Go.Proofs.YtbakhfiibjkifaaGreat
open Go.RowKit
set_option maxRecDepth 1000000
def trH(n h:Nat):Nat:=if n<2*h then n-h else h
def trL(n h:Nat):List Int:=if trH n h=0 then [0,1]else if 2*trH n h=n then [2,3]else [(((if n % 2=0 then 3 else 1)+trH n h:Nat):Int)]
theorem a3Q(n h:Nat):1≤(trL n h).length∧(trL n h).length≤2:=by
 unfold trL
 split
 ·exact⟨by decide,by decide⟩
 ·split
  ·exact⟨by decide,by decide⟩
  ·exact⟨Nat.le_refl _,by show 1≤2;decide⟩
def dhO(n:Nat):Nat:=if n % 2=0 then 4 else 2
theorem c0j{n h:Nat}(hn:1≤n)(hh:h≤n): ∀x,x∈trL n h→0≤x∧x<((dhO n+(n-1) / 2:Nat):Int):=by
 intro x hx
 have hH:trH n h≤n∧2*trH n h≤n:=by unfold trH;split<;>omega
 unfold trL at hx
 unfold dhO
 split at hx
 ·have:x=0∨x=1:=by simpa using hx
  split<;>omega
 ·split at hx
  ·rename_i h0 h2
   have:x=2∨x=3:=by simpa using hx
   rw[if_pos (by omega)]
   omega
  ·rename_i h0 h2
   have:x=(((if n % 2=0 then 3 else 1)+trH n h:Nat):Int):=by simpa using hx
   subst this
   split<;>omega
theorem a9i{n h:Nat}(hn:n≤100)(hh:h≤n):a0d Tryz.prog 170 [i64 (n:Int),i64 (h:Int)] (a0H (trL n h)):=by
 have e2:Int.tmod (n:Int) 2=((n % 2:Nat):Int):=rfl
 refine a0e (fn:=Tryz.f170) (code:=a0b Tryz.f170) Tryz.func170 rfl (by kernel_rfl) (a1b _) ?_
 intro sl hs
 have s0:sl 0=i64 (n:Int):=hs 0
 have s1:sl 1=i64 (h:Int):=hs 1
 by_cases hg:n<2*h
 ·have hg':(n:Int)<2*(h:Int):=by omega
  obtain⟨hX,hx⟩: ∃hX,hX=n-h:=⟨_,rfl⟩
  have hH:trH n h=hX:=by unfold trH;rw[if_pos hg,hx]
  have hs:(n:Int)-(h:Int)=(hX:Int):=by omega
  have hb:hX≤100:=by omega
  by_cases h0:hX=0
  ·have h0':(hX:Int)=0:=by omega
   have e:trL n h=[0,1]:=by unfold trL;rw[if_pos (by rw[hH];exact h0)]
   rw[e]
   by_cases hp:n % 2=0
   ·have hp':((n % 2:Nat):Int)=0:=by omega
    dsimp only[Tryz.f170,a0b,Option.getD]
    simp(disch:=first|assumption|omega) only[go_sem,s0,s1,ti2,e2,eq_true hg',eq_true hp',hs,eq_true h0']
    refine Yab ?_
    first|rfl|(exfalso;omega)
   ·have hp': ¬((n % 2:Nat):Int)=0:=by omega
    dsimp only[Tryz.f170,a0b,Option.getD]
    simp(disch:=first|assumption|omega) only[go_sem,s0,s1,ti2,e2,eq_true hg',eq_false hp',hs,eq_true h0']
    refine Yab ?_
    first|rfl|(exfalso;omega)
  ·have h0': ¬(hX:Int)=0:=by omega
   by_cases h1:2*hX=n
   ·have h1':2*(hX:Int)=(n:Int):=by omega
    have e:trL n h=[2,3]:=by unfold trL;rw[if_neg (by rw[hH];exact h0),if_pos (by rw[hH];exact h1)]
    rw[e]
    have hp':((n % 2:Nat):Int)=0:=by omega
    dsimp only[Tryz.f170,a0b,Option.getD]
    simp(disch:=first|assumption|omega) only[go_sem,s0,s1,ti2,e2,eq_true hg',eq_true hp',hs,eq_false h0']
    refine Yab ?_
    first|rfl|(exfalso;omega)
   ·have h1': ¬2*(hX:Int)=(n:Int):=by omega
    by_cases hp:n % 2=0
    ·have hp':((n % 2:Nat):Int)=0:=by omega
     have e:trL n h=[((3+hX:Nat):Int)]:=by unfold trL;rw[if_neg (by rw[hH];exact h0),if_neg (by rw[hH];exact h1),if_pos hp,hH]
     rw[e]
     have e3:(3:Int)+(hX:Int)=((3+hX:Nat):Int):=by omega
     dsimp only[Tryz.f170,a0b,Option.getD]
     simp(disch:=first|assumption|omega) only[go_sem,s0,s1,ti2,e2,eq_true hg',eq_true hp',hs,eq_false h0',eq_false h1',e3]
     refine Yab ?_
     first|rfl|(exfalso;omega)
    ·have hp': ¬((n % 2:Nat):Int)=0:=by omega
     have e:trL n h=[((1+hX:Nat):Int)]:=by unfold trL;rw[if_neg (by rw[hH];exact h0),if_neg (by rw[hH];exact h1),if_neg hp,hH]
     rw[e]
     have e3:(1:Int)+(hX:Int)=((1+hX:Nat):Int):=by omega
     dsimp only[Tryz.f170,a0b,Option.getD]
     simp(disch:=first|assumption|omega) only[go_sem,s0,s1,ti2,e2,eq_true hg',eq_false hp',hs,eq_false h0',eq_false h1',e3]
     refine Yab ?_
     first|rfl|(exfalso;omega)
 ·have hg': ¬(n:Int)<2*(h:Int):=by omega
  obtain⟨hX,hx⟩: ∃hX,hX=h:=⟨_,rfl⟩
  have hH:trH n h=hX:=by unfold trH;rw[if_neg hg,hx]
  have hs:(h:Int)=(hX:Int):=by omega
  have hb:hX≤100:=by omega
  by_cases h0:hX=0
  ·have h0':(hX:Int)=0:=by omega
   have e:trL n h=[0,1]:=by unfold trL;rw[if_pos (by rw[hH];exact h0)]
   rw[e]
   by_cases hp:n % 2=0
   ·have hp':((n % 2:Nat):Int)=0:=by omega
    dsimp only[Tryz.f170,a0b,Option.getD]
    simp(disch:=first|assumption|omega) only[go_sem,s0,s1,ti2,e2,eq_true hp',hs,eq_true h0']
    refine Yab ?_
    first|rfl|(exfalso;omega)
   ·have hp': ¬((n % 2:Nat):Int)=0:=by omega
    dsimp only[Tryz.f170,a0b,Option.getD]
    simp(disch:=first|assumption|omega) only[go_sem,s0,s1,ti2,e2,eq_false hp',hs,eq_true h0']
    refine Yab ?_
    first|rfl|(exfalso;omega)
  ·have h0': ¬(hX:Int)=0:=by omega
   by_cases h1:2*hX=n
   ·have h1':2*(hX:Int)=(n:Int):=by omega
    have e:trL n h=[2,3]:=by unfold trL;rw[if_neg (by rw[hH];exact h0),if_pos (by rw[hH];exact h1)]
    rw[e]
    have hp':((n % 2:Nat):Int)=0:=by omega
    dsimp only[Tryz.f170,a0b,Option.getD]
    simp(disch:=first|assumption|omega) only[go_sem,s0,s1,ti2,e2,eq_true hp',hs,eq_false h0',eq_true h1']
    refine Yab ?_
    first|rfl|(exfalso;omega)
   ·have h1': ¬2*(hX:Int)=(n:Int):=by omega
    by_cases hp:n % 2=0
    ·have hp':((n % 2:Nat):Int)=0:=by omega
     have e:trL n h=[((3+hX:Nat):Int)]:=by unfold trL;rw[if_neg (by rw[hH];exact h0),if_neg (by rw[hH];exact h1),if_pos hp,hH]
     rw[e]
     have e3:(3:Int)+(hX:Int)=((3+hX:Nat):Int):=by omega
     dsimp only[Tryz.f170,a0b,Option.getD]
     simp(disch:=first|assumption|omega) only[go_sem,s0,s1,ti2,e2,eq_true hp',hs,eq_false h0',eq_false h1',e3]
     refine Yab ?_
     first|rfl|(exfalso;omega)
    ·have hp': ¬((n % 2:Nat):Int)=0:=by omega
     have e:trL n h=[((1+hX:Nat):Int)]:=by unfold trL;rw[if_neg (by rw[hH];exact h0),if_neg (by rw[hH];exact h1),if_neg hp,hH]
     rw[e]
     have e3:(1:Int)+(hX:Int)=((1+hX:Nat):Int):=by omega
     dsimp only[Tryz.f170,a0b,Option.getD]
     simp(disch:=first|assumption|omega) only[go_sem,s0,s1,ti2,e2,eq_false hp',hs,eq_false h0',eq_false h1',e3]
     refine Yab ?_
     first|rfl|(exfalso;omega)
def a3f(F:C3)(i j k:Nat):C3:=a0Z F i j k (wrF (F i j k+1))
def atN(L:List Int)(i:Nat):Nat:=(atI L i).toNat
def dhA(a v:Nat)(L:List Int):C3→C3:=itF (fun i F=>a3f (a3f F a v (atN L i)) v a (atN L i)) L.length
def dhB(v w:Nat)(L:List Int):C3→C3:=itF (fun i F=>a3f F v w (atN L i)) L.length
def dhL(n h a:Nat):List Int:=if 2≤a then trL n (n / 2-h)else trL n h
def dhM(n h k:Nat):List Int:=trL n (h+k)++trL n (if k≤h then h-k else k-h)
def dhH(n:Nat)(h:Nat)(F:C3):C3:=
 itF (fun k=>dhB (dhO n+h) (dhO n+k) (dhM n (h+1) (k+1))) ((n-1) / 2) (itF (fun a=>dhA a (dhO n+h) (dhL n (h+1) a)) (dhO n) F)
def dhG(n:Nat):List Int:=if n % 2=0 then [2,2]else [2]
def dhF(n:Nat):C3:=itF (dhH n) ((n-1) / 2) (grF (dhG n) (dhO n))
theorem a7e{L:List Int}{N:Nat}(h: ∀x,x∈L→0≤x∧x<(N:Int)){i:Nat}(hi:i<L.length):atI L i=((atN L i:Nat):Int)∧atN L i<N:=by
 have:=h _ (a7c hi)
 unfold atN
 omega
set_option maxHeartbeats 8000000 in
theorem b4r{n:Nat}(h1:1≤n)(h9:n≤9):a0d Tryz.prog 157 [i64 (n:Int)] (a0t (dhF n) (dhO n+(n-1) / 2)):=by
 have e2:Int.tmod (n:Int) 2=((n % 2:Nat):Int):=rfl
 have e3:Int.tdiv (n:Int) 2=((n / 2:Nat):Int):=rfl
 have e4:Int.tdiv ((n:Int)-1) 2=(((n-1) / 2:Nat):Int):=by rw[show (n:Int)-1=((n-1:Nat):Int) by omega];rfl
 have hTm:=fun h hh=>c0j (n:=n) (h:=h) h1 hh
 refine a0e (fn:=Tryz.f157) (code:=a0b Tryz.f157) Tryz.func157 rfl (by kernel_rfl) (a0J _ _) ?_
 intro sl hs
 have s0:sl 0=i64 (n:Int):=hs 0
 by_cases hp:n % 2=0
 ·have hp':((n % 2:Nat):Int)=0:=by omega
  have hOv:dhO n=4:=by unfold dhO;rw[if_pos hp]
  have hdG:dhG n=[2,2]:=by unfold dhG;rw[if_pos hp]
  have hGr:GrO [2,2] 16:=⟨by decide,by decide,by decide,by decide⟩
  have hpr:prO [2,2]=((dhO n:Nat):Int):=by rw[hOv];rfl
  dsimp only[Tryz.f157,a0b,Option.getD]
  simp(disch:=first|assumption|omega) only[go_sem,s0,ti2,e2,e4,eq_true hp']
  have cG:=b1C (a0n ([2,2]:List Int)) hGr (m:=(n-1) / 2) (by omega)
  rw[hpr]at cG
  rw[show ((dhO n:Nat):Int).toNat=dhO n from Int.toNat_natCast _]at cG
  unfold dhF
  rw[show dhG n=([2,2]:List Int)from hdG]
  generalize hF0:grF ([2,2]:List Int) (dhO n)=F0 at cG
  refine a0z _ cG (.cons (a0q Ur (by rfl) (by decide)) (.cons (a1f _ _ _ (by decide)) .nil)) rfl rfl (a2q _ _) ?_
  refine Yfq ?_
  obtain⟨N,hN⟩: ∃N,dhO n+(n-1) / 2=N:=⟨_,rfl⟩
  have hTm': ∀h,h≤n→ ∀x,x∈trL n h→0≤x∧x<(N:Int):=fun h hh=>by rw[←hN];exact hTm h hh
  rw[hN]
  obtain⟨T,hT⟩: ∃T,(n-1) / 2=T:=⟨_,rfl⟩
  rw[hT]at hN e4 ⊢
  have hTn:2*T+1≤n:=by omega
  generalize hO:dhO n=O1 at hN hOv ⊢
  refine a0f (fun h st=>st.sl 0=i64 (n:Int)∧st.sl 3=i64 (O1:Int)∧st.sl 5=i64 (T:Int)∧st.sl 6= .ref 28704 1 [] 0 N∧st.sl 7=i64 ((h+1:Nat):Int)∧st.ro 28704 1=some (a0t (itF (dhH n) h F0) N)) T ?_ ?_ ?_
  ·refine Yaf ?_
   exact⟨a0w (by omega),rfl,rfl⟩
  ·rintro h sl ro gn hh ⟨s0,s3,s5,s6,s7,r28704⟩
   dsimp only at s0 s3 s5 s6 s7 r28704
   have hh':(h:Int)<(T:Nat):=by omega
   have hle:((h+1:Nat):Int)≤(T:Int):=by omega
   have hv:(O1:Int)+((h+1:Nat):Int)-1=((O1+h:Nat):Int):=by omega
   have hvN:O1+h<N:=by omega
   have hu:itF (dhH n) (h+1) F0=dhH n h (itF (dhH n) h F0):=rfl
   rw[hu]
   generalize itF (dhH n) h F0=G at r28704
   have hH:dhH n h G=itF (fun k=>dhB (O1+h) (O1+k) (dhM n (h+1) (k+1))) T (itF (fun a=>dhA a (O1+h) (dhL n (h+1) a)) O1 G):=by unfold dhH;rw[hO,hT]
   rw[hH]
   generalize hvg:O1+h=v at hv hvN
   refine Yfz ?_
   refine a0f (fun a st=>st.sl 0=i64 (n:Int)∧st.sl 3=i64 (O1:Int)∧st.sl 5=i64 (T:Int)∧st.sl 6= .ref 28704 1 [] 0 N∧st.sl 7=i64 ((h+1:Nat):Int)∧st.sl 8=i64 (v:Int)∧st.sl 9=i64 (a:Int)∧st.ro 28704 1=some (a0t (itF (fun a=>dhA a v (dhL n (h+1) a)) a G) N)) O1 ?_ ?_ ?_
   ·simp only[↓za, ↓reduceIte,Nat.reduceEqDiff,zb,reduceCtorEq,s0,s3,s5,s6,s7,r28704]
    exact⟨rfl,rfl⟩
   ·rintro a sl ro gn ha ⟨s0,s3,s5,s6,s7,s8,s9,r28704⟩
    dsimp only at s0 s3 s5 s6 s7 s8 s9 r28704
    have ha':(a:Int)<(O1:Nat):=by omega
    have haN:a<N:=by omega
    have hu:itF (fun a=>dhA a v (dhL n (h+1) a)) (a+1) G=dhA a v (dhL n (h+1) a) (itF (fun a=>dhA a v (dhL n (h+1) a)) a G):=rfl
    rw[hu]
    generalize itF (fun a=>dhA a v (dhL n (h+1) a)) a G=G2 at r28704
    have cT:=a9i (n:=n) (h:=h+1) (by omega) (by omega)
    have hn2:h+1≤n / 2:=by omega
    have cT2:=a9i (n:=n) (h:=n / 2-(h+1)) (by omega) (by omega)
    have hsub:((n / 2:Nat):Int)-((h+1:Nat):Int)=((n / 2-(h+1):Nat):Int):=by omega
    obtain⟨L,hL⟩: ∃L,L=dhL n (h+1) a:=⟨_,rfl⟩
    rw[←hL]
    have hLm: ∀x,x∈L→0≤x∧x<(N:Int):=by
     rw[hL];unfold dhL
     split
     ·exact hTm' _ (by omega)
     ·exact hTm' _ (by omega)
    have hLl:L.length≤2:=by
     rw[hL];unfold dhL
     split
     ·exact(a3Q _ _).2
     ·exact(a3Q _ _).2
    unfold dhA
    by_cases ha2:2≤a
    ·have ha2':(2:Int)≤(a:Int):=by omega
     have hLe:trL n (n / 2-(h+1))=L:=by rw[hL];unfold dhL;rw[if_pos ha2]
     rw[hLe]at cT2
     generalize trL n (h+1)=L0 at cT
     refine Yda ?_
     refine a0c _ cT rfl rfl rfl ?_
     simp(disch:=first|assumption|omega) only[go_sem,s0,s7,s9,a0i,a0H,List.length_map,ti2,e3,hsub]
     refine a0c _ cT2 rfl rfl rfl ?_
     simp(disch:=first|assumption|omega) only[go_sem,a0i,a0H,List.length_map]
     obtain⟨gL,hgL⟩: ∃g,g=gn 69712+1:=⟨_,rfl⟩
     rw[←hgL]
     refine a0f (fun i st=>st.sl 0=i64 (n:Int)∧st.sl 3=i64 (O1:Int)∧st.sl 5=i64 (T:Int)∧st.sl 6= .ref 28704 1 [] 0 N∧st.sl 7=i64 ((h+1:Nat):Int)∧st.sl 8=i64 (v:Int)∧st.sl 9=i64 (a:Int)∧st.sl 10= .ref 69712 gL [] 0 L.length∧st.sl 11=i64 (i:Int)∧st.ro 28704 1=some (a0t (itF (fun i F=>a3f (a3f F a v (atN L i)) v a (atN L i)) i G2) N)∧(st.ro 69712 gL=some (.row (L.map i64)))) L.length ?_ ?_ ?_
     ·refine Ydu ?_
      subst hgL
      exact⟨rfl,rfl⟩
     ·rintro i sl ro gn hi ⟨s0,s3,s5,s6,s7,s8,s9,s10,s11,r28704,rL⟩
      dsimp only at s0 s3 s5 s6 s7 s8 s9 s10 s11 r28704
      have hi':(i:Int)<(L.length:Nat):=by omega
      dsimp only at rL
      obtain⟨hzI,hzN⟩:=a7e hLm hi
      have hget:(L.map i64)[i]?=some (i64 (atN L i:Nat)):=by rw[b9L hi,hzI]
      have hu:itF (fun i F=>a3f (a3f F a v (atN L i)) v a (atN L i)) (i+1) G2=a3f (a3f (itF (fun i F=>a3f (a3f F a v (atN L i)) v a (atN L i)) i G2) a v (atN L i)) v a (atN L i):=rfl
      rw[hu]
      generalize itF (fun i F=>a3f (a3f F a v (atN L i)) v a (atN L i)) i G2=H at r28704
      generalize hzg:atN L i=z at hget hzN
      have hzN':(z:Int)<(N:Int):=by omega
      have haN':(a:Int)<(N:Int):=by omega
      have hvN':(v:Int)<(N:Int):=by omega
      have hw1:=a1m (v:=wrF (H a v z+1)) r28704 haN hvN hzN
      have hp1:(upr ro 28704 1 (a0t (a0Z H a v z (wrF (H a v z+1))) N)) 28704 1=some (a0t (a0Z H a v z (wrF (H a v z+1))) N):=by simp only[↓za, ↓reduceIte,zb]
      have hw2:=a1m (v:=wrF (a0Z H a v z (wrF (H a v z+1)) v a z+1)) hp1 hvN haN hzN
      have hL2:(upr ro 28704 1 (a0t (a0Z H a v z (wrF (H a v z+1))) N)) 69712 gL=some (.row (L.map i64)):=by simp only[↓za, ↓reduceIte,Nat.reduceEqDiff,zb];exact rL
      refine Ybf ?_
      refine a0r (by kernel_rfl) ?_
      refine Ybg ?_
      refine a0r (by kernel_rfl) ?_
      refine Yct ?_
      exact⟨a0w (by omega),rfl,rL⟩
     ·rintro sl ro gn ⟨s0,s3,s5,s6,s7,s8,s9,s10,s11,r28704,rL⟩
      dsimp only at s0 s3 s5 s6 s7 s8 s9 s10 s11 r28704
      have hi': ¬((L.length:Nat):Int)<(L.length:Nat):=by omega
      dsimp only at rL
      refine Ycu ?_
      exact a0w (by omega)
    ·have ha2': ¬(2:Int)≤(a:Int):=by omega
     have hLe:trL n (h+1)=L:=by rw[hL];unfold dhL;rw[if_neg ha2]
     rw[hLe]at cT
     refine Yda ?_
     refine a0c _ cT rfl rfl rfl ?_
     refine Ydh ?_
     obtain⟨gL,hgL⟩: ∃g,g=gn 61472+1:=⟨_,rfl⟩
     rw[←hgL]
     refine a0f (fun i st=>st.sl 0=i64 (n:Int)∧st.sl 3=i64 (O1:Int)∧st.sl 5=i64 (T:Int)∧st.sl 6= .ref 28704 1 [] 0 N∧st.sl 7=i64 ((h+1:Nat):Int)∧st.sl 8=i64 (v:Int)∧st.sl 9=i64 (a:Int)∧st.sl 10= .ref 61472 gL [] 0 L.length∧st.sl 11=i64 (i:Int)∧st.ro 28704 1=some (a0t (itF (fun i F=>a3f (a3f F a v (atN L i)) v a (atN L i)) i G2) N)∧(st.ro 61472 gL=some (.row (L.map i64)))) L.length ?_ ?_ ?_
     ·refine Ydu ?_
      subst hgL
      exact⟨rfl,rfl⟩
     ·rintro i sl ro gn hi ⟨s0,s3,s5,s6,s7,s8,s9,s10,s11,r28704,rL⟩
      dsimp only at s0 s3 s5 s6 s7 s8 s9 s10 s11 r28704
      have hi':(i:Int)<(L.length:Nat):=by omega
      dsimp only at rL
      obtain⟨hzI,hzN⟩:=a7e hLm hi
      have hget:(L.map i64)[i]?=some (i64 (atN L i:Nat)):=by rw[b9L hi,hzI]
      have hu:itF (fun i F=>a3f (a3f F a v (atN L i)) v a (atN L i)) (i+1) G2=a3f (a3f (itF (fun i F=>a3f (a3f F a v (atN L i)) v a (atN L i)) i G2) a v (atN L i)) v a (atN L i):=rfl
      rw[hu]
      generalize itF (fun i F=>a3f (a3f F a v (atN L i)) v a (atN L i)) i G2=H at r28704
      generalize hzg:atN L i=z at hget hzN
      have hzN':(z:Int)<(N:Int):=by omega
      have haN':(a:Int)<(N:Int):=by omega
      have hvN':(v:Int)<(N:Int):=by omega
      have hw1:=a1m (v:=wrF (H a v z+1)) r28704 haN hvN hzN
      have hp1:(upr ro 28704 1 (a0t (a0Z H a v z (wrF (H a v z+1))) N)) 28704 1=some (a0t (a0Z H a v z (wrF (H a v z+1))) N):=by simp only[↓za, ↓reduceIte,zb]
      have hw2:=a1m (v:=wrF (a0Z H a v z (wrF (H a v z+1)) v a z+1)) hp1 hvN haN hzN
      have hL2:(upr ro 28704 1 (a0t (a0Z H a v z (wrF (H a v z+1))) N)) 61472 gL=some (.row (L.map i64)):=by simp only[↓za, ↓reduceIte,Nat.reduceEqDiff,zb];exact rL
      refine Ybf ?_
      refine a0r (by kernel_rfl) ?_
      refine Ybg ?_
      refine a0r (by kernel_rfl) ?_
      refine Yct ?_
      exact⟨a0w (by omega),rfl,rL⟩
     ·rintro sl ro gn ⟨s0,s3,s5,s6,s7,s8,s9,s10,s11,r28704,rL⟩
      dsimp only at s0 s3 s5 s6 s7 s8 s9 s10 s11 r28704
      have hi': ¬((L.length:Nat):Int)<(L.length:Nat):=by omega
      dsimp only at rL
      refine Ycu ?_
      exact a0w (by omega)
   ·rintro sl ro gn ⟨s0,s3,s5,s6,s7,s8,s9,r28704⟩
    dsimp only at s0 s3 s5 s6 s7 s8 s9 r28704
    have ha': ¬((O1:Nat):Int)<(O1:Nat):=by omega
    generalize itF (fun a=>dhA a v (dhL n (h+1) a)) O1 G=G3 at r28704
    refine Yge ?_
    refine a0f (fun k st=>st.sl 0=i64 (n:Int)∧st.sl 3=i64 (O1:Int)∧st.sl 5=i64 (T:Int)∧st.sl 6= .ref 28704 1 [] 0 N∧st.sl 7=i64 ((h+1:Nat):Int)∧st.sl 8=i64 (v:Int)∧st.sl 12=i64 ((k+1:Nat):Int)∧st.ro 28704 1=some (a0t (itF (fun k=>dhB v (O1+k) (dhM n (h+1) (k+1))) k G3) N)) T ?_ ?_ ?_
    ·simp only[↓za, ↓reduceIte,Nat.reduceEqDiff,zb,reduceCtorEq,s0,s3,s5,s6,s7,s8,r28704]
     exact⟨rfl,rfl⟩
    ·rintro k sl ro gn hk ⟨s0,s3,s5,s6,s7,s8,s12,r28704⟩
     dsimp only at s0 s3 s5 s6 s7 s8 s12 r28704
     have hk':(k:Int)<(T:Nat):=by omega
     have hle2:((k+1:Nat):Int)≤(T:Int):=by omega
     have hw:(O1:Int)+((k+1:Nat):Int)-1=((O1+k:Nat):Int):=by omega
     have hwN:O1+k<N:=by omega
     have hu:itF (fun k=>dhB v (O1+k) (dhM n (h+1) (k+1))) (k+1) G3=dhB v (O1+k) (dhM n (h+1) (k+1)) (itF (fun k=>dhB v (O1+k) (dhM n (h+1) (k+1))) k G3):=rfl
     rw[hu]
     generalize itF (fun k=>dhB v (O1+k) (dhM n (h+1) (k+1))) k G3=G2 at r28704
     have hsum:((h+1:Nat):Int)+((k+1:Nat):Int)=((h+1+(k+1):Nat):Int):=by omega
     have hmx:mxI (((h+1:Nat):Int)-((k+1:Nat):Int)) (((k+1:Nat):Int)-((h+1:Nat):Int))=(((if k+1≤h+1 then h+1-(k+1)else k+1-(h+1)):Nat):Int):=by
      unfold mxI
      by_cases hkh:k+1≤h+1
      ·rw[if_pos hkh,if_neg (by omega)];omega
      ·rw[if_neg hkh,if_pos (by omega)];omega
     have cT:=a9i (n:=n) (h:=h+1+(k+1)) (by omega) (by omega)
     have hdle:(if k+1≤h+1 then h+1-(k+1)else k+1-(h+1))≤n:=by split<;>omega
     have cT2:=a9i (n:=n) (h:=if k+1≤h+1 then h+1-(k+1)else k+1-(h+1)) (by omega) hdle
     have m1:=hTm' (h+1+(k+1)) (by omega)
     have m2:=hTm' _ hdle
     have l1:=a3Q n (h+1+(k+1))
     have l2:=a3Q n (if k+1≤h+1 then h+1-(k+1)else k+1-(h+1))
     unfold dhB dhM
     generalize (if k+1≤h+1 then h+1-(k+1)else k+1-(h+1))=D at*
     generalize trL n (h+1+(k+1))=L1 at*
     generalize trL n D=L2 at*
     have hLm: ∀x,x∈L1++L2→0≤x∧x<(N:Int):=fun x hx=>by
      rcases List.mem_append.1 hx with hx|hx
      ·exact m1 x hx
      ·exact m2 x hx
     generalize hwg:O1+k=w at hw hwN
     have happ:AV.row (List.take L1.length (L1.map i64)++List.take L2.length (L2.map i64))=a0H (L1++L2):=by
      rw[List.take_of_length_le (by simp),List.take_of_length_le (by simp), ←List.map_append]
     have hll:L1.length+L2.length≤4294967296:=by omega
     refine Yfc ?_
     refine a0c _ cT rfl rfl rfl ?_
     refine Ydq ?_
     refine a0c _ cT2 rfl rfl rfl ?_
     have ht1:List.take L1.length (L1.map i64)=L1.map i64:=List.take_of_length_le (by simp)
     have ht2:List.take L2.length (L2.map i64)=L2.map i64:=List.take_of_length_le (by simp)
     have hal:(L2.map i64).all zez=true:=List.all_eq_true.2 fun x hx=>by obtain⟨y, -, rfl⟩:=List.mem_map.1 hx;rfl
     refine Ycx ?_
     rw[←List.map_append, ←List.length_append]
     have hLl:(L1++L2).length≤4:=by rw[List.length_append];omega
     generalize L1++L2=L at hLm hLl
     obtain⟨gL,hgL⟩: ∃g,g=gn 106560+1+1:=⟨_,rfl⟩
     rw[←hgL]
     refine a0f (fun i st=>st.sl 0=i64 (n:Int)∧st.sl 3=i64 (O1:Int)∧st.sl 5=i64 (T:Int)∧st.sl 6= .ref 28704 1 [] 0 N∧st.sl 7=i64 ((h+1:Nat):Int)∧st.sl 8=i64 (v:Int)∧st.sl 12=i64 ((k+1:Nat):Int)∧st.sl 13= .ref 106560 gL [] 0 L.length∧st.sl 14=i64 (i:Int)∧st.ro 28704 1=some (a0t (itF (fun i F=>a3f F v w (atN L i)) i G2) N)∧(st.ro 106560 gL=some (.row (L.map i64)))) L.length ?_ ?_ ?_
     ·simp only[↓za, ↓reduceIte,Nat.reduceEqDiff,zb,reduceCtorEq,s0,s3,s5,s6,s7,s8,s12,r28704]
      subst hgL
      exact⟨rfl,rfl⟩
     ·rintro i sl ro gn hi ⟨s0,s3,s5,s6,s7,s8,s12,s13,s14,r28704,rL⟩
      dsimp only at s0 s3 s5 s6 s7 s8 s12 s13 s14 r28704
      have hi':(i:Int)<(L.length:Nat):=by omega
      dsimp only at rL
      obtain⟨hzI,hzN⟩:=a7e hLm hi
      have hget:(L.map i64)[i]?=some (i64 (atN L i:Nat)):=by rw[b9L hi,hzI]
      have hu:itF (fun i F=>a3f F v w (atN L i)) (i+1) G2=a3f (itF (fun i F=>a3f F v w (atN L i)) i G2) v w (atN L i):=rfl
      rw[hu]
      generalize itF (fun i F=>a3f F v w (atN L i)) i G2=H at r28704
      generalize hzg:atN L i=z at hget hzN
      have hzN':(z:Int)<(N:Int):=by omega
      have hwN':(w:Int)<(N:Int):=by omega
      have hvN':(v:Int)<(N:Int):=by omega
      have hw1:=a1m (v:=wrF (H v w z+1)) r28704 hvN hwN hzN
      refine Yca ?_
      refine a0r (by kernel_rfl) ?_
      refine Yeu ?_
      exact⟨a0w (by omega),rfl,rL⟩
     ·rintro sl ro gn ⟨s0,s3,s5,s6,s7,s8,s12,s13,s14,r28704,rL⟩
      dsimp only at s0 s3 s5 s6 s7 s8 s12 s13 s14 r28704
      have hi': ¬((L.length:Nat):Int)<(L.length:Nat):=by omega
      dsimp only at rL
      refine Yev ?_
      exact a0w (by omega)
    ·rintro sl ro gn ⟨s0,s3,s5,s6,s7,s8,s12,r28704⟩
     dsimp only at s0 s3 s5 s6 s7 s8 s12 r28704
     have hk': ¬((T:Nat):Int)<(T:Nat):=by omega
     refine Yfv ?_
     exact a0w (by omega)
  ·rintro sl ro gn ⟨s0,s3,s5,s6,s7,r28704⟩
   dsimp only at s0 s3 s5 s6 s7 r28704
   have hh': ¬((T:Nat):Int)<(T:Nat):=by omega
   refine Ygn ?_
   exact Yee
 ·have hp': ¬((n % 2:Nat):Int)=0:=by omega
  have hOv:dhO n=2:=by unfold dhO;rw[if_neg hp]
  have hdG:dhG n=[2]:=by unfold dhG;rw[if_neg hp]
  have hGr:GrO [2] 16:=⟨by decide,by decide,by decide,by decide⟩
  have hpr:prO [2]=((dhO n:Nat):Int):=by rw[hOv];rfl
  dsimp only[Tryz.f157,a0b,Option.getD]
  simp(disch:=first|assumption|omega) only[go_sem,s0,ti2,e2,e4,eq_false hp']
  have cG:=b1C (a0n ([2]:List Int)) hGr (m:=(n-1) / 2) (by omega)
  rw[hpr]at cG
  rw[show ((dhO n:Nat):Int).toNat=dhO n from Int.toNat_natCast _]at cG
  unfold dhF
  rw[show dhG n=([2]:List Int)from hdG]
  generalize hF0:grF ([2]:List Int) (dhO n)=F0 at cG
  refine a0z _ cG (.cons (a0q Ur (by rfl) (by decide)) (.cons (a1f _ _ _ (by decide)) .nil)) rfl rfl (a2q _ _) ?_
  refine Yfq ?_
  obtain⟨N,hN⟩: ∃N,dhO n+(n-1) / 2=N:=⟨_,rfl⟩
  have hTm': ∀h,h≤n→ ∀x,x∈trL n h→0≤x∧x<(N:Int):=fun h hh=>by rw[←hN];exact hTm h hh
  rw[hN]
  obtain⟨T,hT⟩: ∃T,(n-1) / 2=T:=⟨_,rfl⟩
  rw[hT]at hN e4 ⊢
  have hTn:2*T+1≤n:=by omega
  generalize hO:dhO n=O1 at hN hOv ⊢
  refine a0f (fun h st=>st.sl 0=i64 (n:Int)∧st.sl 3=i64 (O1:Int)∧st.sl 5=i64 (T:Int)∧st.sl 6= .ref 28704 1 [] 0 N∧st.sl 7=i64 ((h+1:Nat):Int)∧st.ro 28704 1=some (a0t (itF (dhH n) h F0) N)) T ?_ ?_ ?_
  ·refine Yaf ?_
   exact⟨a0w (by omega),rfl,rfl⟩
  ·rintro h sl ro gn hh ⟨s0,s3,s5,s6,s7,r28704⟩
   dsimp only at s0 s3 s5 s6 s7 r28704
   have hh':(h:Int)<(T:Nat):=by omega
   have hle:((h+1:Nat):Int)≤(T:Int):=by omega
   have hv:(O1:Int)+((h+1:Nat):Int)-1=((O1+h:Nat):Int):=by omega
   have hvN:O1+h<N:=by omega
   have hu:itF (dhH n) (h+1) F0=dhH n h (itF (dhH n) h F0):=rfl
   rw[hu]
   generalize itF (dhH n) h F0=G at r28704
   have hH:dhH n h G=itF (fun k=>dhB (O1+h) (O1+k) (dhM n (h+1) (k+1))) T (itF (fun a=>dhA a (O1+h) (dhL n (h+1) a)) O1 G):=by unfold dhH;rw[hO,hT]
   rw[hH]
   generalize hvg:O1+h=v at hv hvN
   refine Yfz ?_
   refine a0f (fun a st=>st.sl 0=i64 (n:Int)∧st.sl 3=i64 (O1:Int)∧st.sl 5=i64 (T:Int)∧st.sl 6= .ref 28704 1 [] 0 N∧st.sl 7=i64 ((h+1:Nat):Int)∧st.sl 8=i64 (v:Int)∧st.sl 9=i64 (a:Int)∧st.ro 28704 1=some (a0t (itF (fun a=>dhA a v (dhL n (h+1) a)) a G) N)) O1 ?_ ?_ ?_
   ·simp only[↓za, ↓reduceIte,Nat.reduceEqDiff,zb,reduceCtorEq,s0,s3,s5,s6,s7,r28704]
    exact⟨rfl,rfl⟩
   ·rintro a sl ro gn ha ⟨s0,s3,s5,s6,s7,s8,s9,r28704⟩
    dsimp only at s0 s3 s5 s6 s7 s8 s9 r28704
    have ha':(a:Int)<(O1:Nat):=by omega
    have haN:a<N:=by omega
    have hu:itF (fun a=>dhA a v (dhL n (h+1) a)) (a+1) G=dhA a v (dhL n (h+1) a) (itF (fun a=>dhA a v (dhL n (h+1) a)) a G):=rfl
    rw[hu]
    generalize itF (fun a=>dhA a v (dhL n (h+1) a)) a G=G2 at r28704
    have cT:=a9i (n:=n) (h:=h+1) (by omega) (by omega)
    have hn2:h+1≤n / 2:=by omega
    have cT2:=a9i (n:=n) (h:=n / 2-(h+1)) (by omega) (by omega)
    have hsub:((n / 2:Nat):Int)-((h+1:Nat):Int)=((n / 2-(h+1):Nat):Int):=by omega
    obtain⟨L,hL⟩: ∃L,L=dhL n (h+1) a:=⟨_,rfl⟩
    rw[←hL]
    have hLm: ∀x,x∈L→0≤x∧x<(N:Int):=by
     rw[hL];unfold dhL
     split
     ·exact hTm' _ (by omega)
     ·exact hTm' _ (by omega)
    have hLl:L.length≤2:=by
     rw[hL];unfold dhL
     split
     ·exact(a3Q _ _).2
     ·exact(a3Q _ _).2
    unfold dhA
    have ha2: ¬2≤a:=by omega
    have ha2': ¬(2:Int)≤(a:Int):=by omega
    have hLe:trL n (h+1)=L:=by rw[hL];unfold dhL;rw[if_neg ha2]
    rw[hLe]at cT
    refine Yda ?_
    refine a0c _ cT rfl rfl rfl ?_
    refine Ydh ?_
    obtain⟨gL,hgL⟩: ∃g,g=gn 61472+1:=⟨_,rfl⟩
    rw[←hgL]
    refine a0f (fun i st=>st.sl 0=i64 (n:Int)∧st.sl 3=i64 (O1:Int)∧st.sl 5=i64 (T:Int)∧st.sl 6= .ref 28704 1 [] 0 N∧st.sl 7=i64 ((h+1:Nat):Int)∧st.sl 8=i64 (v:Int)∧st.sl 9=i64 (a:Int)∧st.sl 10= .ref 61472 gL [] 0 L.length∧st.sl 11=i64 (i:Int)∧st.ro 28704 1=some (a0t (itF (fun i F=>a3f (a3f F a v (atN L i)) v a (atN L i)) i G2) N)∧(st.ro 61472 gL=some (.row (L.map i64)))) L.length ?_ ?_ ?_
    ·refine Ydu ?_
     subst hgL
     exact⟨rfl,rfl⟩
    ·rintro i sl ro gn hi ⟨s0,s3,s5,s6,s7,s8,s9,s10,s11,r28704,rL⟩
     dsimp only at s0 s3 s5 s6 s7 s8 s9 s10 s11 r28704
     have hi':(i:Int)<(L.length:Nat):=by omega
     dsimp only at rL
     obtain⟨hzI,hzN⟩:=a7e hLm hi
     have hget:(L.map i64)[i]?=some (i64 (atN L i:Nat)):=by rw[b9L hi,hzI]
     have hu:itF (fun i F=>a3f (a3f F a v (atN L i)) v a (atN L i)) (i+1) G2=a3f (a3f (itF (fun i F=>a3f (a3f F a v (atN L i)) v a (atN L i)) i G2) a v (atN L i)) v a (atN L i):=rfl
     rw[hu]
     generalize itF (fun i F=>a3f (a3f F a v (atN L i)) v a (atN L i)) i G2=H at r28704
     generalize hzg:atN L i=z at hget hzN
     have hzN':(z:Int)<(N:Int):=by omega
     have haN':(a:Int)<(N:Int):=by omega
     have hvN':(v:Int)<(N:Int):=by omega
     have hw1:=a1m (v:=wrF (H a v z+1)) r28704 haN hvN hzN
     have hp1:(upr ro 28704 1 (a0t (a0Z H a v z (wrF (H a v z+1))) N)) 28704 1=some (a0t (a0Z H a v z (wrF (H a v z+1))) N):=by simp only[↓za, ↓reduceIte,zb]
     have hw2:=a1m (v:=wrF (a0Z H a v z (wrF (H a v z+1)) v a z+1)) hp1 hvN haN hzN
     have hL2:(upr ro 28704 1 (a0t (a0Z H a v z (wrF (H a v z+1))) N)) 61472 gL=some (.row (L.map i64)):=by simp only[↓za, ↓reduceIte,Nat.reduceEqDiff,zb];exact rL
     refine Ybf ?_
     refine a0r (by kernel_rfl) ?_
     refine Ybg ?_
     refine a0r (by kernel_rfl) ?_
     refine Yct ?_
     exact⟨a0w (by omega),rfl,rL⟩
    ·rintro sl ro gn ⟨s0,s3,s5,s6,s7,s8,s9,s10,s11,r28704,rL⟩
     dsimp only at s0 s3 s5 s6 s7 s8 s9 s10 s11 r28704
     have hi': ¬((L.length:Nat):Int)<(L.length:Nat):=by omega
     dsimp only at rL
     refine Ycu ?_
     exact a0w (by omega)
   ·rintro sl ro gn ⟨s0,s3,s5,s6,s7,s8,s9,r28704⟩
    dsimp only at s0 s3 s5 s6 s7 s8 s9 r28704
    have ha': ¬((O1:Nat):Int)<(O1:Nat):=by omega
    generalize itF (fun a=>dhA a v (dhL n (h+1) a)) O1 G=G3 at r28704
    refine Yge ?_
    refine a0f (fun k st=>st.sl 0=i64 (n:Int)∧st.sl 3=i64 (O1:Int)∧st.sl 5=i64 (T:Int)∧st.sl 6= .ref 28704 1 [] 0 N∧st.sl 7=i64 ((h+1:Nat):Int)∧st.sl 8=i64 (v:Int)∧st.sl 12=i64 ((k+1:Nat):Int)∧st.ro 28704 1=some (a0t (itF (fun k=>dhB v (O1+k) (dhM n (h+1) (k+1))) k G3) N)) T ?_ ?_ ?_
    ·simp only[↓za, ↓reduceIte,Nat.reduceEqDiff,zb,reduceCtorEq,s0,s3,s5,s6,s7,s8,r28704]
     exact⟨rfl,rfl⟩
    ·rintro k sl ro gn hk ⟨s0,s3,s5,s6,s7,s8,s12,r28704⟩
     dsimp only at s0 s3 s5 s6 s7 s8 s12 r28704
     have hk':(k:Int)<(T:Nat):=by omega
     have hle2:((k+1:Nat):Int)≤(T:Int):=by omega
     have hw:(O1:Int)+((k+1:Nat):Int)-1=((O1+k:Nat):Int):=by omega
     have hwN:O1+k<N:=by omega
     have hu:itF (fun k=>dhB v (O1+k) (dhM n (h+1) (k+1))) (k+1) G3=dhB v (O1+k) (dhM n (h+1) (k+1)) (itF (fun k=>dhB v (O1+k) (dhM n (h+1) (k+1))) k G3):=rfl
     rw[hu]
     generalize itF (fun k=>dhB v (O1+k) (dhM n (h+1) (k+1))) k G3=G2 at r28704
     have hsum:((h+1:Nat):Int)+((k+1:Nat):Int)=((h+1+(k+1):Nat):Int):=by omega
     have hmx:mxI (((h+1:Nat):Int)-((k+1:Nat):Int)) (((k+1:Nat):Int)-((h+1:Nat):Int))=(((if k+1≤h+1 then h+1-(k+1)else k+1-(h+1)):Nat):Int):=by
      unfold mxI
      by_cases hkh:k+1≤h+1
      ·rw[if_pos hkh,if_neg (by omega)];omega
      ·rw[if_neg hkh,if_pos (by omega)];omega
     have cT:=a9i (n:=n) (h:=h+1+(k+1)) (by omega) (by omega)
     have hdle:(if k+1≤h+1 then h+1-(k+1)else k+1-(h+1))≤n:=by split<;>omega
     have cT2:=a9i (n:=n) (h:=if k+1≤h+1 then h+1-(k+1)else k+1-(h+1)) (by omega) hdle
     have m1:=hTm' (h+1+(k+1)) (by omega)
     have m2:=hTm' _ hdle
     have l1:=a3Q n (h+1+(k+1))
     have l2:=a3Q n (if k+1≤h+1 then h+1-(k+1)else k+1-(h+1))
     unfold dhB dhM
     generalize (if k+1≤h+1 then h+1-(k+1)else k+1-(h+1))=D at*
     generalize trL n (h+1+(k+1))=L1 at*
     generalize trL n D=L2 at*
     have hLm: ∀x,x∈L1++L2→0≤x∧x<(N:Int):=fun x hx=>by
      rcases List.mem_append.1 hx with hx|hx
      ·exact m1 x hx
      ·exact m2 x hx
     generalize hwg:O1+k=w at hw hwN
     have happ:AV.row (List.take L1.length (L1.map i64)++List.take L2.length (L2.map i64))=a0H (L1++L2):=by
      rw[List.take_of_length_le (by simp),List.take_of_length_le (by simp), ←List.map_append]
     have hll:L1.length+L2.length≤4294967296:=by omega
     refine Yfc ?_
     refine a0c _ cT rfl rfl rfl ?_
     refine Ydq ?_
     refine a0c _ cT2 rfl rfl rfl ?_
     have ht1:List.take L1.length (L1.map i64)=L1.map i64:=List.take_of_length_le (by simp)
     have ht2:List.take L2.length (L2.map i64)=L2.map i64:=List.take_of_length_le (by simp)
     have hal:(L2.map i64).all zez=true:=List.all_eq_true.2 fun x hx=>by obtain⟨y, -, rfl⟩:=List.mem_map.1 hx;rfl
     refine Ycx ?_
     rw[←List.map_append, ←List.length_append]
     have hLl:(L1++L2).length≤4:=by rw[List.length_append];omega
     generalize L1++L2=L at hLm hLl
     obtain⟨gL,hgL⟩: ∃g,g=gn 106560+1+1:=⟨_,rfl⟩
     rw[←hgL]
     refine a0f (fun i st=>st.sl 0=i64 (n:Int)∧st.sl 3=i64 (O1:Int)∧st.sl 5=i64 (T:Int)∧st.sl 6= .ref 28704 1 [] 0 N∧st.sl 7=i64 ((h+1:Nat):Int)∧st.sl 8=i64 (v:Int)∧st.sl 12=i64 ((k+1:Nat):Int)∧st.sl 13= .ref 106560 gL [] 0 L.length∧st.sl 14=i64 (i:Int)∧st.ro 28704 1=some (a0t (itF (fun i F=>a3f F v w (atN L i)) i G2) N)∧(st.ro 106560 gL=some (.row (L.map i64)))) L.length ?_ ?_ ?_
     ·simp only[↓za, ↓reduceIte,Nat.reduceEqDiff,zb,reduceCtorEq,s0,s3,s5,s6,s7,s8,s12,r28704]
      subst hgL
      exact⟨rfl,rfl⟩
     ·rintro i sl ro gn hi ⟨s0,s3,s5,s6,s7,s8,s12,s13,s14,r28704,rL⟩
      dsimp only at s0 s3 s5 s6 s7 s8 s12 s13 s14 r28704
      have hi':(i:Int)<(L.length:Nat):=by omega
      dsimp only at rL
      obtain⟨hzI,hzN⟩:=a7e hLm hi
      have hget:(L.map i64)[i]?=some (i64 (atN L i:Nat)):=by rw[b9L hi,hzI]
      have hu:itF (fun i F=>a3f F v w (atN L i)) (i+1) G2=a3f (itF (fun i F=>a3f F v w (atN L i)) i G2) v w (atN L i):=rfl
      rw[hu]
      generalize itF (fun i F=>a3f F v w (atN L i)) i G2=H at r28704
      generalize hzg:atN L i=z at hget hzN
      have hzN':(z:Int)<(N:Int):=by omega
      have hwN':(w:Int)<(N:Int):=by omega
      have hvN':(v:Int)<(N:Int):=by omega
      have hw1:=a1m (v:=wrF (H v w z+1)) r28704 hvN hwN hzN
      refine Yca ?_
      refine a0r (by kernel_rfl) ?_
      refine Yeu ?_
      exact⟨a0w (by omega),rfl,rL⟩
     ·rintro sl ro gn ⟨s0,s3,s5,s6,s7,s8,s12,s13,s14,r28704,rL⟩
      dsimp only at s0 s3 s5 s6 s7 s8 s12 s13 s14 r28704
      have hi': ¬((L.length:Nat):Int)<(L.length:Nat):=by omega
      dsimp only at rL
      refine Yev ?_
      exact a0w (by omega)
    ·rintro sl ro gn ⟨s0,s3,s5,s6,s7,s8,s12,r28704⟩
     dsimp only at s0 s3 s5 s6 s7 s8 s12 r28704
     have hk': ¬((T:Nat):Int)<(T:Nat):=by omega
     refine Yfv ?_
     exact a0w (by omega)
  ·rintro sl ro gn ⟨s0,s3,s5,s6,s7,r28704⟩
   dsimp only at s0 s3 s5 s6 s7 r28704
   have hh': ¬((T:Nat):Int)<(T:Nat):=by omega
   refine Ygn ?_
   exact Yee
theorem GrO.snoc{O:List Int}{m x:Int}(h:GrO O m)(hl:O.length<4)(hx:1≤x)(hs:prO O*x≤m):GrO (O++ [x]) m:=by
 refine⟨by rw[List.length_append];simp,by rw[List.length_append];simp;omega,fun y hy=>?_,by rw[b0k];exact hs⟩
 rcases List.mem_append.1 hy with hy|hy
 ·exact h.rg y hy
 ·rw[List.mem_singleton.1 hy];exact hx
theorem b3o(O:List Int)(x:Int):AV.row (List.take O.length (O.map i64)++ [i64 x])=a0H (O++ [x]):=by
 rw[List.take_of_length_le (by simp)];simp[a0H]
abbrev CxS(g x y:Nat):Prop:=x=8288∧y=g
section
variable{a:AV}{bs:List Int}{g:Nat}{ro:Ro}{gn:Nat→Nat}{m:Int}{t:Nat}
def PkF(a:AV)(bs:List Int)(g:Nat)(ro:Ro)(gn:Nat→Nat)(xs:List Int)(t:Nat)(r:AV)(ro':Ro)(gn':Nat→Nat):Prop:= ∃k,k<xs.length∧r=i64 (atI xs k)∧gn=gn'∧ ∃w,ro'=upr ro 8288 g w∧SrF a bs t (some w)
theorem c2o{s2 g2:Nat}{xs:List Int}(hc:Cod a bs)(hs:SrF a bs (t+1) (ro 8288 g))(h2:ro s2 g2=some (a0H xs))(hne:s2≠8288)(h0:0<xs.length)(hx:xs.length<1000):InS Tryz.prog 106 [.ptr 8288 g [] 0,.ref s2 g2 [] 0 xs.length] ro gn (PkF a bs g ro gn xs t):=by
 refine a1U (fn:=Tryz.f106) (code:=a0b Tryz.f106) Tryz.func106 rfl (by kernel_rfl) ?_
 intro sl hs'
 have s0:sl 0= .ptr 8288 g [] 0:=hs' 0
 have s1:sl 1= .ref s2 g2 [] 0 xs.length:=hs' 1
 dsimp only[Tryz.f106,a0b,Option.getD]
 simp only[go_sem,s0,s1,h2]
 refine a0p rfl (a2L hc hs (n:=(xs.length:Int)) (by omega) (by omega)) ?_
 rintro _ _ _ ⟨v,rfl,v0,v1,rfl,w,rfl,hw, -⟩
 obtain⟨k,rfl⟩:=Int.eq_ofNat_of_zero_le v0
 have hk:k<xs.length:=by omega
 have h2':upr ro 8288 g w s2 g2=some (a0H xs):=by rw[a2u hne];exact h2
 have hkn:((k:Int))<xs.length:=by omega
 simp(disch:=first|assumption|omega) only[go_sem,h2',b9L hk]
 refine⟨.inr rfl,_,rfl,k,hk,?_,rfl,w,rfl,hw⟩
 exact Yfs
def WOr:List Nat:=[8288,8256,24608]
def ROr(m:Int)(gn:Nat→Nat)(r:AV)(ro':Ro)(gn':Nat→Nat):Prop:= ∃(O:List Int) (u:Nat),r= .ref 8256 u [] 0 O.length∧gn 8256<u∧u≤gn' 8256∧ro' 8256 u=some (a0H O)∧GrO O m
set_option maxHeartbeats 2000000 in
theorem a8h(hc:Cod a bs)(hs:SrF a bs (t+8) (ro 8288 g))(hm:1≤m∧m≤64):InS Tryz.prog 155 [.ptr 8288 g [] 0,i64 m] ro gn
  (fun r ro' gn'=>Frx WOr (CxS g) ro gn ro' gn'∧(∃t',t≤t'∧t'≤t+8∧SrF a bs t' (ro' 8288 g))∧ROr m gn r ro' gn'):=by
 have hs1:=hs
 refine a1U (fn:=Tryz.f155) (code:=a0b Tryz.f155) Tryz.func155 rfl (by kernel_rfl) ?_
 intro sl hs
 have s0:sl 0= .ptr 8288 g [] 0:=hs 0
 have s1:sl 1=i64 m:=hs 1
 dsimp only[Tryz.f155,a0b,Option.getD]
 refine Ybn ?_
 refine a0p rfl (a2L (t:=t+7) hc hs1 (n:=m) hm.1 (by omega)) ?_
 rintro _ _ _ ⟨v,rfl,v0,v1,rfl,w,rfl,hw, -⟩
 simp(disch:=first|assumption|omega) only[go_sem,b3j]
 refine b7Y (fun n st=> ∃O:List Int,O.length+n=4∧st.sl 0= .ptr 8288 g [] 0∧st.sl 1=i64 m∧st.sl 5= .ref 8256 (st.gn 8256) [] 0 O.length∧st.sl 6=i64 (prO O)∧st.ro 8256 (st.gn 8256)=some (a0H O)∧GrO O m∧Frx WOr (CxS g) ro gn st.ro st.gn∧SrF a bs (t+9-2*O.length) (st.ro 8288 g)∧gn 8256<st.gn 8256) 3 ?_ ?_
 ·refine⟨[1+v],rfl,?_⟩
  simp only[↓za, ↓reduceIte,Nat.reduceEqDiff,zb,reduceCtorEq,s0,s1,List.length_cons,List.length_nil]
  refine⟨?_,rfl,⟨by simp,by simp,fun x hx=>?_,?_⟩,KFt,hw,by omega⟩
  ·show i64 (1+v)=i64 ((1+v)*1)
   rw[Int.mul_one]
  ·rw[List.mem_singleton.1 hx];omega
  ·show (1+v)*1≤m
   omega
 ·rintro n sl ro1 gn1 ⟨O,hl,s0,s1,s5,s6,r1,hO,hF,hS,hu⟩
  dsimp only at s0 s1 s5 s6 r1 hF hS hu
  have hpos:=a2D hO.rg
  have hp:=hO.sz
  have hO4:=hO.l4
  have hO1:=hO.l1
  obtain⟨t1,ht1⟩: ∃t1,t+9-2*O.length=t1+1:=⟨t+8-2*O.length,by omega⟩
  rw[ht1]at hS
  simp only[go_sem,s0]
  refine a0p rfl (a2L hc hS (n:=2) (by omega) (by omega)) ?_
  rintro _ _ _ ⟨x,rfl,x0,x1,rfl,w1,rfl,hw1, -⟩
  have hF1:Frx WOr (CxS g) ro gn (upr ro1 8288 g w1) gn1:=KFt
  have fin:Frx WOr (CxS g) ro gn (upr ro1 8288 g w1) gn1∧(∃t',t≤t'∧t'≤t+8∧SrF a bs t' ((upr ro1 8288 g w1) 8288 g))∧ROr m gn (.ref 8256 (gn1 8256) [] 0 O.length) (upr ro1 8288 g w1) gn1:=by
   refine⟨hF1,⟨t1,by omega,by omega,by rw[a2Z];exact hw1⟩,O,_,rfl,hu,Nat.le_refl _,by rw[zdb,if_neg (by omega)];exact r1,hO⟩
  by_cases hx0:x=0
  ·by_cases h4:(O.length:Int)<4
   ·by_cases h2:2*prO O≤m
    ·have hdv:(2:Int)≤m / prO O:=(Int.le_ediv_iff_mul_le (by omega)).2 h2
     have hdm:m / prO O≤m:=Int.ediv_le_self _ (by omega)
     have etd:m.tdiv (prO O)=m / prO O:=Int.tdiv_eq_ediv_of_nonneg (by omega)
     have hmul:prO O*(m / prO O)≤m:=Int.mul_ediv_self_le (by omega)
     have hnz: ¬prO O=0:=by omega
     obtain⟨t2,rfl⟩: ∃t2,t1=t2+1:=⟨t1-1,by omega⟩
     simp(disch:=first|assumption|omega) only[go_sem,s0,s1,s5,s6,r1,eq_true hx0,eq_true h4,etd]
     refine a0p rfl (a2L hc (t:=t2) (by simp only[a2Z];exact hw1) (n:=m / prO O-1) (by omega) (by omega)) ?_
     rintro _ _ _ ⟨y,rfl,y0,y1,rfl,w2,rfl,hw2, -⟩
     have b1:0≤prO O*(2+y):=Int.mul_nonneg (by omega) (by omega)
     have b2:prO O*(2+y)≤prO O*(m / prO O):=Int.mul_le_mul_of_nonneg_left (by omega) (by omega)
     have hl5:O.length+1≤4294967296:=by omega
     simp(disch:=first|assumption|omega) only[go_sem,s0,s1,s5,s6,r1,hl5]
     refine⟨n-1,by omega,O++ [2+y],by simp;omega,by simp,by rw[b0k],by rw[←b3o],hO.snoc (by omega) (by omega) (by omega),?_⟩
     refine⟨KFt,?_⟩
     rw[List.length_append,show t+9-2*(O.length+ [2+y].length)=t2 by simp;omega]
     exact hw2
    ·simp(disch:=first|assumption|omega) only[go_sem,s1,s5,s6,r1,eq_true hx0,eq_true h4]
     exact a0Y _ Ur fin
   ·simp only[go_sem,s5,r1,eq_true hx0,eq_false h4]
    exact a0Y _ Ur fin
  ·simp only[go_sem,s5,eq_false hx0]
   exact a0Y _ Ur fin
end
def WDr:List Nat:=[8288,8256,24608,16432,28752,49200,69696,82032,82064,90160,106608,110656]
def WDs:List Nat:=[16432,28752,49200,69696,82064,90160,106608,110656]
def DwR(gn:Nat→Nat)(mx:Nat)(r:AV)(ro':Ro)(gn':Nat→Nat):Prop:= ∃(s u n:Nat) (F:C3),s∈WDs∧r= .ref s u [] 0 n∧gn s<u∧u≤gn' s∧ro' s u=some (a0t F n)∧1≤n∧n≤mx
theorem c2N{s:Nat}(h:s∈WDs):s≠8288:=by
 intro e
 subst e
 exact absurd h (by decide)
section
variable{a:AV}{bs:List Int}{g:Nat}
def DrS(a:AV)(bs:List Int)(g L M t:Nat):Prop:= ∀(ro:Ro) (gn:Nat→Nat) (mx:Nat),1≤mx→mx<M→mx≤16→SrF a bs t (ro 8288 g)→
 InS Tryz.prog 139 [.ptr 8288 g [] 0,i64 (mx:Int)] ro gn (fun r ro' gn'=>Frx WDr (CxS g) ro gn ro' gn'∧(∃t',min t L-12≤t'∧t'≤t∧SrF a bs t' (ro' 8288 g))∧DwR gn mx r ro' gn')
set_option maxHeartbeats 16000000 in
theorem a5T(hc:Cod a bs){L M t:Nat}(hL:12≤L)(hL2:L+12≤70)(ihA:2<M→ ∀t,12≤t→DrS a bs g (L+12) M t)(iht: ∀t',t'<t→12≤t'→DrS a bs g L (2*M) t')(h12:12≤t):DrS a bs g L (2*M) t:=by
 intro ro0 gn0 mx m1 mM m16 hs
 obtain⟨t0,rfl⟩: ∃t0,t=t0+1:=⟨t-1,by omega⟩
 have hs1:=hs
 have e2m:(2:Int)*(mx:Int)=((2*mx:Nat):Int):=by omega
 refine a1U (fn:=Tryz.f139) (code:=a0b Tryz.f139) Tryz.func139 rfl (by kernel_rfl) ?_
 intro sl hs
 have s0:sl 0= .ptr 8288 g [] 0:=hs 0
 have s1:sl 1=i64 (mx:Int):=hs 1
 dsimp only[Tryz.f139,a0b,Option.getD]
 refine Ybn ?_
 refine a0p rfl (a2L (t:=t0) hc hs1 (n:=8) (by omega) (by omega)) ?_
 rintro _ _ _ ⟨v,rfl,v0,v1,rfl,w,rfl,hw,h6⟩
 have hF0:Frx WDr (CxS g) ro0 gn0 (upr ro0 8288 g w) gn0:=KFt
 have hw':SrF a bs t0 ((upr ro0 8288 g w) 8288 g):=by simp only[↓za, ↓reduceIte,zb];exact hw
 rcases(by omega:v=0∨v=1∨v=2∨v=3∨v=4∨v=5∨v=6∨v=7)with rfl|rfl|rfl|rfl|rfl|rfl|rfl|rfl
 ·-- a group
  obtain⟨t8,rfl⟩: ∃t8,t0=t8+8:=⟨t0-8,by omega⟩
  simp only[go_sem,s0,s1,ti2]
  refine a0p rfl (a8h (t:=t8) hc hw' (m:=(mx:Int)) (by omega)) ?_
  rintro _ ro1 gn1 ⟨fr1,⟨t2,q1,q2,hS⟩,O,u,rfl,l1,l2,rO,hO⟩
  have hF1:Frx WDr (CxS g) ro0 gn0 ro1 gn1:=hF0.trans (fr1.monoB (by decide)) (fun x y h=> .inr h)
  have hp:=a2D hO.rg
  have hsz:=hO.sz
  have cG:a0d Tryz.prog 154 [a3q O,i64 0] (a0t (grF O (prO O).toNat) ((prO O).toNat+0)):=b1C (a0n O) (m:=0) ⟨hO.l1,hO.l4,hO.rg,by omega⟩ (by decide)
  rw[Nat.add_zero]at cG
  obtain⟨n,hn⟩: ∃n,(prO O).toNat=n:=⟨_,rfl⟩
  rw[hn]at cG
  refine Ybi ?_
  refine a0z _ cG (.cons (a0q rO rfl (by decide)) (.cons (a1f _ _ _ (by decide)) .nil)) rfl rfl (a2q _ _) ?_
  refine Yay ?_
  exact a0Y (.ref 16432 (gn1 16432+1) [] 0 n) Ur ⟨KFt,⟨t2,by omega,by omega,Ue hS⟩,16432,gn1 16432+1,n,grF O n,by decide,rfl,by have:=hF1.up 16432;omega,Ur,Ur,by omega,by omega⟩
 ·-- a dihedral group
  obtain⟨t1,rfl⟩: ∃t1,t0=t1+1:=⟨t0-1,by omega⟩
  have ed:Int.tdiv (mx:Int) 2=((mx / 2:Nat):Int):=rfl
  by_cases hm:2≤mx
  ·have hm':(2:Int)≤(mx:Int):=by omega
   simp(disch:=first|assumption|omega) only[go_sem,s0,s1,ti2,ed]
   refine a0p rfl (a2L (t:=t1) hc hw' (n:=((mx / 2:Nat):Int)) (by omega) (by omega)) ?_
   rintro _ _ _ ⟨z,rfl,z0,z1,rfl,wz,rfl,hwz, -⟩
   obtain⟨k,rfl⟩:=Int.eq_ofNat_of_zero_le z0
   have ek:(1:Int)+(k:Int)=((1+k:Nat):Int):=by omega
   simp(disch:=first|assumption|omega) only[go_sem,ti2,ek]
   refine a0c _ (c4j (n:=1+k) (by omega) (by omega)) rfl rfl rfl ?_
   refine Yay ?_
   exact a0Y (.ref 28752 (gn0 28752+1) [] 0 (2*(1+k))) Ur ⟨KFt,⟨t1,by omega,by omega,Ue hwz⟩,28752,gn0 28752+1,2*(1+k),dgF (1+k),by decide,rfl,by omega,Ur,Ur,by omega,by omega⟩
  ·have hm': ¬(2:Int)≤(mx:Int):=by omega
   refine Yck ?_
   refine a0p rfl (a2L (t:=t1) hc hw' (n:=((2*mx:Nat):Int)) (by omega) (by omega)) ?_
   rintro _ _ _ ⟨z,rfl,z0,z1,rfl,wz,rfl,hwz, -⟩
   obtain⟨lv,rfl⟩:=Int.eq_ofNat_of_zero_le z0
   refine Ybi ?_
   refine a0c _ (b0N (lv:=lv) (sp:=2) (.inr rfl) (by omega)) rfl rfl rfl ?_
   refine Yay ?_
   exact a0Y (.ref 110656 (gn0 110656+1) [] 0 (lv / 2+1)) Ur ⟨KFt,⟨t1,by omega,by omega,Ue hwz⟩,110656,gn0 110656+1,lv / 2+1,spF lv 2 (lv / 2+1),by decide,rfl,by have:=hF0.up 110656;omega,Ur,Ur,by omega,by omega⟩
 ·-- dihedral rings
  simp(disch:=first|assumption|omega) only[go_sem,ti2]
  refine a0f (fun k st=>st.sl 0= .ptr 8288 g [] 0∧st.sl 1=i64 (mx:Int)∧st.sl 5=i64 (k:Int)∧(Frx WDr (CxS g) ro0 gn0 st.ro st.gn)∧(SrF a bs (t0-k) (st.ro 8288 g))) 8 ?_ ?_ ?_
  ·refine Yac ?_
   exact⟨rfl,hF0,hw⟩
  ·rintro k sl ro gn hk ⟨s0,s1,s5,fr,sr⟩
   dsimp only at s0 s1 s5
   have hk':(k:Int)<(8:Nat):=by omega
   dsimp only at fr sr
   obtain⟨tk,etk⟩: ∃tk,t0-k=tk+1:=⟨t0-k-1,by omega⟩
   rw[etk]at sr
   simp(disch:=first|assumption|omega) only[go_sem,s0,s5,ti3]
   refine a0p rfl (a2L (t:=tk) hc sr (n:=9) (by omega) (by omega)) ?_
   rintro _ _ _ ⟨z,rfl,z0,z1,rfl,wz,rfl,hwz, -⟩
   obtain⟨q,rfl⟩:=Int.eq_ofNat_of_zero_le z0
   have ek:(1:Int)+(q:Int)=((1+q:Nat):Int):=by omega
   have cD:=b4r (n:=1+q) (by omega) (by omega)
   have hD1:1≤dhO (1+q)+(1+q-1) / 2∧dhO (1+q)+(1+q-1) / 2≤8:=by unfold dhO;split<;>omega
   generalize dhO (1+q)+(1+q-1) / 2=D at cD hD1
   simp(disch:=first|assumption|omega) only[go_sem,ti2,ek]
   refine a0c _ cD rfl rfl rfl ?_
   by_cases hle:D≤mx
   ·have hle':(D:Int)≤(mx:Int):=by omega
    simp(disch:=first|assumption|omega) only[go_sem,s1,a0i,zfe,ti2]
    exact a0Y (.ref 49200 (gn 49200+1) [] 0 D) Ur ⟨KFt,⟨tk,by omega,by omega,Ue hwz⟩,49200,gn 49200+1,D,dhF (1+q),by decide,rfl,by have:=fr.up 49200;omega,Ur,Ur,by omega,by omega⟩
   ·have hle': ¬(D:Int)≤(mx:Int):=by omega
    simp(disch:=first|assumption|omega) only[go_sem,s0,s1,s5,a0i,zfe,ti2,ti3]
    exact⟨a0w (by omega),KFt,by rw[show t0-(k+1)=tk by omega];exact hwz⟩
  ·rintro sl ro gn ⟨s0,s1,s5,fr,sr⟩
   dsimp only at s0 s1 s5
   have hk': ¬((8:Nat):Int)<(8:Nat):=by omega
   dsimp only at fr sr
   obtain⟨tk,etk⟩: ∃tk,t0-8=tk+1:=⟨t0-8-1,by omega⟩
   rw[etk]at sr
   simp(disch:=first|assumption|omega) only[go_sem,s0,s1,s5,ti2,ti3,e2m]
   refine a0p rfl (a2L (t:=tk) hc sr (n:=((2*mx:Nat):Int)) (by omega) (by omega)) ?_
   rintro _ _ _ ⟨z,rfl,z0,z1,rfl,wz,rfl,hwz, -⟩
   obtain⟨lv,rfl⟩:=Int.eq_ofNat_of_zero_le z0
   simp only[go_sem]
   refine a0c _ (b0N (lv:=lv) (sp:=2) (.inr rfl) (by omega)) rfl rfl rfl ?_
   simp only[go_sem,a0i,zfe]
   exact a0Y (.ref 110656 (gn 110656+1) [] 0 (lv / 2+1)) Ur ⟨KFt,⟨tk,by omega,by omega,Ue hwz⟩,110656,gn 110656+1,lv / 2+1,spF lv 2 (lv / 2+1),by decide,rfl,by have:=fr.up 110656;omega,Ur,Ur,by omega,by omega⟩
 ·-- a near-group
  obtain⟨t9,rfl⟩: ∃t9,t0=t9+1+8:=⟨t0-9,by omega⟩
  by_cases hm:2≤mx
  ·have hm':(2:Int)≤(mx:Int):=by omega
   simp(disch:=first|assumption|omega) only[go_sem,s0,s1,ti2]
   refine a0p rfl (a8h (t:=t9+1) hc hw' (m:=(mx:Int)-1) (by omega)) ?_
   rintro _ ro1 gn1 ⟨fr1,⟨t2,q1,q2,hS⟩,O,u,rfl,l1,l2,rO,hO⟩
   have hF1:Frx WDr (CxS g) ro0 gn0 ro1 gn1:=hF0.trans (fr1.monoB (by decide)) (fun x y h=> .inr h)
   have hp:=a2D hO.rg
   have hsz:=hO.sz
   have cG:=c1R (a0n O) ⟨hO.l1,hO.l4,hO.rg,by omega⟩ 0
   obtain⟨n,hn⟩: ∃n,(prO O).toNat=n:=⟨_,rfl⟩
   rw[hn]at cG
   refine Ybi ?_
   refine a0z _ cG (.cons (a0q rO rfl (by decide)) (.cons (a1f _ _ _ (by decide)) .nil)) rfl rfl (a2q _ _) ?_
   refine Yay ?_
   exact a0Y (.ref 69696 (gn1 69696+1) [] 0 (n+1)) Ur ⟨KFt,⟨t2,by omega,by omega,Ue hS⟩,69696,gn1 69696+1,n+1,nrF O n 0,by decide,rfl,by have:=hF1.up 69696;omega,Ur,Ur,by omega,by omega⟩
  ·have hm': ¬(2:Int)≤(mx:Int):=by omega
   refine Yck ?_
   refine a0p rfl (a2L (t:=(t9+8)) hc hw' (n:=((2*mx:Nat):Int)) (by omega) (by omega)) ?_
   rintro _ _ _ ⟨z,rfl,z0,z1,rfl,wz,rfl,hwz, -⟩
   obtain⟨lv,rfl⟩:=Int.eq_ofNat_of_zero_le z0
   refine Ybi ?_
   refine a0c _ (b0N (lv:=lv) (sp:=2) (.inr rfl) (by omega)) rfl rfl rfl ?_
   refine Yay ?_
   exact a0Y (.ref 110656 (gn0 110656+1) [] 0 (lv / 2+1)) Ur ⟨KFt,⟨(t9+8),by omega,by omega,Ue hwz⟩,110656,gn0 110656+1,lv / 2+1,spF lv 2 (lv / 2+1),by decide,rfl,by have:=hF0.up 110656;omega,Ur,Ur,by omega,by omega⟩
 ·-- a near-group, with a number of its own
  obtain⟨t9,rfl⟩: ∃t9,t0=t9+2+8:=⟨t0-10,by omega⟩
  by_cases hm:2≤mx
  ·have hm':(2:Int)≤(mx:Int):=by omega
   simp(disch:=first|assumption|omega) only[go_sem,s0,s1,ti2]
   refine a0p rfl (a8h (t:=t9+2) hc hw' (m:=(mx:Int)-1) (by omega)) ?_
   rintro _ ro1 gn1 ⟨fr1,⟨t2,q1,q2,hS⟩,O,u,rfl,l1,l2,rO,hO⟩
   have hF1:Frx WDr (CxS g) ro0 gn0 ro1 gn1:=hF0.trans (fr1.monoB (by decide)) (fun x y h=> .inr h)
   obtain⟨t3,rfl⟩: ∃t3,t2=t3+1+1:=⟨t2-2,by omega⟩
   have hp:=a2D hO.rg
   have hsz:=hO.sz
   have cG:=fun k=>c1R (a0n O) ⟨hO.l1,hO.l4,hO.rg,by omega⟩ k
   obtain⟨n,hn⟩: ∃n,(prO O).toNat=n:=⟨_,rfl⟩
   rw[hn]at cG
   refine Ybi ?_
   refine a0p rfl (a2L (t:=t3+1) hc hS (n:=20) (by omega) (by omega)) ?_
   rintro _ _ _ ⟨z,rfl,z0,z1,rfl,wz,rfl,hwz, -⟩
   simp(disch:=first|assumption|omega) only[go_sem,ti2]
   refine a0p rfl (c2o (t:=t3) (xs:=[1,2,3,4,z]) hc (Ue hwz) Ur (by decide) (by simp) (by simp)) ?_
   rintro _ _ _ ⟨k,hk,rfl,rfl,wp,rfl,hwp⟩
   generalize atI [1,2,3,4,z] k=kv
   refine Ybi ?_
   refine a0z _ (cG kv) (.cons (a0q (Ue rO) rfl (by decide)) (.cons (a1f _ _ _ (by decide)) .nil)) rfl rfl (a2q _ _) ?_
   simp(disch:=first|assumption|omega) only[go_sem,a0i,zfe]
   exact a0Y (.ref 82064 (gn1 82064+1) [] 0 (n+1)) Ur ⟨KFt,⟨t3,by omega,by omega,Ue hwp⟩,82064,gn1 82064+1,n+1,nrF O n kv,by decide,rfl,by have:=hF1.up 82064;omega,Ur,Ur,by omega,by omega⟩
  ·have hm': ¬(2:Int)≤(mx:Int):=by omega
   refine Yck ?_
   refine a0p rfl (a2L (t:=(t9+1+8)) hc hw' (n:=((2*mx:Nat):Int)) (by omega) (by omega)) ?_
   rintro _ _ _ ⟨z,rfl,z0,z1,rfl,wz,rfl,hwz, -⟩
   obtain⟨lv,rfl⟩:=Int.eq_ofNat_of_zero_le z0
   refine Ybi ?_
   refine a0c _ (b0N (lv:=lv) (sp:=2) (.inr rfl) (by omega)) rfl rfl rfl ?_
   refine Yay ?_
   exact a0Y (.ref 110656 (gn0 110656+1) [] 0 (lv / 2+1)) Ur ⟨KFt,⟨(t9+1+8),by omega,by omega,Ue hwz⟩,110656,gn0 110656+1,lv / 2+1,spF lv 2 (lv / 2+1),by decide,rfl,by have:=hF0.up 110656;omega,Ur,Ur,by omega,by omega⟩
 ·-- spins
  obtain⟨t1,rfl⟩: ∃t1,t0=t1+1:=⟨t0-1,by omega⟩
  simp(disch:=first|assumption|omega) only[go_sem,s0,s1,ti2]
  refine a0p rfl (a2L (t:=t1) hc hw' (n:=(mx:Int)) (by omega) (by omega)) ?_
  rintro _ _ _ ⟨z,rfl,z0,z1,rfl,wz,rfl,hwz, -⟩
  obtain⟨lv,rfl⟩:=Int.eq_ofNat_of_zero_le z0
  have cS:a0d Tryz.prog 159 [i64 (lv:Int),i64 1] (a0t (spF lv 1 (lv / 1+1)) (lv / 1+1)):=b0N (lv:=lv) (sp:=1) (.inl rfl) (by omega)
  rw[Nat.div_one]at cS
  refine Ybi ?_
  refine a0c _ cS rfl rfl rfl ?_
  refine Yay ?_
  exact a0Y (.ref 90160 (gn0 90160+1) [] 0 (lv+1)) Ur ⟨KFt,⟨t1,by omega,by omega,Ue hwz⟩,90160,gn0 90160+1,lv+1,spF lv 1 (lv+1),by decide,rfl,by omega,Ur,Ur,by omega,by omega⟩
 ·-- a product
  obtain⟨t1,ht1⟩: ∃t1,t0=t1+1:=⟨t0-1,by omega⟩
  have ed:Int.tdiv (mx:Int) 2=((mx / 2:Nat):Int):=rfl
  by_cases hm:4≤mx
  ·have hm':(4:Int)≤(mx:Int):=by omega
   have h70:70≤t0:=by
    rcases Nat.lt_or_ge t0 70 with h|h
    ·exact absurd rfl (h6 h rfl)
    ·exact h
   simp(disch:=first|assumption|omega) only[go_sem,s0,s1,ti2,ed]
   refine a0p rfl (ihA (by omega) t0 (by omega) _ _ (mx / 2) (by omega) (by omega) (by omega) hw') ?_
   rintro _ ro1 gn1 ⟨fr1,⟨t1,q1,q2,hS1⟩,sA,uA,nA,A,hsA,rfl,l1,l2,rA,n1,n2⟩
   have hF1:Frx WDr (CxS g) ro0 gn0 ro1 gn1:=hF0.trans fr1 (fun x y h=> .inr h)
   have edA:=b2y mx nA
   have hnz: ¬(nA:Int)=0:=by omega
   have hd1:1≤mx / nA:=Nat.div_pos (by omega) n1
   have hd2:mx / nA≤mx:=Nat.div_le_self _ _
   simp(disch:=first|assumption|omega) only[go_sem,s0,s1,ti2,rA,edA]
   refine a0p rfl (iht t1 (by omega) (by omega) _ _ (mx / nA) hd1 (by omega) (by omega) hS1) ?_
   rintro _ ro2 gn2 ⟨fr2,⟨t2,q3,q4,hS2⟩,sB,uB,nB,B,hsB,rfl,l3,l4,rB,n3,n4⟩
   have hF2:Frx WDr (CxS g) ro0 gn0 ro2 gn2:=hF1.trans fr2 (fun x y h=> .inr h)
   have rA':ro2 sA uA=some (a0t A nA):=(fr2.kp sA uA l2 (fun e=>c2N hsA e.1)).trans rA
   have hnm:nA*nB≤mx:=by
    have h1:nA*nB≤nA*(mx / nA):=Nat.mul_le_mul_left _ n4
    have h2:=Nat.mul_div_le mx nA
    omega
   have hnm1:1≤nA*nB:=Nat.mul_pos n1 n3
   refine Ybi ?_
   refine a0z _ (c5q (a0V A nA) (a0V B nB) n1 n3 (by omega)) (.cons (a1k rA' (by decide)) (.cons (a1k rB (by decide)) .nil)) rfl rfl (a2q _ _) ?_
   refine Yay ?_
   exact a0Y (.ref 106608 (gn2 106608+1) [] 0 (nA*nB)) Ur ⟨KFt,⟨t2,by omega,by omega,Ue hS2⟩,106608,gn2 106608+1,nA*nB,pdF A B nB (nA*nB),by decide,rfl,by have:=hF2.up 106608;omega,Ur,Ur,hnm1,hnm⟩
  ·have hm': ¬(4:Int)≤(mx:Int):=by omega
   subst ht1
   refine Yck ?_
   refine a0p rfl (a2L (t:=t1) hc hw' (n:=((2*mx:Nat):Int)) (by omega) (by omega)) ?_
   rintro _ _ _ ⟨z,rfl,z0,z1,rfl,wz,rfl,hwz, -⟩
   obtain⟨lv,rfl⟩:=Int.eq_ofNat_of_zero_le z0
   refine Ybi ?_
   refine a0c _ (b0N (lv:=lv) (sp:=2) (.inr rfl) (by omega)) rfl rfl rfl ?_
   refine Yay ?_
   exact a0Y (.ref 110656 (gn0 110656+1) [] 0 (lv / 2+1)) Ur ⟨KFt,⟨t1,by omega,by omega,Ue hwz⟩,110656,gn0 110656+1,lv / 2+1,spF lv 2 (lv / 2+1),by decide,rfl,by have:=hF0.up 110656;omega,Ur,Ur,by omega,by omega⟩
 ·obtain⟨t1,rfl⟩: ∃t1,t0=t1+1:=⟨t0-1,by omega⟩
  simp(disch:=first|assumption|omega) only[go_sem,s0,s1,ti2,e2m]
  refine a0p rfl (a2L (t:=t1) hc hw' (n:=((2*mx:Nat):Int)) (by omega) (by omega)) ?_
  rintro _ _ _ ⟨z,rfl,z0,z1,rfl,wz,rfl,hwz, -⟩
  obtain⟨lv,rfl⟩:=Int.eq_ofNat_of_zero_le z0
  refine Ybi ?_
  refine a0c _ (b0N (lv:=lv) (sp:=2) (.inr rfl) (by omega)) rfl rfl rfl ?_
  refine Yay ?_
  exact a0Y (.ref 110656 (gn0 110656+1) [] 0 (lv / 2+1)) Ur ⟨KFt,⟨t1,by omega,by omega,Ue hwz⟩,110656,gn0 110656+1,lv / 2+1,spF lv 2 (lv / 2+1),by decide,rfl,by have:=hF0.up 110656;omega,Ur,Ur,by omega,by omega⟩
theorem c4E(hc:Cod a bs): ∀t,12≤t→DrS a bs g 58 4 t:=by
 intro t
 induction t using Nat.strongRecOn with
 |ind t ih=>exact fun h=>a5T (L:=58) (M:=2) hc (by decide) (by decide) (fun h=>absurd h (by decide)) ih h
theorem c5m(hc:Cod a bs): ∀t,12≤t→DrS a bs g 46 8 t:=by
 intro t
 induction t using Nat.strongRecOn with
 |ind t ih=>exact fun h=>a5T (L:=46) (M:=4) hc (by decide) (by decide) (fun _=>c4E hc) ih h
theorem c2x(hc:Cod a bs): ∀t,12≤t→DrS a bs g 34 16 t:=by
 intro t
 induction t using Nat.strongRecOn with
 |ind t ih=>exact fun h=>a5T (L:=34) (M:=8) hc (by decide) (by decide) (fun _=>c5m hc) ih h
theorem c2M(hc:Cod a bs): ∀t,12≤t→DrS a bs g 22 32 t:=by
 intro t
 induction t using Nat.strongRecOn with
 |ind t ih=>exact fun h=>a5T (L:=22) (M:=16) hc (by decide) (by decide) (fun _=>c2x hc) ih h
theorem c4z{ro:Ro}{gn:Nat→Nat}{mx:Nat}(hc:Cod a bs)(hs:Src a bs (ro 8288 g))(h1:1≤mx)(h16:mx≤16):InS Tryz.prog 139 [.ptr 8288 g [] 0,i64 (mx:Int)] ro gn (fun r ro' gn'=>Frx WDr (CxS g) ro gn ro' gn'∧Src a bs (ro' 8288 g)∧DwR gn mx r ro' gn'):=by
 obtain⟨t,ht,hF⟩:=hs.fuel
 refine(c2M hc t (by omega) ro gn mx h1 (by omega) h16 hF).mono ?_
 rintro r ro' gn' ⟨k1,⟨t', -, -, k2⟩,k3⟩
 exact⟨k1,k2.src,k3⟩
end
def stR(r:AV)(ro:Ro)(gn:Nat→Nat):St:=⟨fun k=>if k=0 then r else .sc undef,ro,gn⟩
theorem c3x{P:Program}{f:Nat}{args:List AV}{ro:Ro}{gn:Nat→Nat}{Po Po':AV→Ro→(Nat→Nat)→Prop}(h:InS P f args ro gn Po)(hg: ∀r ro' gn',Po r ro' gn'→ ∃st',Gh (stR r ro' gn') st'∧Po' (st'.sl 0) st'.ro st'.gn):InS P f args ro gn Po':=by
 refine⟨h.1,fun w0 A0 F0 c Φ vs h1 h2 h3 h4=>(h.2 w0 A0 F0 c Φ vs h1 h2 h3 h4).mono ?_⟩
 rintro en w' ⟨v,c',Φ',r,k1,k2,k3,k4,k5,k6⟩
 obtain⟨st',g1,g2⟩:=hg _ _ _ k3
 have hS:SR w0 A0 F0 c 1 (stR r c'.ro c'.gn) ⟨#[v],[]⟩ c' Φ':=by
  refine⟨k4,k5,rfl,rfl,fun k=>?_,trivial,rfl⟩
  cases k with
  |zero=>exact k6
  |succ k=>exact .sc _ .nil
 obtain⟨c2,Φ2,e1,hS2⟩:=hS.ghost g1
 refine⟨v,c2,Φ2,st'.sl 0,k1,e1.trans k2,?_,hS2.sim,hS2.kp,?_⟩
 ·rw[hS2.ro,hS2.gn];exact g2
 ·exact hS2.sl 0
end Go.Proofs.YtbakhfiibjkifaaGreat
