/- Texts joined: Cj1c Cs5c Cs6 Cy1 Cy2 Cx0 Cy3 Cm1 Cy4. -/
import Derived.Shelf.Spec.SlicesGrow
import Derived.Test.YtbakhfiibjkifaaGreatMh
import Derived.Test.YtbakhfiibjkifaaGreatMg
import Derived.Test.YtbakhfiibjkifaaGreatOb
import Derived.Test.YtbakhfiibjkifaaGreatCe
import Derived.Test.YtbakhfiibjkifaaGreatCf
set_option linter.all false
/- The codes of rings. -/
namespace Go.Proofs.YtbakhfiibjkifaaGreat
open Go.RowKit
set_option maxRecDepth 1000000
theorem cCodeI{c:AV}{T:List (List (List Int))}(ha:isLLL c T)(hz:SzP T){z:Int}(h:CodP T z):CallOK Tryz.prog 44 [.agg [c]] (i64 z):=by
 refine call_of (fn:=Tryz.f44) (code:=bodyOf Tryz.f44) Tryz.func44 rfl (by kernel_rfl) (rfl) ?_
 intro sl hs
 have s0:sl 0= .agg [c]:=hs 0
 rcases h with⟨hr,hm,rfl⟩|⟨hr,hm,rfl⟩|⟨hr,rfl⟩
 ·have c1:=cIsRing ha hz (t:=true) ⟨fun _=>hr,fun _=>rfl⟩
  have c2:=cCommI ha hr.1 (t:=true) ⟨fun _=>hm,fun _=>rfl⟩
  dsimp only[Tryz.f44,bodyOf,Option.getD]
  refine Yad ?_
  refine CLL_pure _ c1 PUt rfl rfl ?_
  refine Yab ?_
  refine CLL_pure _ c2 PUt rfl rfl ?_
  refine Yab ?_
  exact Yaa
 ·have c1:=cIsRing ha hz (t:=true) ⟨fun _=>hr,fun _=>rfl⟩
  have c2:=cCommI ha hr.1 (t:=false) ⟨fun h=>(nomatch h),fun h=>absurd h hm⟩
  dsimp only[Tryz.f44,bodyOf,Option.getD]
  refine Yad ?_
  refine CLL_pure _ c1 PUt rfl rfl ?_
  refine Yab ?_
  refine CLL_pure _ c2 PUt rfl rfl ?_
  refine Yab ?_
  exact Yaa
 ·have c1:=cIsRing ha hz (t:=false) ⟨fun h=>(nomatch h),fun h=>absurd h hr⟩
  dsimp only[Tryz.f44,bodyOf,Option.getD]
  refine Yad ?_
  refine CLL_pure _ c1 PUt rfl rfl ?_
  refine Yab ?_
  exact Yaa
theorem cCodeS{c:AV}{T:List (List (List Int))}(ha:isLLL c T){z:Int}(h:CodP T z):CallOK Tryz.prog 46 [.agg [c]] (i64 z):=by
 refine call_of (fn:=Tryz.f46) (code:=bodyOf Tryz.f46) Tryz.func46 rfl (by kernel_rfl) (rfl) ?_
 intro sl hs
 have s0:sl 0= .agg [c]:=hs 0
 rcases h with⟨hr,hm,rfl⟩|⟨hr,hm,rfl⟩|⟨hr,rfl⟩
 ·have c1:=cIsS ha (t:=true) ⟨fun _=>hr,fun _=>rfl⟩
  have c2:=cCommS ha hr.1 (t:=true) ⟨fun _=>hm,fun _=>rfl⟩
  dsimp only[Tryz.f46,bodyOf,Option.getD]
  refine Yad ?_
  refine CLL_pure _ c1 PUt rfl rfl ?_
  refine Yab ?_
  refine CLL_pure _ c2 PUt rfl rfl ?_
  refine Yab ?_
  exact Yaa
 ·have c1:=cIsS ha (t:=true) ⟨fun _=>hr,fun _=>rfl⟩
  have c2:=cCommS ha hr.1 (t:=false) ⟨fun h=>(nomatch h),fun h=>absurd h hm⟩
  dsimp only[Tryz.f46,bodyOf,Option.getD]
  refine Yad ?_
  refine CLL_pure _ c1 PUt rfl rfl ?_
  refine Yab ?_
  refine CLL_pure _ c2 PUt rfl rfl ?_
  refine Yab ?_
  exact Yaa
 ·have c1:=cIsS ha (t:=false) ⟨fun h=>(nomatch h),fun h=>absurd h hr⟩
  dsimp only[Tryz.f46,bodyOf,Option.getD]
  refine Yad ?_
  refine CLL_pure _ c1 PUt rfl rfl ?_
  refine Yab ?_
  exact Yaa
theorem cTurnL{a b:AV}{d:Nat→Nat}{x:List Int}{n:Nat}(ha:isL a (rws (fun i=>((d i:Nat):Int)) n))(hb:isL b x)(hn:n≤65536)(hd: ∀i,i<n→d i<x.length):CallOK Tryz.prog 52 [a,b] (rowL (rws (fun i=>atI x (d i)) n)):=by
 have hl:(rws (fun i=>((d i:Nat):Int)) n).length=n:=zfe _ _
 refine call_of (fn:=Tryz.f52) (code:=bodyOf Tryz.f52) Tryz.func52 rfl (by kernel_rfl) (noRef_rowL _) ?_
 intro sl hs
 have s0:sl 0=a:=hs 0
 have s1:sl 1=b:=hs 1
 dsimp only[Tryz.f52,bodyOf,Option.getD]
 simp(maxSteps:=10000000) (disch:=first|assumption|omega) only[go_sem, ↓reduceIte,Nat.reduceEqDiff,reduceCtorEq,Nat.reduceAdd,Nat.reduceMul,Nat.reduceLeDiff,zc,Int.reduceToNat,s0,s1,isL_len ha,hl]
 refine WK_for (fun i st=>st.sl 1=b∧st.sl 9=a∧st.sl 10=i64 (n:Nat)∧st.sl 11=i64 (i:Int)∧st.sl 5= .ref 8192 (st.gn 8192) [] 0 i∧st.ro 8192 (st.gn 8192)=some (.row (rws (fun i=>i64 (atI x (d i))) i))) n ?_ ?_ ?_
 ·refine Yak ?_
  repeat' first|rfl|apply And.intro
 ·rintro i sl ro gn hi ⟨s1,s9,s10,s11,s5,r8192⟩
  dsimp only at s1 s9 s10 s11 s5 r8192
  have hi':(i:Int)<(n:Nat):=by omega
  have hi2:i+1≤4294967296:=by omega
  have hai:i<(rws (fun i=>((d i:Nat):Int)) n).length:=by omega
  have hdi:=hd i hi
  have ea:atI (rws (fun i=>((d i:Nat):Int)) n) i=(d i:Nat):=atI_rws _ hi
  simp(maxSteps:=10000000) (disch:=first|assumption|omega) only[go_sem, ↓reduceIte,Nat.reduceEqDiff,reduceCtorEq,Nat.reduceAdd,Nat.reduceMul,Nat.reduceLeDiff,zc,Int.reduceToNat,s1,s9,s10,s11,s5,r8192,hi',hi,isL_idx ha hai,ea,isL_idx hb hdi,hi2]
  exact i64c (by omega)
 ·rintro sl ro gn ⟨s1,s9,s10,s11,s5,r8192⟩
  dsimp only at s1 s9 s10 s11 s5 r8192
  have hi': ¬((n:Nat):Int)<(n:Nat):=by omega
  simp(maxSteps:=10000000) (disch:=first|assumption|omega) only[go_sem, ↓reduceIte,Nat.reduceEqDiff,reduceCtorEq,Nat.reduceAdd,Nat.reduceMul,Nat.reduceLeDiff,zc,Int.reduceToNat,s1,s9,s10,s11,s5,r8192,hi']
  simp only[zr,zb,retR,resL,outT,outL,zes,zez,oneV,zcp,zed,zfi,Ro.dl,St.ev,zhk, ↓za, ↓reduceIte,Nat.reduceEqDiff,Nat.reduceAdd,Nat.reduceLeDiff,r8192,rowL,rws_map]
theorem imp_tLL{b:Nat}{gn:Nat→Nat}{X:List (List Int)}{v:Value}:impE b gn (.tup [rowLL X,.sc v])=⟨.tup [.ref b (gn b+1) [] 0 X.length,.sc v],none,[],[(b,rowLL X)]⟩:=by
 show (⟨.tup [.ref b (gn b+1) [] 0 (X.map rowL).length,.sc v],none,[],[(b,.row (X.map rowL))]⟩:Eff)=_
 rw[List.length_map]
theorem noRef_tLL(X:List (List Int))(v:Value):noRef (.tup [rowLL X,.sc v])=true:=by
 have h:=noRef_rowLL X
 show (noRef (rowLL X)&&(noRef (.sc v)&&true))=true
 rw[h];rfl
theorem noI_tLL(X:List (List Int))(v:Value):noI (.tup [rowLL X,.sc v])=true:=by
 have h:=noI_rowLL X
 show (noI (rowLL X)&&(noI (.sc v)&&true))=true
 rw[h];rfl
section
variable{c:AV}{T:List (List (List Int))}
theorem cChS0(hc:isLLL c T)(hR:RngP T)(hm:CmP T):CallOK Tryz.prog 9 [.agg [c]] (.tup [rowLL (chsI T),i64 0]):=by
 have c1:=cCodeS hc (z:=0) (.inl ⟨hR,hm,rfl⟩)
 have c2:=cAllS hc hR.1
 rw[←chs_same hR.1]at c2
 refine call_of (fn:=Tryz.f9) (code:=bodyOf Tryz.f9) Tryz.func9 rfl (by kernel_rfl) (noRef_tLL _ _) ?_
 intro sl hs
 have s0:sl 0= .agg [c]:=hs 0
 dsimp only[Tryz.f9,bodyOf,Option.getD]
 refine Yad ?_
 refine CLL_pure _ c1 PUt rfl rfl ?_
 refine Yab ?_
 refine CLL_pure _ c2 PUt rfl rfl ?_
 refine Yes ?_
 exact Yaa
theorem cChS1(hc:isLLL c T){z:Int}(h:CodP T z)(hz:z≠0):CallOK Tryz.prog 9 [.agg [c]] (.tup [nilA,i64 z]):=by
 have c1:=cCodeS hc h
 refine call_of (fn:=Tryz.f9) (code:=bodyOf Tryz.f9) Tryz.func9 rfl (by kernel_rfl) (rfl) ?_
 intro sl hs
 have s0:sl 0= .agg [c]:=hs 0
 dsimp only[Tryz.f9,bodyOf,Option.getD]
 refine Yad ?_
 refine CLL_pure _ c1 PUt rfl rfl ?_
 refine Yfs ?_
 exact Yaa
theorem cChI0(hc:isLLL c T)(hR:RngP T)(hm:CmP T):CallOK Tryz.prog 8 [.agg [c]] (.tup [rowLL (chsI T),i64 0]):=by
 have c1:=cCodeI hc hR.1.sz (z:=0) (.inl ⟨hR,hm,rfl⟩)
 have c2:CallOK Tryz.prog 45 [.agg [c]] (rowLL (chsI T)):=cChars hc hR.1
 refine call_of (fn:=Tryz.f8) (code:=bodyOf Tryz.f8) Tryz.func8 rfl (by kernel_rfl) (noRef_tLL _ _) ?_
 intro sl hs
 have s0:sl 0= .agg [c]:=hs 0
 dsimp only[Tryz.f8,bodyOf,Option.getD]
 refine Yad ?_
 refine CLL_pure _ c1 PUt rfl rfl ?_
 refine Yab ?_
 refine CLL_pure _ c2 PUt rfl rfl ?_
 refine Yes ?_
 exact Yaa
theorem cChI1(hc:isLLL c T)(hs:SzP T){z:Int}(h:CodP T z)(hz:z≠0):CallOK Tryz.prog 8 [.agg [c]] (.tup [nilA,i64 z]):=by
 have c1:=cCodeI hc hs h
 refine call_of (fn:=Tryz.f8) (code:=bodyOf Tryz.f8) Tryz.func8 rfl (by kernel_rfl) (rfl) ?_
 intro sl hs
 have s0:sl 0= .agg [c]:=hs 0
 dsimp only[Tryz.f8,bodyOf,Option.getD]
 refine Yad ?_
 refine CLL_pure _ c1 PUt rfl rfl ?_
 refine Yfs ?_
 exact Yaa
end
def LC(T:List (List (List Int)))(x:List Int):Prop:=x.length=T.length∧NL x
open Classical in
noncomputable def icV(T:List (List (List Int)))(x:List Int):Bool×Int:=
 if RngP T then if CmP T then if LC T x then(chB T x,0)else(false,2)else(false,5)else(false,1)
section
variable{T:List (List (List Int))}{x:List Int}
theorem icV_1(h: ¬RngP T):icV T x=(false,1):=if_neg h
theorem icV_5(h:RngP T)(h2: ¬CmP T):icV T x=(false,5):=by unfold icV;rw[if_pos h,if_neg h2]
theorem icV_2(h:RngP T)(h2:CmP T)(h3: ¬LC T x):icV T x=(false,2):=by unfold icV;rw[if_pos h,if_pos h2,if_neg h3]
theorem icV_0(h:RngP T)(h2:CmP T)(h3:LC T x):icV T x=(chB T x,0):=by unfold icV;rw[if_pos h,if_pos h2,if_pos h3]
theorem exq_one{ro:Ro}{s g k:Nat}{xs:List Int}(h:ro s g=some (.row [.imm (xs.map i64)]))(hk:3≤k):exq k ro (.ref s g [] 0 1) (immLL [xs]):=by
 refine⟨fun q hq=>?_,fun hp=>by simp[pureA]at hp⟩
 obtain⟨j,rfl⟩: ∃j,q=j+3:=⟨q-3,by omega⟩
 have hc:ro.cells s g []=some [.imm (xs.map i64)]:=by simp only[Ro.cells,h,blk]
 have hm: ∀l:List Int,(l.map i64).map (ex ro (j+1))=l.map i64:=fun l=>by rw[List.map_map];exact List.map_congr_left fun _ _=>rfl
 have h1: ∀l:List Int,ex ro (j+2) (.imm (l.map i64))= .imm (l.map i64):=fun l=>congrArg AV.imm (hm l)
 show (match ro.cells s g []with|some cs=>AV.imm (((cs.drop 0).take 1).map (ex ro (j+2)))|none=> .dead)=_
 rw[hc]
 show AV.imm [ex ro (j+2) _]=_
 rw[h1]
 rfl
theorem exq_oneN{ro:Ro}{s g k:Nat}(h:ro s g=some (.row [nilA]))(hk:3≤k):exq k ro (.ref s g [] 0 1) (.imm [nilA]):=by
 refine⟨fun q hq=>?_,fun hp=>by simp[pureA]at hp⟩
 obtain⟨j,rfl⟩: ∃j,q=j+3:=⟨q-3,by omega⟩
 have hc:ro.cells s g []=some [nilA]:=by simp only[Ro.cells,h,blk]
 show (match ro.cells s g []with|some cs=>AV.imm (((cs.drop 0).take 1).map (ex ro (j+2)))|none=> .dead)=_
 rw[hc]
 rfl
variable{c a l:AV}
theorem cIsLC(hc:isLLL c T)(ha:isL a x)(hx:x.length≤maxN){t:Bool}(ht:t=true↔LC T x):CallOK Tryz.prog 49 [.agg [c],a] (bo t):=by
 by_cases h:x.length=T.length
 ·have h':(x.length:Int)=T.length:=by omega
  have e:allW x 0 55440=t:=by
   rw[Bool.eq_iff_iff,ht,NL_iff]
   exact⟨fun k=>⟨h,k⟩,fun k=>k.2⟩
  have c1:=c115 ha hx
  rw[e]at c1
  refine call_of (fn:=Tryz.f49) (code:=bodyOf Tryz.f49) Tryz.func49 rfl (by kernel_rfl) (rfl) ?_
  intro sl hs
  have s0:sl 0= .agg [c]:=hs 0
  have s1:sl 1=a:=hs 1
  dsimp only[Tryz.f49,bodyOf,Option.getD]
  simp(maxSteps:=10000000) (disch:=first|assumption|omega) only[go_sem, ↓reduceIte,Nat.reduceEqDiff,reduceCtorEq,Nat.reduceAdd,Nat.reduceMul,Nat.reduceLeDiff,zc,Int.reduceToNat,s0,s1,ti33,ti31,isLLL_len hc,isL_len ha,eq_true h']
  refine CLL_pure _ c1 PUt rfl rfl ?_
  refine Yae ?_
  exact Yaa
 ·have h': ¬(x.length:Int)=T.length:=by omega
  refine call_of (fn:=Tryz.f49) (code:=bodyOf Tryz.f49) Tryz.func49 rfl (by kernel_rfl) (rfl) ?_
  intro sl hs
  have s0:sl 0= .agg [c]:=hs 0
  have s1:sl 1=a:=hs 1
  dsimp only[Tryz.f49,bodyOf,Option.getD]
  simp(maxSteps:=10000000) (disch:=first|assumption|omega) only[go_sem, ↓reduceIte,Nat.reduceEqDiff,reduceCtorEq,Nat.reduceAdd,Nat.reduceMul,Nat.reduceLeDiff,zc,Int.reduceToNat,s0,s1,ti33,ti31,isLLL_len hc,isL_len ha,eq_false h']
  refine Yac ?_
  exact bool_false ht fun k=>h k.1
theorem cIcI(hc:isLLL c T)(hz:SzP T)(ha:isL a x)(hx:x.length≤maxN):CallOK Tryz.prog 16 [.agg [c],a] (.tup [bo (icV T x).1,i64 (icV T x).2]):=by
 by_cases hR:RngP T
 ·by_cases hC:CmP T
  ·have c1:=cCodeI hc hz (z:=0) (.inl ⟨hR,hC,rfl⟩)
   by_cases hL:LC T x
   ·have c2:=cIsLC hc ha hx (t:=true) ⟨fun _=>hL,fun _=>rfl⟩
    have c3:=cIsCh hc hR.1 ha hL.1 (NL_numL hL.2) (chB_iff T x)
    rw[icV_0 hR hC hL]
    refine call_of (fn:=Tryz.f16) (code:=bodyOf Tryz.f16) Tryz.func16 rfl (by kernel_rfl) (rfl) ?_
    intro sl hs
    have s0:sl 0= .agg [c]:=hs 0
    have s1:sl 1=a:=hs 1
    dsimp only[Tryz.f16,bodyOf,Option.getD]
    refine Yaf ?_
    refine CLL_pure _ c1 PUt rfl rfl ?_
    refine Yae ?_
    refine CLL_pure _ c2 PUt rfl rfl ?_
    refine Yae ?_
    refine CLL_pure _ c3 PUt rfl rfl ?_
    refine Yae ?_
    exact Yaa
   ·have c2:=cIsLC hc ha hx (t:=false) ⟨fun h=>Bool.noConfusion h,fun h=>absurd h hL⟩
    rw[icV_2 hR hC hL]
    refine call_of (fn:=Tryz.f16) (code:=bodyOf Tryz.f16) Tryz.func16 rfl (by kernel_rfl) (rfl) ?_
    intro sl hs
    have s0:sl 0= .agg [c]:=hs 0
    have s1:sl 1=a:=hs 1
    dsimp only[Tryz.f16,bodyOf,Option.getD]
    refine Yaf ?_
    refine CLL_pure _ c1 PUt rfl rfl ?_
    refine Yae ?_
    refine CLL_pure _ c2 PUt rfl rfl ?_
    refine Yae ?_
    exact Yaa
  ·have c1:=cCodeI hc hz (z:=5) (.inr (.inl ⟨hR,hC,rfl⟩))
   rw[icV_5 hR hC]
   refine call_of (fn:=Tryz.f16) (code:=bodyOf Tryz.f16) Tryz.func16 rfl (by kernel_rfl) (rfl) ?_
   intro sl hs
   have s0:sl 0= .agg [c]:=hs 0
   have s1:sl 1=a:=hs 1
   dsimp only[Tryz.f16,bodyOf,Option.getD]
   refine Yaf ?_
   refine CLL_pure _ c1 PUt rfl rfl ?_
   refine Yae ?_
   exact Yaa
 ·have c1:=cCodeI hc hz (z:=1) (.inr (.inr ⟨hR,rfl⟩))
  rw[icV_1 hR]
  refine call_of (fn:=Tryz.f16) (code:=bodyOf Tryz.f16) Tryz.func16 rfl (by kernel_rfl) (rfl) ?_
  intro sl hs
  have s0:sl 0= .agg [c]:=hs 0
  have s1:sl 1=a:=hs 1
  dsimp only[Tryz.f16,bodyOf,Option.getD]
  refine Yaf ?_
  refine CLL_pure _ c1 PUt rfl rfl ?_
  refine Yae ?_
  exact Yaa
end
end Go.Proofs.YtbakhfiibjkifaaGreat
/- Characters: the reference's list of one list; its IsCharacter. -/
namespace Go.Proofs.YtbakhfiibjkifaaGreat
open Go.RowKit
set_option maxRecDepth 1000000
def cd2:Nat→Int
 |0=>0
 |_=>2
section
variable{T:List (List (List Int))}{x:List Int}{c a l:AV}
theorem len_one:(([x].length:Nat):Int)=((1:Nat):Int):=rfl
theorem lt01:((0:Nat):Int)<((1:Nat):Int):=by decide
theorem lt11: ¬((1:Nat):Int)<((1:Nat):Int):=by decide
theorem cL08z(hc:isLLL c T)(hl:isLL l [x]){z:Int}(h:CodP T z)(hz:z≠0):CallOK Tryz.prog 56 [.agg [c],bo false,l] (i64 z):=by
 have c1:=cCodeS hc h
 refine call_of (fn:=Tryz.f56) (code:=bodyOf Tryz.f56) Tryz.func56 rfl (by kernel_rfl) (rfl) ?_
 intro sl hs
 have s0:sl 0= .agg [c]:=hs 0
 have s1:sl 1=bo false:=hs 1
 have s2:sl 2=l:=hs 2
 dsimp only[Tryz.f56,bodyOf,Option.getD]
 refine Yag ?_
 refine CLL_pure _ c1 PUt rfl rfl ?_
 refine Yao ?_
 refine WK_for (fun i st=>st.sl 2=l∧st.sl 7=i64 z∧st.sl 8=i64 (i:Int)) 0 ?_ ?_ ?_
 ·refine Ybg ?_
  exact rfl
 ·rintro i sl ro gn hi ⟨s2,s7,s8⟩
  dsimp only at s2 s7 s8
  have hi':(i:Int)<(0:Nat):=by omega
  exact absurd hi (Nat.not_lt_zero _)
 ·rintro sl ro gn ⟨s2,s7,s8⟩
  dsimp only at s2 s7 s8
  have hi': ¬((0:Nat):Int)<(0:Nat):=by omega
  simp(maxSteps:=10000000) (disch:=first|assumption|omega) only[go_sem, ↓reduceIte,Nat.reduceEqDiff,reduceCtorEq,Nat.reduceAdd,Nat.reduceMul,Nat.reduceLeDiff,zc,Int.reduceToNat,s2,s7,s8,hi',isLL_len hl,len_one,lt01,eq_false hz]
  exact Yaa
theorem cL08t(hc:isLLL c T)(ha:isL a x)(hx:x.length≤maxN)(hR:RngP T)(hC:CmP T)(hL:LC T x):CallOK Tryz.prog 56 [.agg [c],bo false,.imm [a]] (i64 0):=by
 have hl:isLL (.imm [a]) [x]:= .inl ⟨[a],rfl,ha,trivial⟩
 have c1:=cCodeS hc (z:=0) (.inl ⟨hR,hC,rfl⟩)
 have c2:=c123 ha hx (t:=true) ⟨fun _=>hL.2,fun _=>rfl⟩
 have h':(x.length:Int)=T.length:=by have:=hL.1;omega
 refine call_of (fn:=Tryz.f56) (code:=bodyOf Tryz.f56) Tryz.func56 rfl (by kernel_rfl) (rfl) ?_
 intro sl hs
 have s0:sl 0= .agg [c]:=hs 0
 have s1:sl 1=bo false:=hs 1
 have s2:sl 2= .imm [a]:=hs 2
 dsimp only[Tryz.f56,bodyOf,Option.getD]
 refine Yag ?_
 refine CLL_pure _ c1 PUt rfl rfl ?_
 refine Yao ?_
 refine WK_for (fun i st=>st.sl 1=bo false∧st.sl 2= .imm [a]∧st.sl 3= .ptr 4096 1 [] 0∧st.ro 4096 1=some (.bx [c])∧st.sl 7=i64 0∧st.sl 8=i64 (i:Int)) 1 ?_ ?_ ?_
 ·refine Ybg ?_
  exact rfl
 ·rintro i sl ro gn hi ⟨s1,s2,s3,r4096,s7,s8⟩
  dsimp only at s1 s2 s3 r4096 s7 s8
  have hi':(i:Int)<(1:Nat):=by omega
  obtain rfl:i=0:=by omega
  simp(maxSteps:=10000000) (disch:=first|assumption|omega) only[go_sem, ↓reduceIte,Nat.reduceEqDiff,reduceCtorEq,Nat.reduceAdd,Nat.reduceMul,Nat.reduceLeDiff,zc,Int.reduceToNat,s1,s2,s3,r4096,s7,s8,hi',hi,isLL_len hl,len_one,lt01,isLL_idx hl (k:=0) (Nat.lt_succ_self 0),show atA (.imm [a]) 0=a from rfl,isL_len ha,isLLL_len hc,eq_true h',ti33,ti31]
  refine CLLD_pure _ c2 PUt rfl ?_
  refine Yav ?_
  refine FIN_of (by kernel_rfl) ?_
  refine Yav ?_
  exact rfl
 ·rintro sl ro gn ⟨s1,s2,s3,r4096,s7,s8⟩
  dsimp only at s1 s2 s3 r4096 s7 s8
  have hi': ¬((1:Nat):Int)<(1:Nat):=by omega
  refine Ybu ?_
  exact Yaa
theorem cL08f(hc:isLLL c T)(ha:isL a x)(hx:x.length≤maxN)(hR:RngP T)(hC:CmP T)(hL: ¬LC T x):CallOK Tryz.prog 56 [.agg [c],bo false,.imm [a]] (i64 2):=by
 have hl:isLL (.imm [a]) [x]:= .inl ⟨[a],rfl,ha,trivial⟩
 have c1:=cCodeS hc (z:=0) (.inl ⟨hR,hC,rfl⟩)
 by_cases h:x.length=T.length
 ·have c2:=c123 ha hx (t:=false) ⟨fun h=>Bool.noConfusion h,fun h2=>absurd ⟨h,h2⟩ hL⟩
  have h':(x.length:Int)=T.length:=by omega
  refine call_of (fn:=Tryz.f56) (code:=bodyOf Tryz.f56) Tryz.func56 rfl (by kernel_rfl) (rfl) ?_
  intro sl hs
  have s0:sl 0= .agg [c]:=hs 0
  have s1:sl 1=bo false:=hs 1
  have s2:sl 2= .imm [a]:=hs 2
  dsimp only[Tryz.f56,bodyOf,Option.getD]
  refine Yag ?_
  refine CLL_pure _ c1 PUt rfl rfl ?_
  refine Yao ?_
  refine WK_for (fun i st=>st.sl 1=bo false∧st.sl 2= .imm [a]∧st.sl 3= .ptr 4096 1 [] 0∧st.ro 4096 1=some (.bx [c])∧st.sl 7=i64 (cd2 i)∧st.sl 8=i64 (i:Int)) 1 ?_ ?_ ?_
  ·refine Ybg ?_
   exact⟨rfl,rfl⟩
  ·rintro i sl ro gn hi ⟨s1,s2,s3,r4096,s7,s8⟩
   dsimp only at s1 s2 s3 r4096 s7 s8
   have hi':(i:Int)<(1:Nat):=by omega
   obtain rfl:i=0:=by omega
   simp(maxSteps:=10000000) (disch:=first|assumption|omega) only[go_sem, ↓reduceIte,Nat.reduceEqDiff,reduceCtorEq,Nat.reduceAdd,Nat.reduceMul,Nat.reduceLeDiff,zc,Int.reduceToNat,s1,s2,s3,r4096,s7,s8,hi',hi,isLL_len hl,len_one,lt01,isLL_idx hl (k:=0) (Nat.lt_succ_self 0),show atA (.imm [a]) 0=a from rfl,isL_len ha,isLLL_len hc,eq_true h',ti33,ti31,show cd2 0=0 from rfl]
   refine CLLD_pure _ c2 PUt rfl ?_
   refine Yav ?_
   refine FIN_of (by kernel_rfl) ?_
   refine Yav ?_
   exact⟨rfl,rfl⟩
  ·rintro sl ro gn ⟨s1,s2,s3,r4096,s7,s8⟩
   dsimp only at s1 s2 s3 r4096 s7 s8
   have hi': ¬((1:Nat):Int)<(1:Nat):=by omega
   refine Ybu ?_
   refine Yac ?_
   exact rfl
 ·have h': ¬(x.length:Int)=T.length:=by omega
  refine call_of (fn:=Tryz.f56) (code:=bodyOf Tryz.f56) Tryz.func56 rfl (by kernel_rfl) (rfl) ?_
  intro sl hs
  have s0:sl 0= .agg [c]:=hs 0
  have s1:sl 1=bo false:=hs 1
  have s2:sl 2= .imm [a]:=hs 2
  dsimp only[Tryz.f56,bodyOf,Option.getD]
  refine Yag ?_
  refine CLL_pure _ c1 PUt rfl rfl ?_
  refine Yao ?_
  refine WK_for (fun i st=>st.sl 1=bo false∧st.sl 2= .imm [a]∧st.sl 3= .ptr 4096 1 [] 0∧st.ro 4096 1=some (.bx [c])∧st.sl 7=i64 (cd2 i)∧st.sl 8=i64 (i:Int)) 1 ?_ ?_ ?_
  ·refine Ybg ?_
   exact⟨rfl,rfl⟩
  ·rintro i sl ro gn hi ⟨s1,s2,s3,r4096,s7,s8⟩
   dsimp only at s1 s2 s3 r4096 s7 s8
   have hi':(i:Int)<(1:Nat):=by omega
   obtain rfl:i=0:=by omega
   simp(maxSteps:=10000000) (disch:=first|assumption|omega) only[go_sem, ↓reduceIte,Nat.reduceEqDiff,reduceCtorEq,Nat.reduceAdd,Nat.reduceMul,Nat.reduceLeDiff,zc,Int.reduceToNat,s1,s2,s3,r4096,s7,s8,hi',hi,isLL_len hl,len_one,lt01,isLL_idx hl (k:=0) (Nat.lt_succ_self 0),show atA (.imm [a]) 0=a from rfl,isL_len ha,isLLL_len hc,eq_false h',ti33,ti31,show cd2 0=0 from rfl]
   refine FIN_of (by kernel_rfl) ?_
   refine Yav ?_
   exact⟨rfl,rfl⟩
  ·rintro sl ro gn ⟨s1,s2,s3,r4096,s7,s8⟩
   dsimp only at s1 s2 s3 r4096 s7 s8
   have hi': ¬((1:Nat):Int)<(1:Nat):=by omega
   refine Ybu ?_
   refine Yac ?_
   exact rfl
theorem cIcS0(hc:isLLL c T)(c1:CallOK Tryz.prog 56 [.agg [c],bo false,.imm [a]] (i64 0))(c2:CallOK Tryz.prog 57 [.agg [c],a] (bo (chB T x)))(ha:isL a x):CallOK Tryz.prog 20 [.agg [c],a] (.tup [bo (chB T x),i64 0]):=by
 rcases ha with rfl|⟨rfl,rfl⟩
 ·refine call_of (fn:=Tryz.f20) (code:=bodyOf Tryz.f20) Tryz.func20 rfl (by kernel_rfl) (rfl) ?_
  intro sl hs
  have s0:sl 0= .agg [c]:=hs 0
  have s1:sl 1= .imm (x.map i64):=hs 1
  dsimp only[Tryz.f20,bodyOf,Option.getD]
  refine Yaf ?_
  refine CLL_q _ c1 (.cons (exq_agg (n:=7) (.cons (exq_LLL hc (by decide)) .nil)) (.cons (exq_sc _ _ _ (by decide)) (.cons (exq_one (xs:=x) (by first|exact rfl|(simp only[↓za, ↓reduceIte,Nat.reduceEqDiff,zb,reduceCtorEq])) (by decide)) .nil))) rfl rfl rfl ?_
  refine Yaf ?_
  refine CLL_pure _ c2 PUt rfl rfl ?_
  refine Yae ?_
  exact Yaa
 ·refine call_of (fn:=Tryz.f20) (code:=bodyOf Tryz.f20) Tryz.func20 rfl (by kernel_rfl) (rfl) ?_
  intro sl hs
  have s0:sl 0= .agg [c]:=hs 0
  have s1:sl 1=nilA:=hs 1
  dsimp only[Tryz.f20,bodyOf,Option.getD]
  refine Yaf ?_
  refine CLL_q _ c1 (.cons (exq_agg (n:=7) (.cons (exq_LLL hc (by decide)) .nil)) (.cons (exq_sc _ _ _ (by decide)) (.cons (exq_oneN (by first|exact rfl|(simp only[↓za, ↓reduceIte,Nat.reduceEqDiff,zb,reduceCtorEq])) (by decide)) .nil))) rfl rfl rfl ?_
  refine Yaf ?_
  refine CLL_pure _ c2 PUt rfl rfl ?_
  refine Yae ?_
  exact Yaa
theorem cIcSe(hc:isLLL c T){z:Int}(hz:z≠0)(c1:CallOK Tryz.prog 56 [.agg [c],bo false,.imm [a]] (i64 z))(ha:isL a x):CallOK Tryz.prog 20 [.agg [c],a] (.tup [bo false,i64 z]):=by
 rcases ha with rfl|⟨rfl,rfl⟩
 ·refine call_of (fn:=Tryz.f20) (code:=bodyOf Tryz.f20) Tryz.func20 rfl (by kernel_rfl) (rfl) ?_
  intro sl hs
  have s0:sl 0= .agg [c]:=hs 0
  have s1:sl 1= .imm (x.map i64):=hs 1
  dsimp only[Tryz.f20,bodyOf,Option.getD]
  refine Yaf ?_
  refine CLL_q _ c1 (.cons (exq_agg (n:=7) (.cons (exq_LLL hc (by decide)) .nil)) (.cons (exq_sc _ _ _ (by decide)) (.cons (exq_one (xs:=x) (by first|exact rfl|(simp only[↓za, ↓reduceIte,Nat.reduceEqDiff,zb,reduceCtorEq])) (by decide)) .nil))) rfl rfl rfl ?_
  refine Yfa ?_
  exact Yaa
 ·refine call_of (fn:=Tryz.f20) (code:=bodyOf Tryz.f20) Tryz.func20 rfl (by kernel_rfl) (rfl) ?_
  intro sl hs
  have s0:sl 0= .agg [c]:=hs 0
  have s1:sl 1=nilA:=hs 1
  dsimp only[Tryz.f20,bodyOf,Option.getD]
  refine Yaf ?_
  refine CLL_q _ c1 (.cons (exq_agg (n:=7) (.cons (exq_LLL hc (by decide)) .nil)) (.cons (exq_sc _ _ _ (by decide)) (.cons (exq_oneN (by first|exact rfl|(simp only[↓za, ↓reduceIte,Nat.reduceEqDiff,zb,reduceCtorEq])) (by decide)) .nil))) rfl rfl rfl ?_
  refine Yfa ?_
  exact Yaa
theorem cIcS(hc:isLLL c T)(ha:isL a x)(hx:x.length≤maxN):CallOK Tryz.prog 20 [.agg [c],a] (.tup [bo (icV T x).1,i64 (icV T x).2]):=by
 have hl:isLL (.imm [a]) [x]:= .inl ⟨[a],rfl,ha,trivial⟩
 by_cases hR:RngP T
 ·by_cases hC:CmP T
  ·by_cases hL:LC T x
   ·rw[icV_0 hR hC hL]
    exact cIcS0 hc (cL08t hc ha hx hR hC hL) (cIs08 hc hR.1 ha hL.1 (NL_numL hL.2) (chB_iff T x)) ha
   ·rw[icV_2 hR hC hL]
    exact cIcSe hc (by decide) (cL08f hc ha hx hR hC hL) ha
  ·rw[icV_5 hR hC]
   exact cIcSe hc (by decide) (cL08z hc hl (.inr (.inl ⟨hR,hC,rfl⟩)) (by decide)) ha
 ·rw[icV_1 hR]
  exact cIcSe hc (by decide) (cL08z hc hl (.inr (.inr ⟨hR,rfl⟩)) (by decide)) ha
end
def laysGrL_ren:Go.Shelf.Ren:=⟨fun|4=>125|n=>n,fun|22=>28|25=>37|3=>3|4=>4|9=>9|20=>20|0=>0|n=>n,fun n=>n⟩
theorem laysGrL:Lays8.n4 Tryz.prog laysGrL_ren where
 mixed:=by kernel_rfl
 f4 := ⟨"slices.Grow[[][]int64,[]int64]", by decide, Tryz.func125.trans (congrArg some (by kernel_rfl))⟩
 t0:=Tryz.underlying0
 a0:=Tryz.isAgg0
 z0:=Tryz.sizeOf0
 v0:=Tryz.zeroValue0
 t3:=Tryz.underlying3
 a3:=Tryz.isAgg3
 z3:=Tryz.sizeOf3
 v3:=Tryz.zeroValue3
 t4:=Tryz.underlying4
 a4:=Tryz.isAgg4
 z4:=Tryz.sizeOf4
 v4:=Tryz.zeroValue4
 t9:=Tryz.underlying9
 a9:=Tryz.isAgg9
 z9:=Tryz.sizeOf9
 v9:=Tryz.zeroValue9
 t20:=Tryz.underlying20
 a20:=Tryz.isAgg20
 z20:=Tryz.sizeOf20
 v20:=Tryz.zeroValue20
 t22:=Tryz.underlying28
 a22:=Tryz.isAgg28
 z22:=Tryz.sizeOf28
 v22:=Tryz.zeroValue28
theorem cGrowL{n:Nat}(h1:1≤n)(hn:n≤65536):CallOK Tryz.prog 125 [nilA,i64 n] (.row []):=by
 refine⟨⟨_,Tryz.func125,by kernel_rfl,by kernel_rfl⟩,rfl,fun w A vs hv hA hG=>?_⟩
 obtain⟨v,vs',rfl,h1',h2⟩:=RelL.uncons0 hv
 obtain⟨v',vs'',rfl,h3,h4⟩:=RelL.uncons0 h2
 obtain rfl:=(RelL.nilF h4).1
 obtain⟨rfl, -⟩:=Rel.sc_inv h1'
 obtain⟨rfl, -⟩:=Rel.sc_inv h3
 obtain⟨inf,z,hi,hsz,hz,hzc⟩:=((tiG_ok Tryz.prog).ok _ _ ti23).info
 have hb8:(some inf).map (·.bytes)=some 24:=by rw[←hi];kernel_rfl
 have hb8:inf.bytes=24:=by simpa using hb8
 have hzl:z.cells.size=1:=by rw[←Array.length_toList,hzc];rfl
 refine(Any8.slices_Grow_grow laysGrL inf z hi hz (by rw[hsz];decide) none 0 0 n [] w (by omega) (by omega) (by rw[hb8];omega) (by omega) (by simp) (fun _=>rfl) (fun a h=>by cases h)).mono ?_
 rintro e w' ⟨rfl,rfl⟩
 have g1:=grownCap_ge w (0+n) 0 (laysGrL_ren.t 25)
 have g2:=grownCap_le_maxLen w (0+n) 0 (laysGrL_ren.t 25) (by unfold maxLen;omega)
 refine⟨_,fun b=>A b∨b=w.heap.size,[w.heap.size],rfl,?_,fun _ h=> .inl h,fun x hx=>?_,?_⟩
 ·refine Rel.mk_row w.heap.size 0 _ (us:=[]) .nil ⟨_,_,heap_alloc_new w.drew _,?_,Nat.zero_le _,g2,fun i u hu=>by simp at hu⟩ (by simp)
  simp only[Array.size_append,size_zeroCells,hzl]
  simp
  omega
 ·simp only[List.mem_singleton]at hx
  subst hx
  exact⟨.inr rfl,Nat.le_refl _⟩
 ·exact⟨rfl,rfl,⟨rfl,trivial⟩,Nat.le_of_lt (Array.getElem?_eq_some_iff.1 (heap_alloc_new w.drew _)).1,fun k hk _=>Below.heap_alloc w.drew _ k hk⟩
def szC(k:Nat):Nat→Nat
 |0=>0
 |1=>1
 |_=>1+k
def prC(x:AV)(ys:List AV):Nat→List AV
 |0=>[]
 |1=>[x]
 |_=>x::ys
theorem szC0(k:Nat):szC k 0=0:=rfl
theorem szC1(k:Nat):szC k 1=1:=rfl
theorem szC2(k:Nat):szC k 2=1+k:=rfl
theorem prC0(x:AV)(ys:List AV):prC x ys 0=[]:=rfl
theorem prC1(x:AV)(ys:List AV):prC x ys 1=[x]:=rfl
theorem prC2(x:AV)(ys:List AV):prC x ys 2=x::ys:=rfl
theorem kLen_imm{ro:Ro}{cs:List AV}{a1:Nat}{a2:Bool}{a3:List Value}{e:Nat}{a5:List (Nat×Nat)}{a6:Option IntKind}{a7 a8:Bool}{a9 a10:Option (Nat×Nat)}:kLen1 (some ⟨a1,a2,a3,some e,a5,a6,a7,a8,a9,a10⟩) ro (.imm cs)=some ⟨i64 cs.length,none,[],[]⟩:=by simp[kLen1]
theorem pn1: ¬((0:Nat):Int)+((1:Nat):Int)<0:=by decide
theorem pn2: ¬((1:Nat):Int)+0<0:=by decide
theorem pn3: ¬((1:Nat):Int)+((1:Nat):Int)<0:=by decide
theorem oneL:(1:Nat)≤4294967296:=by decide
theorem sConc{S g:Nat}{xs:List AV}{l2:AV}{ys:List AV}{ro0:Ro}{gn0:Nat→Nat}(hro:ro0 S g=some (.row [.imm [.imm xs],l2]))(hS:S≠40976)(h2:(l2=nilA∧ys=[])∨ ∃y,l2= .imm [.imm y]∧ys=[.imm y]):
  InS Tryz.prog 94 [.ref S g [] 0 2] ro0 gn0 (fun r ro' gn'=>r= .ref 40976 (gn' 40976) [] 0 (1+ys.length)∧ro' 40976 (gn' 40976)=some (.row (.imm xs::ys))∧gn0 40976<gn' 40976∧Frx [40976] (fun _ _=>False) ro0 gn0 ro' gn'):=by
 have hr0:=hro
 have l1:ys.length≤1:=by rcases h2 with⟨-, rfl⟩|⟨y, -, rfl⟩<;>exact Nat.le_of_ble_eq_true rfl
 refine in_ofS (fn:=Tryz.f94) (code:=bodyOf Tryz.f94) Tryz.func94 rfl (by kernel_rfl) ?_
 intro sl hs
 have s0:sl 0= .ref S g [] 0 2:=hs 0
 dsimp only[Tryz.f94,bodyOf,Option.getD]
 simp(maxSteps:=10000000) (disch:=first|assumption|omega) only[go_sem, ↓reduceIte,Nat.reduceEqDiff,reduceCtorEq,Nat.reduceAdd,Nat.reduceMul,Nat.reduceLeDiff,zc,Int.reduceToNat,s0,hro]
 refine WK_for (fun i st=>st.sl 0= .ref S g [] 0 2∧st.sl 9= .ref S g [] 0 2∧st.sl 10=i64 (2:Nat)∧st.sl 11=i64 (i:Int)∧st.sl 3=i64 (szC ys.length i:Nat)∧(Frx [40976] (fun _ _=>False) ro0 gn0 st.ro st.gn)) 2 ?_ ?_ ?_
 ·refine Yai ?_
  exact⟨rfl,rfl,Frx.refl _ _ _ _⟩
 ·rintro i sl ro gn hi ⟨s0,s9,s10,s11,s3,hF⟩
  dsimp only at s0 s9 s10 s11 s3
  have hi':(i:Int)<(2:Nat):=by omega
  dsimp only at hF
  have hr:=((hF.off S (by simpa using hS)).1▸hro:ro S g=_)
  rcases(show i=0∨i=1 by omega)with rfl|rfl
  ·simp(maxSteps:=10000000) (disch:=first|assumption|omega) only[go_sem, ↓reduceIte,Nat.reduceEqDiff,reduceCtorEq,Nat.reduceAdd,Nat.reduceMul,Nat.reduceLeDiff,zc,Int.reduceToNat,s0,s9,s10,s11,s3,hi',hi,hr,kLen_imm,szC0,List.length_singleton,pn1]
   exact⟨rfl,rfl,hF⟩
  ·rcases h2 with⟨rfl,rfl⟩|⟨y,rfl,rfl⟩
   ·simp(maxSteps:=10000000) (disch:=first|assumption|omega) only[go_sem, ↓reduceIte,Nat.reduceEqDiff,reduceCtorEq,Nat.reduceAdd,Nat.reduceMul,Nat.reduceLeDiff,zc,Int.reduceToNat,s0,s9,s10,s11,s3,hi',hi,hr,szC1,pn2]
    exact⟨rfl,rfl,hF⟩
   ·simp(maxSteps:=10000000) (disch:=first|assumption|omega) only[go_sem, ↓reduceIte,Nat.reduceEqDiff,reduceCtorEq,Nat.reduceAdd,Nat.reduceMul,Nat.reduceLeDiff,zc,Int.reduceToNat,s0,s9,s10,s11,s3,hi',hi,hr,kLen_imm,szC1,pn3,List.length_singleton]
    exact⟨rfl,rfl,hF⟩
 ·rintro sl ro gn ⟨s0,s9,s10,s11,s3,hF⟩
  dsimp only at s0 s9 s10 s11 s3
  have hi': ¬((2:Nat):Int)<(2:Nat):=by omega
  dsimp only at hF
  have hr2:=((hF.off S (by simpa using hS)).1▸hro:ro S g=_)
  simp(maxSteps:=10000000) (disch:=first|assumption|omega) only[go_sem, ↓reduceIte,Nat.reduceEqDiff,reduceCtorEq,Nat.reduceAdd,Nat.reduceMul,Nat.reduceLeDiff,zc,Int.reduceToNat,s0,s9,s10,s11,s3,hi']
  refine CLL_pure _ (cGrowL (n:=szC ys.length 2) (by rw[szC2];omega) (by rw[szC2];omega)) PUt rfl rfl ?_
  simp(maxSteps:=10000000) (disch:=first|assumption|omega) only[go_sem, ↓reduceIte,Nat.reduceEqDiff,reduceCtorEq,Nat.reduceAdd,Nat.reduceMul,Nat.reduceLeDiff,zc,Int.reduceToNat,s0,s9,s10,s11,s3,hi',impE_row,List.length_nil,hS,hr2]
  refine WK_for (fun i st=>st.sl 25= .ref S g [] 0 2∧st.sl 26=i64 (2:Nat)∧st.sl 27=i64 (i:Int)∧st.sl 6= .ref 40976 (st.gn 40976) [] 0 (prC (.imm xs) ys i).length∧(Frx [40976] (fun _ _=>False) ro0 gn0 st.ro st.gn)∧(gn0 40976<st.gn 40976)∧(st.ro 40976 (st.gn 40976)=some (.row (prC (.imm xs) ys i)))) 2 ?_ ?_ ?_
  ·simp only[↓za, ↓reduceIte,Nat.reduceEqDiff,zb,reduceCtorEq,rws_zero,s0,s9,s10,s11,s3,hi']
   have u4:=hF.up 40976
   exact⟨rfl,rfl,KFt,by omega,rfl⟩
  ·rintro i sl ro gn hi ⟨s25,s26,s27,s6,hF,hl,hR⟩
   dsimp only at s25 s26 s27 s6
   have hi':(i:Int)<(2:Nat):=by omega
   dsimp only at hF hl hR
   have hr:=((hF.off S (by simpa using hS)).1▸hro:ro S g=_)
   rcases(show i=0∨i=1 by omega)with rfl|rfl
   ·simp(maxSteps:=10000000) (disch:=first|assumption|omega) only[go_sem, ↓reduceIte,Nat.reduceEqDiff,reduceCtorEq,Nat.reduceAdd,Nat.reduceMul,Nat.reduceLeDiff,zc,Int.reduceToNat,s25,s26,s27,s6,hi',hi,hr,prC0,hR,List.length_nil,oneL]
    exact⟨rfl,rfl,KFt,rfl⟩
   ·rcases h2 with⟨rfl,rfl⟩|⟨y,rfl,rfl⟩
    ·simp(maxSteps:=10000000) (disch:=first|assumption|omega) only[go_sem, ↓reduceIte,Nat.reduceEqDiff,reduceCtorEq,Nat.reduceAdd,Nat.reduceMul,Nat.reduceLeDiff,zc,Int.reduceToNat,s25,s26,s27,s6,hi',hi,hr,prC1,hR,List.length_singleton,show isNilV (Value.slice none 0 0)=true from rfl]
     exact⟨rfl,rfl,KFt,rfl⟩
    ·simp(maxSteps:=10000000) (disch:=first|assumption|omega) only[go_sem, ↓reduceIte,Nat.reduceEqDiff,reduceCtorEq,Nat.reduceAdd,Nat.reduceMul,Nat.reduceLeDiff,zc,Int.reduceToNat,s25,s26,s27,s6,hi',hi,hr,prC1,hR,List.length_singleton]
     exact⟨rfl,rfl,KFt,rfl⟩
  ·rintro sl ro gn ⟨s25,s26,s27,s6,hF,hl,hR⟩
   dsimp only at s25 s26 s27 s6
   have hi': ¬((2:Nat):Int)<(2:Nat):=by omega
   dsimp only at hF hl hR
   simp(maxSteps:=10000000) (disch:=first|assumption|omega) only[go_sem, ↓reduceIte,Nat.reduceEqDiff,reduceCtorEq,Nat.reduceAdd,Nat.reduceMul,Nat.reduceLeDiff,zc,Int.reduceToNat,s25,s26,s27,s6,hi']
   exact RETS_1 (.ref 40976 (gn 40976) [] 0 (1+ys.length)) (by simp only[↓za, ↓reduceIte,Nat.reduceEqDiff,zb,reduceCtorEq,prC2,List.length_cons,Nat.add_comm]) ⟨rfl,hR,hl,hF⟩
section
variable{T:List (List (List Int))}{x y:List Int}{c:AV}
theorem k1I{ro:Ro}{z:AV}{a1:Nat}{a2:Bool}{a3:List Value}{e:Nat}{a5:List (Nat×Nat)}{a6:Option IntKind}{a7 a8:Bool}{a9 a10:Option (Nat×Nat)}:kIdx (some ⟨a1,a2,a3,some e,a5,a6,a7,a8,a9,a10⟩) ro (.imm [z]) (i64 ((0:Nat):Int))=some ⟨.iptr [z],none,[],[]⟩:=by simp[kIdx]
theorem k1L{ro:Ro}{z:AV}{a1:Nat}{a2:Bool}{a3:List Value}{e:Nat}{a5:List (Nat×Nat)}{a6:Option IntKind}{a7 a8:Bool}{a9 a10:Option (Nat×Nat)}:kLen1 (some ⟨a1,a2,a3,some e,a5,a6,a7,a8,a9,a10⟩) ro (.imm [z])=some ⟨i64 (1:Nat),none,[],[]⟩:=by simp[kLen1]
set_option maxHeartbeats 4000000 in
theorem cCc1(hc:isLLL c T)(hz:SzP T)(hR:RngP T)(hC:CmP T)(hL:LC T x)(hx:chP T x):CallOK Tryz.prog 51 [.agg [c],.imm [.imm (x.map i64)],nilA] (i64 0):=by
 have lx:x.length≤maxN:=by rw[hL.1];exact Nat.le_trans hR.1.2.1 (by decide)
 have c1:=cCodeI hc hz (z:=0) (.inl ⟨hR,hC,rfl⟩)
 have c2:=cIsLC hc (isL_imm x) lx (t:=true) ⟨fun _=>hL,fun _=>rfl⟩
 have c3:=cIsCh hc hR.1 (isL_imm x) hL.1 (NL_numL hL.2) (t:=true) ⟨fun _=>hx,fun _=>rfl⟩
 refine call_of (fn:=Tryz.f51) (code:=bodyOf Tryz.f51) Tryz.func51 rfl (by kernel_rfl) (rfl) ?_
 intro sl hs
 have s0:sl 0= .agg [c]:=hs 0
 have s1:sl 1= .imm [.imm (x.map i64)]:=hs 1
 have s2:sl 2=nilA:=hs 2
 dsimp only[Tryz.f51,bodyOf,Option.getD]
 refine Yag ?_
 refine CLL_pure _ c1 PUt rfl rfl ?_
 refine Yag ?_
 refine CLL_inS rfl (sConc (xs:=x.map i64) (ys:=[]) (l2:=nilA) (by first|exact rfl|(simp only[↓za, ↓reduceIte,Nat.reduceEqDiff,zb,reduceCtorEq])) (by decide) (.inl ⟨rfl,rfl⟩)) ?_
 rintro _ ro1 gn1 ⟨rfl,h1, -, h3⟩
 have r4:ro1 4096 1=some (.bx [c]):=by rw[(h3.off 4096 (by decide)).1];simp only[↓za, ↓reduceIte,Nat.reduceEqDiff,zb,reduceCtorEq]
 clear h3
 generalize gn1 40976=u at h1
 simp(maxSteps:=10000000) (disch:=first|assumption|omega) only[go_sem, ↓reduceIte,Nat.reduceEqDiff,reduceCtorEq,Nat.reduceAdd,Nat.reduceMul,Nat.reduceLeDiff,zc,Int.reduceToNat,s0,s1,s2,h1,List.length_nil,Nat.add_zero]
 refine WK_for (fun i st=>st.sl 1= .imm [.imm (x.map i64)]∧st.sl 3= .ptr 4096 1 [] 0∧st.ro 4096 1=some (.bx [c])∧st.ro 40976 u=some (.row [.imm (x.map i64)])∧st.sl 20= .ref 40976 u [] 0 1∧st.sl 21=i64 (1:Nat)∧st.sl 22=i64 (i:Int)) 1 ?_ ?_ ?_
 ·refine Ybg ?_
  exact⟨r4,h1,rfl⟩
 ·rintro i sl ro gn hi ⟨s1,s3,r4096,r40976,s20,s21,s22⟩
  dsimp only at s1 s3 r4096 r40976 s20 s21 s22
  have hi':(i:Int)<(1:Nat):=by omega
  obtain rfl:i=0:=by omega
  refine Ybv ?_
  refine CLL_pure _ c2 PUt rfl rfl ?_
  refine Ybx ?_
  exact rfl
 ·rintro sl ro gn ⟨s1,s3,r4096,r40976,s20,s21,s22⟩
  dsimp only at s1 s3 r4096 r40976 s20 s21 s22
  have hi': ¬((1:Nat):Int)<(1:Nat):=by omega
  refine Ydz ?_
  refine WK_for (fun i st=>st.sl 1= .imm [.imm (x.map i64)]∧st.sl 3= .ptr 4096 1 [] 0∧st.ro 4096 1=some (.bx [c])∧st.sl 31= .imm [.imm (x.map i64)]∧st.sl 32=i64 (1:Nat)∧st.sl 33=i64 (i:Int)) 1 ?_ ?_ ?_
  ·simp only[↓za, ↓reduceIte,Nat.reduceEqDiff,zb,reduceCtorEq,rws_zero,s1,s3,r4096,r40976,s20,s21,s22,hi']
   exact rfl
  ·rintro i sl ro gn hi ⟨s1,s3,r4096,s31,s32,s33⟩
   dsimp only at s1 s3 r4096 s31 s32 s33
   have hi':(i:Int)<(1:Nat):=by omega
   obtain rfl:i=0:=by omega
   refine Ydp ?_
   refine CLL_pure _ c3 PUt rfl rfl ?_
   refine Yer ?_
   exact rfl
  ·rintro sl ro gn ⟨s1,s3,r4096,s31,s32,s33⟩
   dsimp only at s1 s3 r4096 s31 s32 s33
   have hi': ¬((1:Nat):Int)<(1:Nat):=by omega
   refine Yep ?_
   exact Yaa
set_option maxHeartbeats 4000000 in
theorem cCc2(hc:isLLL c T)(hz:SzP T)(hR:RngP T)(hC:CmP T)(hL:LC T x)(hx:chP T x)(hy:LC T y):CallOK Tryz.prog 51 [.agg [c],.imm [.imm (x.map i64)],.imm [.imm (y.map i64)]] (i64 0):=by
 have lx:x.length≤maxN:=by rw[hL.1];exact Nat.le_trans hR.1.2.1 (by decide)
 have ly:y.length≤maxN:=by rw[hy.1];exact Nat.le_trans hR.1.2.1 (by decide)
 have c1:=cCodeI hc hz (z:=0) (.inl ⟨hR,hC,rfl⟩)
 have c2:=cIsLC hc (isL_imm x) lx (t:=true) ⟨fun _=>hL,fun _=>rfl⟩
 have c2y:=cIsLC hc (isL_imm y) ly (t:=true) ⟨fun _=>hy,fun _=>rfl⟩
 have c3:=cIsCh hc hR.1 (isL_imm x) hL.1 (NL_numL hL.2) (t:=true) ⟨fun _=>hx,fun _=>rfl⟩
 refine call_of (fn:=Tryz.f51) (code:=bodyOf Tryz.f51) Tryz.func51 rfl (by kernel_rfl) (rfl) ?_
 intro sl hs
 have s0:sl 0= .agg [c]:=hs 0
 have s1:sl 1= .imm [.imm (x.map i64)]:=hs 1
 have s2:sl 2= .imm [.imm (y.map i64)]:=hs 2
 dsimp only[Tryz.f51,bodyOf,Option.getD]
 refine Yag ?_
 refine CLL_pure _ c1 PUt rfl rfl ?_
 refine Yag ?_
 refine CLL_inS rfl (sConc (xs:=x.map i64) (ys:=[.imm (y.map i64)]) (l2:= .imm [.imm (y.map i64)]) (by first|exact rfl|(simp only[↓za, ↓reduceIte,Nat.reduceEqDiff,zb,reduceCtorEq])) (by decide) (.inr ⟨_,rfl,rfl⟩)) ?_
 rintro _ ro1 gn1 ⟨rfl,h1, -, h3⟩
 have r4:ro1 4096 1=some (.bx [c]):=by rw[(h3.off 4096 (by decide)).1];simp only[↓za, ↓reduceIte,Nat.reduceEqDiff,zb,reduceCtorEq]
 clear h3
 generalize gn1 40976=u at h1
 simp(maxSteps:=10000000) (disch:=first|assumption|omega) only[go_sem, ↓reduceIte,Nat.reduceEqDiff,reduceCtorEq,Nat.reduceAdd,Nat.reduceMul,Nat.reduceLeDiff,zc,Int.reduceToNat,s0,s1,s2,h1,List.length_singleton,Nat.reduceAdd]
 refine WK_for (fun i st=>st.sl 1= .imm [.imm (x.map i64)]∧st.sl 3= .ptr 4096 1 [] 0∧st.ro 4096 1=some (.bx [c])∧st.ro 40976 u=some (.row [.imm (x.map i64),.imm (y.map i64)])∧st.sl 20= .ref 40976 u [] 0 2∧st.sl 21=i64 (2:Nat)∧st.sl 22=i64 (i:Int)) 2 ?_ ?_ ?_
 ·refine Ybg ?_
  exact⟨r4,h1,rfl⟩
 ·rintro i sl ro gn hi ⟨s1,s3,r4096,r40976,s20,s21,s22⟩
  dsimp only at s1 s3 r4096 r40976 s20 s21 s22
  have hi':(i:Int)<(2:Nat):=by omega
  rcases(show i=0∨i=1 by omega)with rfl|rfl
  ·refine Ybv ?_
   refine CLL_pure _ c2 PUt rfl rfl ?_
   refine Ybx ?_
   exact rfl
  ·refine Ybv ?_
   refine CLL_pure _ c2y PUt rfl rfl ?_
   refine Ybx ?_
   exact rfl
 ·rintro sl ro gn ⟨s1,s3,r4096,r40976,s20,s21,s22⟩
  dsimp only at s1 s3 r4096 r40976 s20 s21 s22
  have hi': ¬((2:Nat):Int)<(2:Nat):=by omega
  refine Ydz ?_
  refine WK_for (fun i st=>st.sl 1= .imm [.imm (x.map i64)]∧st.sl 3= .ptr 4096 1 [] 0∧st.ro 4096 1=some (.bx [c])∧st.sl 31= .imm [.imm (x.map i64)]∧st.sl 32=i64 (1:Nat)∧st.sl 33=i64 (i:Int)) 1 ?_ ?_ ?_
  ·simp only[↓za, ↓reduceIte,Nat.reduceEqDiff,zb,reduceCtorEq,rws_zero,s1,s3,r4096,r40976,s20,s21,s22,hi']
   exact rfl
  ·rintro i sl ro gn hi ⟨s1,s3,r4096,s31,s32,s33⟩
   dsimp only at s1 s3 r4096 s31 s32 s33
   have hi':(i:Int)<(1:Nat):=by omega
   obtain rfl:i=0:=by omega
   refine Ydp ?_
   refine CLL_pure _ c3 PUt rfl rfl ?_
   refine Yer ?_
   exact rfl
  ·rintro sl ro gn ⟨s1,s3,r4096,s31,s32,s33⟩
   dsimp only at s1 s3 r4096 s31 s32 s33
   have hi': ¬((1:Nat):Int)<(1:Nat):=by omega
   refine Yep ?_
   exact Yaa
end
theorem sm_inv{f:Nat→Int}{d:Nat→Nat}{n:Nat}(h1: ∀k,k<n→d k<n)(h2: ∀k,k<n→d (d k)=k):sm (fun k=>f (d k)) n=sm f n:=by
 have e1:sm (fun k=>f (d k)) n=sm (fun k=>sm (fun l=>if l=d k then f (d k)else 0) n) n:=sm_congr fun k hk=>(sm_pick (h1 k hk) fun _ _=>rfl).symm
 rw[e1,sm_comm]
 refine sm_congr fun l hl=>?_
 refine sm_pick (h1 l hl) fun k hk=>?_
 by_cases h:k=d l
 ·rw[if_pos h,h,h2 l hl,if_pos rfl]
 ·rw[if_neg h,if_neg (fun e=>h (by rw[e,h2 k hk]))]
section
variable{T:List (List (List Int))}
theorem rg_turn(hR:RngP T){i j k:Nat}(hi:i<T.length)(hj:j<T.length)(hk:k<T.length):at3 T i j k=at3 T (dd T i) k j∧at3 T i j k=at3 T k (dd T j) i:=by
 have h:=fnd_none.1 (fnd_none.1 (fnd_none.1 (RF_none hR.2).2.2.1 i hi) j hj) k hk
 unfold p3 at h
 split at h
 ·rename_i e;exact e
 ·cases h
theorem rg_inv(hR:RngP T){i:Nat}(hi:i<T.length):dd T (dd T i)=i:=by
 have h:=fnd_none.1 (RF_none hR.2).2.1 i hi
 unfold p2 at h
 split at h
 ·cases h
 ·rename_i e
  have e2:dlT T (dd T i)=i:=Classical.not_not.1 fun h=>e (.inr h)
  unfold dd at e2 ⊢
  rw[e2]
  exact Int.toNat_natCast i
theorem rg_un(hR:RngP T){i k:Nat}(hi:i<T.length)(hk:k<T.length):at3 T 0 i k=dlt i k:=by
 have h:=fnd_none.1 (fnd_none.1 (RF_none hR.2).1 i hi) k hk
 unfold p1 at h
 split at h
 ·rename_i e;exact e.1
 ·cases h
theorem rg_cm(hC:CmP T){i j k:Nat}(hi:i<T.length)(hj:j<T.length):at3 T i j k=at3 T j i k:=by
 have h:row (mat T i) j=row (mat T j) i:=by
  rcases Nat.lt_trichotomy i j with h|h|h
  ·exact(hC j hj i h).symm
  ·rw[h]
  ·exact hC i hi j h
 unfold at3
 rw[h]
theorem dd_zero(hR:RngP T):dd T 0=0:=by
 have h0:0<T.length:=hR.1.1
 have e:dlT T 0=(0:Nat):=by
  unfold dlT
  refine du_is ⟨h0,?_,fun k hk hne=>?_⟩
  ·show at3 T 0 0 0=1
   rw[rg_un hR h0 h0];rfl
  ·show at3 T 0 k 0=0
   rw[rg_un hR hk h0]
   exact if_neg hne
 unfold dd
 rw[e]
 rfl
theorem rg_dual(hR:RngP T)(hC:CmP T){i j k:Nat}(hi:i<T.length)(hj:j<T.length)(hk:k<T.length):at3 T (dd T i) (dd T j) (dd T k)=at3 T i j k:=by
 have di:=(dd_ok hR hi).2
 have dj:=(dd_ok hR hj).2
 have dk:=(dd_ok hR hk).2
 rw[(rg_turn hR di dj dk).1,rg_inv hR hi,(rg_turn hR hi dk dj).2,rg_inv hR hk,(rg_turn hR dj hk hi).1,rg_inv hR hj]
 exact rg_cm hC hj hi
noncomputable def dlC(T:List (List (List Int)))(x:List Int):List Int:=rws (fun i=>atI x (dd T i)) T.length
theorem dlC_ch(hR:RngP T)(hC:CmP T){x:List Int}(h:chP T x):chP T (dlC T x):=by
 have h0:0<T.length:=hR.1.1
 refine⟨fun i hi j hj=>?_,?_⟩
 ·have di:=(dd_ok hR hi).2
  have dj:=(dd_ok hR hj).2
  have e:=h.1 _ di _ dj
  unfold chE1 dlC at*
  rw[atI_rws _ hi,atI_rws _ hj, ←e, ←sm_inv (f:=fun k=>at3 T (dd T i) (dd T j) k*atI x k) (d:=dd T) (fun k hk=>(dd_ok hR hk).2) (fun k hk=>rg_inv hR hk)]
  congr 1
  exact sm_congr fun k hk=>by rw[atI_rws _ hk,rg_dual hR hC hi hj hk]
 ·unfold dlC
  rw[atI_rws _ h0,dd_zero hR]
  exact h.2
theorem num_dlC{x:List Int}(nx:numL x):numL (dlC T x):=fun j=>by
 unfold dlC
 by_cases hj:j<T.length
 ·rw[atI_rws _ hj];exact nx _
 ·rw[atI_out (by rw[zfe];omega)];unfold num;decide
theorem len_dlC(x:List Int):(dlC T x).length=T.length:=zfe _ _
theorem val_mul{x:List Int}(h:chP T x){u v w:Nat→Int}(hw: ∀k,k<T.length→MM (w k) (sm (fun i=>sm (fun j=>u i*v j*at3 T i j k) T.length) T.length)):
  MM (sm (fun k=>atI x k*w k) T.length) (sm (fun i=>atI x i*u i) T.length*sm (fun j=>atI x j*v j) T.length):=by
 have e1:MM (sm (fun k=>atI x k*w k) T.length) (sm (fun k=>sm (fun i=>sm (fun j=>u i*v j*(at3 T i j k*atI x k)) T.length) T.length) T.length):=by
  refine sm_MM fun k hk=>(MM.rfl.mul (hw k hk)).trans (MM.of_eq ?_)
  rw[Int.mul_comm,sm_mul]
  refine sm_congr fun i _=>?_
  rw[sm_mul]
  exact sm_congr fun j _=>by rw[Int.mul_assoc]
 refine e1.trans ?_
 rw[sm_comm]
 have e2:sm (fun i=>atI x i*u i) T.length*sm (fun j=>atI x j*v j) T.length=sm (fun i=>sm (fun j=>u i*v j*(atI x i*atI x j)) T.length) T.length:=by
  rw[sm_mul]
  refine sm_congr fun i _=>?_
  rw[Int.mul_comm,sm_mul]
  refine sm_congr fun j _=>?_
  ac_rfl
 rw[e2]
 refine sm_MM fun i hi=>?_
 have e3:sm (fun k=>sm (fun j=>u i*v j*(at3 T i j k*atI x k)) T.length) T.length=sm (fun j=>u i*v j*sm (fun k=>at3 T i j k*atI x k) T.length) T.length:=by
  rw[sm_comm]
  exact sm_congr fun j _=>by
   rw[Int.mul_comm (u i*v j),sm_mul]
   exact sm_congr fun k _=>Int.mul_comm _ _
 rw[e3]
 exact sm_MM fun j hj=>MM.rfl.mul (h.1 i hi j hj)
end
section
variable{T:List (List (List Int))}{x y:List Int}{c:AV}
theorem imp_tL{b:Nat}{gn:Nat→Nat}{X:List Int}{v:Value}:impE b gn (.tup [rowL X,.sc v])=⟨.tup [.ref b (gn b+1) [] 0 X.length,.sc v],none,[],[(b,rowL X)]⟩:=by
 show (⟨.tup [.ref b (gn b+1) [] 0 (X.map i64).length,.sc v],none,[],[(b,.row (X.map i64))]⟩:Eff)=_
 rw[List.length_map]
theorem noI_tL1(X:List Int)(v:Value):noI (.tup [rowL X,.sc v])=true:=by
 have h:=noI_rowL X
 show (noI (rowL X)&&(noI (.sc v)&&true))=true
 rw[h];rfl
theorem cDuC(hc:isLLL c T)(hz:SzP T)(hR:RngP T)(hC:CmP T)(hL:LC T x)(hx:chP T x):CallOK Tryz.prog 17 [.agg [c],.imm (x.map i64)] (.tup [rowL (dlC T x),i64 0]):=by
 obtain⟨t1,t16,hcu⟩:=id hR.1
 have c1:=cCc1 hc hz hR hC hL hx
 have cd:=cDualsI hc hR.1
 rw[duals_nat hR]at cd
 have ct:=cTurnL (d:=dd T) (isL_imm (rws (fun i=>((dd T i:Nat):Int)) T.length)) (isL_imm x) (by omega) (fun i hi=>by rw[hL.1];exact(dd_ok hR hi).2)
 have hl2:(rws (fun i=>((dd T i:Nat):Int)) T.length).length=T.length:=zfe _ _
 have hl3:(rws (fun i=>atI x (dd T i)) T.length).length=T.length:=zfe _ _
 unfold dlC
 refine call_of (fn:=Tryz.f17) (code:=bodyOf Tryz.f17) Tryz.func17 rfl (by kernel_rfl) (noRef_tL _ _) ?_
 intro sl hs
 have s0:sl 0= .agg [c]:=hs 0
 have s1:sl 1= .imm (x.map i64):=hs 1
 dsimp only[Tryz.f17,bodyOf,Option.getD]
 refine Yaf ?_
 refine CLL_q _ c1 (.cons (exq_agg (n:=7) (.cons (exq_LLL hc (by decide)) .nil)) (.cons (exq_one (xs:=x) (by first|exact rfl|(simp only[↓za, ↓reduceIte,Nat.reduceEqDiff,zb,reduceCtorEq])) (by decide)) (.cons (exq_sc _ _ _ (by decide)) .nil))) rfl rfl rfl ?_
 refine Yaf ?_
 refine CLL_pure _ cd PUt rfl rfl ?_
 simp(maxSteps:=10000000) (disch:=first|assumption|omega) only[go_sem, ↓reduceIte,Nat.reduceEqDiff,reduceCtorEq,Nat.reduceAdd,Nat.reduceMul,Nat.reduceLeDiff,zc,Int.reduceToNat,s0,s1,impE_row,List.length_map,hl2]
 refine CLL_q _ ct (.cons (exq_refL (xs:=rws (fun i=>((dd T i:Nat):Int)) T.length) Ur hl2.symm (by decide)) (.cons (exq_L (isL_imm x) (by decide)) .nil)) rfl rfl (noI_rowL _) ?_
 simp(maxSteps:=10000000) (disch:=first|assumption|omega) only[go_sem, ↓reduceIte,Nat.reduceEqDiff,reduceCtorEq,Nat.reduceAdd,Nat.reduceMul,Nat.reduceLeDiff,zc,Int.reduceToNat,s0,s1,impE_row,List.length_map,hl3]
 exact Yaa
def vlC(x y:List Int):Int:=sm (fun j=>atI x j*atI y j) x.length % 55441
theorem cVlC(hc:isLLL c T)(hz:SzP T)(hR:RngP T)(hC:CmP T)(hL:LC T x)(hx:chP T x)(hy:LC T y):CallOK Tryz.prog 18 [.agg [c],.imm (x.map i64),.imm (y.map i64)] (.tup [i64 (vlC x y),i64 0]):=by
 have lx:x.length≤maxN:=by rw[hL.1];exact Nat.le_trans hR.1.2.1 (by decide)
 have c1:=cCc2 hc hz hR hC hL hx hy
 have cdot:=c119 (isL_imm x) (isL_imm y) lx (by rw[hL.1,hy.1];exact Nat.le_refl _) (NL_numL hL.2) (NL_numL hy.2)
 unfold vlC
 refine call_of (fn:=Tryz.f18) (code:=bodyOf Tryz.f18) Tryz.func18 rfl (by kernel_rfl) (rfl) ?_
 intro sl hs
 have s0:sl 0= .agg [c]:=hs 0
 have s1:sl 1= .imm (x.map i64):=hs 1
 have s2:sl 2= .imm (y.map i64):=hs 2
 dsimp only[Tryz.f18,bodyOf,Option.getD]
 refine Yag ?_
 refine CLL_q _ c1 (.cons (exq_agg (n:=7) (.cons (exq_LLL hc (by decide)) .nil)) (.cons (exq_one (xs:=x) (by first|exact rfl|(simp only[↓za, ↓reduceIte,Nat.reduceEqDiff,zb,reduceCtorEq])) (by decide)) (.cons (exq_one (xs:=y) (by first|exact rfl|(simp only[↓za, ↓reduceIte,Nat.reduceEqDiff,zb,reduceCtorEq])) (by decide)) .nil))) rfl rfl rfl ?_
 refine Yag ?_
 refine CLL_pure _ cdot PUt rfl rfl ?_
 refine Yao ?_
 exact Yaa
theorem cSp0(hc:isLLL c T)(hR:RngP T)(hC:CmP T):CallOK Tryz.prog 10 [.agg [c]] (.tup [bo (decide ((chsI T).length=T.length)),i64 0]):=by
 have c1:=cChI0 hc hR hC
 by_cases h:(chsI T).length=T.length
 ·have h':((chsI T).length:Int)=T.length:=by omega
  rw[decide_eq_true h]
  refine call_of (fn:=Tryz.f10) (code:=bodyOf Tryz.f10) Tryz.func10 rfl (by kernel_rfl) (rfl) ?_
  intro sl hs
  have s0:sl 0= .agg [c]:=hs 0
  dsimp only[Tryz.f10,bodyOf,Option.getD]
  refine Yad ?_
  refine CLL_pure _ c1 PUt rfl rfl ?_
  simp(maxSteps:=10000000) (disch:=first|assumption|omega) only[go_sem, ↓reduceIte,Nat.reduceEqDiff,reduceCtorEq,Nat.reduceAdd,Nat.reduceMul,Nat.reduceLeDiff,zc,Int.reduceToNat,s0,imp_tLL,isLLL_len hc,ti33,ti31,eq_true h']
  exact Yaa
 ·have h': ¬((chsI T).length:Int)=T.length:=by omega
  rw[decide_eq_false h]
  refine call_of (fn:=Tryz.f10) (code:=bodyOf Tryz.f10) Tryz.func10 rfl (by kernel_rfl) (rfl) ?_
  intro sl hs
  have s0:sl 0= .agg [c]:=hs 0
  dsimp only[Tryz.f10,bodyOf,Option.getD]
  refine Yad ?_
  refine CLL_pure _ c1 PUt rfl rfl ?_
  simp(maxSteps:=10000000) (disch:=first|assumption|omega) only[go_sem, ↓reduceIte,Nat.reduceEqDiff,reduceCtorEq,Nat.reduceAdd,Nat.reduceMul,Nat.reduceLeDiff,zc,Int.reduceToNat,s0,imp_tLL,isLLL_len hc,ti33,ti31,eq_false h']
  exact Yaa
theorem cSpz(hc:isLLL c T)(hs:SzP T){z:Int}(h:CodP T z)(hz:z≠0):CallOK Tryz.prog 10 [.agg [c]] (.tup [bo false,i64 z]):=by
 have c1:=cChI1 hc hs h hz
 refine call_of (fn:=Tryz.f10) (code:=bodyOf Tryz.f10) Tryz.func10 rfl (by kernel_rfl) (rfl) ?_
 intro sl hs
 have s0:sl 0= .agg [c]:=hs 0
 dsimp only[Tryz.f10,bodyOf,Option.getD]
 refine Yad ?_
 refine CLL_pure _ c1 PUt rfl rfl ?_
 simp(maxSteps:=10000000) (disch:=first|assumption|omega) only[go_sem, ↓reduceIte,Nat.reduceEqDiff,reduceCtorEq,Nat.reduceAdd,Nat.reduceMul,Nat.reduceLeDiff,zc,Int.reduceToNat,s0,imp_tN,eq_false hz]
 exact Yaa
end
end Go.Proofs.YtbakhfiibjkifaaGreat
