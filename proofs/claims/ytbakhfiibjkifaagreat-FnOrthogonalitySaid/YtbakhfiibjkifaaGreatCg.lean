/- Texts joined: Cj1c Cs5c Cs6 Cy1 Cy2 Cx0 Cx7 Cy3 Cm1 Cy4 Cn1 Cy6 Cy7 Cy8 Cy9. -/
import Derived.Shelf.Spec.SlicesGrow
import Derived.Test.YtbakhfiibjkifaaGreatMh
import Derived.Test.YtbakhfiibjkifaaGreatMg
import Derived.Test.YtbakhfiibjkifaaGreatOa
import Derived.Test.YtbakhfiibjkifaaGreatOb
import Derived.Test.YtbakhfiibjkifaaGreatCe
import Derived.Test.YtbakhfiibjkifaaGreatCf
set_option linter.all false
/- The codes of rings. -/
namespace Go.Proofs.YtbakhfiibjkifaaGreat
open Go.RowKit
set_option maxRecDepth 1000000
theorem cCodeI{c:AV}{T:List (List (List Int))}(ha:isLLL c T)(hz:SzP T){z:Int}(h:CodP T z):CallOK Tryz.prog 44 [.agg [c]] (i64 z):=by
 refine call_of (fn:=Tryz.f44) (code:=bodyOf Tryz.f44) Tryz.func44 rfl (by kernel_rfl) (rfl) ?_
 intro sl hs
 have s0:sl 0= .agg [c]:=hs 0
 rcases h with⟨hr,hm,rfl⟩|⟨hr,hm,rfl⟩|⟨hr,rfl⟩
 ·have c1:=cIsRing ha hz (t:=true) ⟨fun _=>hr,fun _=>rfl⟩
  have c2:=cCommI ha hr.1 (t:=true) ⟨fun _=>hm,fun _=>rfl⟩
  dsimp only[Tryz.f44,bodyOf,Option.getD]
  refine Yag ?_
  refine CLL_pure _ c1 PUt rfl rfl ?_
  refine Yac ?_
  refine CLL_pure _ c2 PUt rfl rfl ?_
  refine Yax ?_
  exact Yaa
 ·have c1:=cIsRing ha hz (t:=true) ⟨fun _=>hr,fun _=>rfl⟩
  have c2:=cCommI ha hr.1 (t:=false) ⟨fun h=>(nomatch h),fun h=>absurd h hm⟩
  dsimp only[Tryz.f44,bodyOf,Option.getD]
  refine Yag ?_
  refine CLL_pure _ c1 PUt rfl rfl ?_
  refine Yac ?_
  refine CLL_pure _ c2 PUt rfl rfl ?_
  refine Yax ?_
  exact Yaa
 ·have c1:=cIsRing ha hz (t:=false) ⟨fun h=>(nomatch h),fun h=>absurd h hr⟩
  dsimp only[Tryz.f44,bodyOf,Option.getD]
  refine Yag ?_
  refine CLL_pure _ c1 PUt rfl rfl ?_
  refine Yax ?_
  exact Yaa
theorem cCodeS{c:AV}{T:List (List (List Int))}(ha:isLLL c T){z:Int}(h:CodP T z):CallOK Tryz.prog 46 [.agg [c]] (i64 z):=by
 refine call_of (fn:=Tryz.f46) (code:=bodyOf Tryz.f46) Tryz.func46 rfl (by kernel_rfl) (rfl) ?_
 intro sl hs
 have s0:sl 0= .agg [c]:=hs 0
 rcases h with⟨hr,hm,rfl⟩|⟨hr,hm,rfl⟩|⟨hr,rfl⟩
 ·have c1:=cIsS ha (t:=true) ⟨fun _=>hr,fun _=>rfl⟩
  have c2:=cCommS ha hr.1 (t:=true) ⟨fun _=>hm,fun _=>rfl⟩
  dsimp only[Tryz.f46,bodyOf,Option.getD]
  refine Yag ?_
  refine CLL_pure _ c1 PUt rfl rfl ?_
  refine Yac ?_
  refine CLL_pure _ c2 PUt rfl rfl ?_
  refine Yax ?_
  exact Yaa
 ·have c1:=cIsS ha (t:=true) ⟨fun _=>hr,fun _=>rfl⟩
  have c2:=cCommS ha hr.1 (t:=false) ⟨fun h=>(nomatch h),fun h=>absurd h hm⟩
  dsimp only[Tryz.f46,bodyOf,Option.getD]
  refine Yag ?_
  refine CLL_pure _ c1 PUt rfl rfl ?_
  refine Yac ?_
  refine CLL_pure _ c2 PUt rfl rfl ?_
  refine Yax ?_
  exact Yaa
 ·have c1:=cIsS ha (t:=false) ⟨fun h=>(nomatch h),fun h=>absurd h hr⟩
  dsimp only[Tryz.f46,bodyOf,Option.getD]
  refine Yag ?_
  refine CLL_pure _ c1 PUt rfl rfl ?_
  refine Yax ?_
  exact Yaa
theorem cTurnL{a b:AV}{d:Nat→Nat}{x:List Int}{n:Nat}(ha:isL a (rws (fun i=>((d i:Nat):Int)) n))(hb:isL b x)(hn:n≤65536)(hd: ∀i,i<n→d i<x.length):CallOK Tryz.prog 52 [a,b] (rowL (rws (fun i=>atI x (d i)) n)):=by
 have hl:(rws (fun i=>((d i:Nat):Int)) n).length=n:=zfe _ _
 refine call_of (fn:=Tryz.f52) (code:=bodyOf Tryz.f52) Tryz.func52 rfl (by kernel_rfl) (noRef_rowL _) ?_
 intro sl hs
 have s0:sl 0=a:=hs 0
 have s1:sl 1=b:=hs 1
 dsimp only[Tryz.f52,bodyOf,Option.getD]
 simp(disch:=first|assumption|omega) only[go_sem, ↓reduceIte,Nat.reduceEqDiff,zc,s0,s1,isL_len ha,hl]
 refine WK_for (fun i st=>st.sl 1=b∧st.sl 9=a∧st.sl 10=i64 (n:Nat)∧st.sl 11=i64 (i:Int)∧st.sl 5= .ref 8192 (st.gn 8192) [] 0 i∧st.ro 8192 (st.gn 8192)=some (.row (rws (fun i=>i64 (atI x (d i))) i))) n ?_ ?_ ?_
 ·refine Yae ?_
  repeat' first|rfl|apply And.intro
 ·rintro i sl ro gn hi ⟨s1,s9,s10,s11,s5,r8192⟩
  dsimp only at s1 s9 s10 s11 s5 r8192
  have hi':(i:Int)<(n:Nat):=by omega
  have hi2:i+1≤4294967296:=by omega
  have hai:i<(rws (fun i=>((d i:Nat):Int)) n).length:=by omega
  have hdi:=hd i hi
  have ea:atI (rws (fun i=>((d i:Nat):Int)) n) i=(d i:Nat):=atI_rws _ hi
  simp(maxSteps:=10000000) (disch:=first|assumption|omega) only[go_sem, ↓reduceIte,Nat.reduceEqDiff,reduceCtorEq,Nat.reduceAdd,Nat.reduceMul,Nat.reduceLeDiff,zc,Int.reduceToNat,s1,s9,s10,s11,s5,r8192,hi',hi,isL_idx ha hai,ea,isL_idx hb hdi,hi2]
  exact i64c (by omega)
 ·rintro sl ro gn ⟨s1,s9,s10,s11,s5,r8192⟩
  dsimp only at s1 s9 s10 s11 s5 r8192
  have hi': ¬((n:Nat):Int)<(n:Nat):=by omega
  simp only[go_sem, ↓reduceIte,Nat.reduceEqDiff,zc,s1,s9,s10,s11,s5,r8192,hi']
  exact Ydc
theorem cPairI{c a:AV}{T:List (List (List Int))}{x:List Int}(hc:isLLL c T)(hR:RngP T)(ha:isL a x)(hl:x.length=T.length)(nx:numL x):CallOK Tryz.prog 58 [.agg [c],a,a] (i64 (cdg T x)):=by
 obtain⟨t1,t16,hcu⟩:=id hR.1
 have cd:=cDualsI hc hR.1
 rw[duals_nat hR]at cd
 have ct:=cTurnL (d:=dd T) (isL_imm (rws (fun i=>((dd T i:Nat):Int)) T.length)) ha (by omega) (fun i hi=>by rw[hl];exact(dd_ok hR hi).2)
 have hl2:(rws (fun i=>((dd T i:Nat):Int)) T.length).length=T.length:=zfe _ _
 have hl3:(rws (fun i=>atI x (dd T i)) T.length).length=T.length:=zfe _ _
 have cdot:=c119 ha (isL_imm (rws (fun i=>atI x (dd T i)) T.length)) (by rw[hl];unfold maxN;omega) (by rw[hl3,hl];exact Nat.le_refl _) nx (numL_rws _ _ fun i _=>nx _)
 have ec:sm (fun j=>atI x j*atI (rws (fun i=>atI x (dd T i)) T.length) j) x.length % 55441=cdg T x:=by
  unfold cdg
  rw[hl]
  exact congrArg (· % 55441) (sm_congr fun j hj=>by rw[atI_rws _ hj])
 rw[ec]at cdot
 refine call_of (fn:=Tryz.f58) (code:=bodyOf Tryz.f58) Tryz.func58 rfl (by kernel_rfl) (rfl) ?_
 intro sl hs
 have s0:sl 0= .agg [c]:=hs 0
 have s1:sl 1=a:=hs 1
 have s2:sl 2=a:=hs 2
 dsimp only[Tryz.f58,bodyOf,Option.getD]
 refine Yak ?_
 refine CLL_pure _ cd PUt rfl rfl ?_
 refine Yfb ?_
 refine CLL_q _ ct (.cons (exq_refL (xs:=rws (fun i=>((dd T i:Nat):Int)) T.length) Ur hl2.symm (by decide)) (.cons (exq_L ha (by decide)) .nil)) rfl rfl (noI_rowL _) ?_
 simp only[go_sem, ↓reduceIte,Nat.reduceEqDiff,zc,s0,s1,s2,impE_row,List.length_map,hl3]
 refine CLL_q _ cdot (.cons (exq_L ha (by decide)) (.cons (exq_refL (xs:=rws (fun i=>atI x (dd T i)) T.length) Ur hl3.symm (by decide)) .nil)) rfl rfl rfl ?_
 refine Yec ?_
 exact Yaa
theorem imp_tLL{b:Nat}{gn:Nat→Nat}{X:List (List Int)}{v:Value}:impE b gn (.tup [rowLL X,.sc v])=⟨.tup [.ref b (gn b+1) [] 0 X.length,.sc v],none,[],[(b,rowLL X)]⟩:=by
 show (⟨.tup [.ref b (gn b+1) [] 0 (X.map rowL).length,.sc v],none,[],[(b,.row (X.map rowL))]⟩:Eff)=_
 rw[List.length_map]
theorem noRef_tLL(X:List (List Int))(v:Value):noRef (.tup [rowLL X,.sc v])=true:=by
 have h:=noRef_rowLL X
 show (noRef (rowLL X)&&(noRef (.sc v)&&true))=true
 rw[h];rfl
theorem noI_tLL(X:List (List Int))(v:Value):noI (.tup [rowLL X,.sc v])=true:=by
 have h:=noI_rowLL X
 show (noI (rowLL X)&&(noI (.sc v)&&true))=true
 rw[h];rfl
section
variable{c:AV}{T:List (List (List Int))}
theorem cChI0(hc:isLLL c T)(hR:RngP T)(hm:CmP T):CallOK Tryz.prog 8 [.agg [c]] (.tup [rowLL (chsI T),i64 0]):=by
 have c1:=cCodeI hc hR.1.sz (z:=0) (.inl ⟨hR,hm,rfl⟩)
 have c2:CallOK Tryz.prog 45 [.agg [c]] (rowLL (chsI T)):=cChars hc hR.1
 refine call_of (fn:=Tryz.f8) (code:=bodyOf Tryz.f8) Tryz.func8 rfl (by kernel_rfl) (noRef_tLL _ _) ?_
 intro sl hs
 have s0:sl 0= .agg [c]:=hs 0
 dsimp only[Tryz.f8,bodyOf,Option.getD]
 simp(disch:=first|assumption|omega) only[go_sem, ↓reduceIte,Nat.reduceEqDiff,Nat.reduceAdd,zc,s0,ti33,ti31]
 refine CLL_pure _ c1 PUt rfl rfl ?_
 simp(disch:=first|assumption|omega) only[go_sem, ↓reduceIte,Nat.reduceEqDiff,Nat.reduceAdd,zc,s0]
 refine CLL_pure _ c2 PUt rfl rfl ?_
 simp only[go_sem, ↓reduceIte,Nat.reduceEqDiff,Nat.reduceAdd,zc,s0,rowLL,impE_row,List.length_map]
 exact Yaa
theorem cCdI0(hc:isLLL c T)(hR:RngP T)(hm:CmP T):CallOK Tryz.prog 28 [.agg [c]] (.tup [rowL ((chsI T).map (cdg T)),i64 0]):=by
 obtain⟨t1,t16,hcu⟩:=id hR.1
 have c1:=cChI0 hc hR hm
 have hfew:=chs_few hR.1
 refine call_of (fn:=Tryz.f28) (code:=bodyOf Tryz.f28) Tryz.func28 rfl (by kernel_rfl) (noRef_tL _ _) ?_
 intro sl hs
 have s0:sl 0= .agg [c]:=hs 0
 dsimp only[Tryz.f28,bodyOf,Option.getD]
 simp(disch:=first|assumption|omega) only[go_sem, ↓reduceIte,Nat.reduceEqDiff,Nat.reduceAdd,zc,s0,ti33,ti31]
 refine CLL_pure _ c1 PUt rfl rfl ?_
 simp(disch:=first|assumption|omega) only[go_sem, ↓reduceIte,Nat.reduceEqDiff,Nat.reduceAdd,Nat.reduceMul,zc,s0,imp_tLL,rowLL,List.length_map]
 refine WK_for (fun i st=>st.sl 1= .ptr 4096 1 [] 0∧st.ro 4096 1=some (.bx [c])∧st.sl 18= .ref 8208 1 [] 0 (chsI T).length∧st.ro 8208 1=some (rowLL (chsI T))∧st.sl 19=i64 ((chsI T).length:Nat)∧st.sl 20=i64 (i:Int)∧st.sl 6= .ref 20480 (st.gn 20480) [] 0 i∧st.ro 20480 (st.gn 20480)=some (rowL (((chsI T).take i).map (cdg T)))) ((chsI T).length) ?_ ?_ ?_
 ·refine Yad ?_
  repeat' first|rfl|apply And.intro
 ·rintro i sl ro gn hi ⟨s1,r4096,s18,r8208,s19,s20,s6,r20480⟩
  dsimp only at s1 r4096 s18 r8208 s19 s20 s6 r20480
  have hi':(i:Int)<((chsI T).length:Nat):=by omega
  obtain⟨x,hx,hxl,nx⟩:=ch_get hR.1 hi
  have hxr:((chsI T).map rowL)[i]?=some (.row (x.map i64)):=by rw[List.getElem?_map,hx];rfl
  have hi2:i+1≤4294967296:=by omega
  have cp:=cPairI hc hR (isL_imm x) hxl nx
  have htk:(((chsI T).take i).map (cdg T)).length=i:=by rw[List.length_map,List.length_take];omega
  have htt:((((chsI T).take i).map (cdg T)).map i64).take i=(((chsI T).take i).map (cdg T)).map i64:=List.take_of_length_le (by rw[List.length_map,htk];exact Nat.le_refl _)
  have et:((chsI T).take (i+1)).map (cdg T)=((chsI T).take i).map (cdg T)++ [cdg T x]:=by rw[List.take_add_one,hx,List.map_append];rfl
  rw[et]
  simp(disch:=first|assumption|omega) only[go_sem, ↓reduceIte,Nat.reduceEqDiff,Nat.reduceAdd,zc,s1,r4096,s18,r8208,s19,s20,s6,r20480,hi',hi,hxr,List.length_map,hxl]
  refine CLL_q _ cp (.cons (exq_agg (.cons (exq_LLL hc (by decide)) .nil)) (.cons (exq_rowX r8208 hx hxl.symm (by decide)) (.cons (exq_rowX r8208 hx hxl.symm (by decide)) .nil))) rfl rfl rfl ?_
  simp(disch:=first|assumption|omega) only[go_sem, ↓reduceIte,Nat.reduceEqDiff,Nat.reduceAdd,Nat.reduceMul,zc,s1,r4096,s18,r8208,s19,s20,s6,r20480,hi',hi,List.length_map,htk,htt,hi2]
  refine⟨i64c (by omega),?_⟩
  show some (AV.row _)=some (AV.row ((((chsI T).take i).map (cdg T)++ [cdg T x]).map i64))
  rw[List.map_append]
  rfl
 ·rintro sl ro gn ⟨s1,r4096,s18,r8208,s19,s20,s6,r20480⟩
  dsimp only at s1 r4096 s18 r8208 s19 s20 s6 r20480
  have hi': ¬(((chsI T).length:Nat):Int)<((chsI T).length:Nat):=by omega
  rw[List.take_length]at r20480
  simp only[go_sem, ↓reduceIte,Nat.reduceEqDiff,Nat.reduceAdd,zc,s1,r4096,s18,r8208,s19,s20,s6,r20480,hi',List.length_map]
  simp only[zr,zb,retR,resL,outT,outL,zes,zez,oneV,zcp,zed,zfi,Ro.dl,St.ev,zhk, ↓za, ↓reduceIte,Nat.reduceEqDiff,Nat.reduceAdd,Nat.reduceLeDiff,r20480,rowL]
end
def LC(T:List (List (List Int)))(x:List Int):Prop:=x.length=T.length∧NL x
open Classical in
noncomputable def icV(T:List (List (List Int)))(x:List Int):Bool×Int:=
 if RngP T then if CmP T then if LC T x then(chB T x,0)else(false,2)else(false,5)else(false,1)
section
variable{T:List (List (List Int))}{x:List Int}
theorem exq_one{ro:Ro}{s g k:Nat}{xs:List Int}(h:ro s g=some (.row [.imm (xs.map i64)]))(hk:3≤k):exq k ro (.ref s g [] 0 1) (immLL [xs]):=by
 refine⟨fun q hq=>?_,fun hp=>by simp[pureA]at hp⟩
 obtain⟨j,rfl⟩: ∃j,q=j+3:=⟨q-3,by omega⟩
 have hc:ro.cells s g []=some [.imm (xs.map i64)]:=by simp only[Ro.cells,h,blk]
 have hm: ∀l:List Int,(l.map i64).map (ex ro (j+1))=l.map i64:=fun l=>by rw[List.map_map];exact List.map_congr_left fun _ _=>rfl
 have h1: ∀l:List Int,ex ro (j+2) (.imm (l.map i64))= .imm (l.map i64):=fun l=>congrArg AV.imm (hm l)
 show (match ro.cells s g []with|some cs=>AV.imm (((cs.drop 0).take 1).map (ex ro (j+2)))|none=> .dead)=_
 rw[hc]
 show AV.imm [ex ro (j+2) _]=_
 rw[h1]
 rfl
variable{c a l:AV}
theorem cIsLC(hc:isLLL c T)(ha:isL a x)(hx:x.length≤maxN){t:Bool}(ht:t=true↔LC T x):CallOK Tryz.prog 49 [.agg [c],a] (bo t):=by
 by_cases h:x.length=T.length
 ·have h':(x.length:Int)=T.length:=by omega
  have e:allW x 0 55440=t:=by
   rw[Bool.eq_iff_iff,ht,NL_iff]
   exact⟨fun k=>⟨h,k⟩,fun k=>k.2⟩
  have c1:=c115 ha hx
  rw[e]at c1
  refine call_of (fn:=Tryz.f49) (code:=bodyOf Tryz.f49) Tryz.func49 rfl (by kernel_rfl) (rfl) ?_
  intro sl hs
  have s0:sl 0= .agg [c]:=hs 0
  have s1:sl 1=a:=hs 1
  dsimp only[Tryz.f49,bodyOf,Option.getD]
  simp(disch:=first|assumption|omega) only[go_sem, ↓reduceIte,Nat.reduceEqDiff,zc,s0,s1,ti33,ti31,isLLL_len hc,isL_len ha,eq_true h']
  refine CLL_pure _ c1 PUt rfl rfl ?_
  refine Yaj ?_
  exact Yaa
 ·have h': ¬(x.length:Int)=T.length:=by omega
  refine call_of (fn:=Tryz.f49) (code:=bodyOf Tryz.f49) Tryz.func49 rfl (by kernel_rfl) (rfl) ?_
  intro sl hs
  have s0:sl 0= .agg [c]:=hs 0
  have s1:sl 1=a:=hs 1
  dsimp only[Tryz.f49,bodyOf,Option.getD]
  simp(disch:=first|assumption|omega) only[go_sem, ↓reduceIte,Nat.reduceEqDiff,zc,s0,s1,ti33,ti31,isLLL_len hc,isL_len ha,eq_false h']
  refine Yab ?_
  exact bool_false ht fun k=>h k.1
end
end Go.Proofs.YtbakhfiibjkifaaGreat
/- Characters: the reference's list of one list; its IsCharacter. -/
namespace Go.Proofs.YtbakhfiibjkifaaGreat
open Go.RowKit
set_option maxRecDepth 1000000
def cd2:Nat→Int
 |0=>0
 |_=>2
section
variable{T:List (List (List Int))}{x:List Int}{c a l:AV}
end
def laysGrL_ren:Go.Shelf.Ren:=⟨fun|4=>125|n=>n,fun|22=>28|25=>37|3=>3|4=>4|9=>9|20=>20|0=>0|n=>n,fun n=>n⟩
theorem laysGrL:Lays8.n4 Tryz.prog laysGrL_ren where
 mixed:=by kernel_rfl
 f4 := ⟨"slices.Grow[[][]int64,[]int64]", by decide, Tryz.func125.trans (congrArg some (by kernel_rfl))⟩
 t0:=Tryz.underlying0
 a0:=Tryz.isAgg0
 z0:=Tryz.sizeOf0
 v0:=Tryz.zeroValue0
 t3:=Tryz.underlying3
 a3:=Tryz.isAgg3
 z3:=Tryz.sizeOf3
 v3:=Tryz.zeroValue3
 t4:=Tryz.underlying4
 a4:=Tryz.isAgg4
 z4:=Tryz.sizeOf4
 v4:=Tryz.zeroValue4
 t9:=Tryz.underlying9
 a9:=Tryz.isAgg9
 z9:=Tryz.sizeOf9
 v9:=Tryz.zeroValue9
 t20:=Tryz.underlying20
 a20:=Tryz.isAgg20
 z20:=Tryz.sizeOf20
 v20:=Tryz.zeroValue20
 t22:=Tryz.underlying28
 a22:=Tryz.isAgg28
 z22:=Tryz.sizeOf28
 v22:=Tryz.zeroValue28
theorem cGrowL{n:Nat}(h1:1≤n)(hn:n≤65536):CallOK Tryz.prog 125 [nilA,i64 n] (.row []):=by
 refine⟨⟨_,Tryz.func125,by kernel_rfl,by kernel_rfl⟩,rfl,fun w A vs hv hA hG=>?_⟩
 obtain⟨v,vs',rfl,h1',h2⟩:=RelL.uncons0 hv
 obtain⟨v',vs'',rfl,h3,h4⟩:=RelL.uncons0 h2
 obtain rfl:=(RelL.nilF h4).1
 obtain⟨rfl, -⟩:=Rel.sc_inv h1'
 obtain⟨rfl, -⟩:=Rel.sc_inv h3
 obtain⟨inf,z,hi,hsz,hz,hzc⟩:=((tiG_ok Tryz.prog).ok _ _ ti23).info
 have hb8:(some inf).map (·.bytes)=some 24:=by rw[←hi];kernel_rfl
 have hb8:inf.bytes=24:=by simpa using hb8
 have hzl:z.cells.size=1:=by rw[←Array.length_toList,hzc];rfl
 refine(Any8.slices_Grow_grow laysGrL inf z hi hz (by rw[hsz];decide) none 0 0 n [] w (by omega) (by omega) (by rw[hb8];omega) (by omega) (by simp) (fun _=>rfl) (fun a h=>by cases h)).mono ?_
 rintro e w' ⟨rfl,rfl⟩
 have g1:=grownCap_ge w (0+n) 0 (laysGrL_ren.t 25)
 have g2:=grownCap_le_maxLen w (0+n) 0 (laysGrL_ren.t 25) (by unfold maxLen;omega)
 refine⟨_,fun b=>A b∨b=w.heap.size,[w.heap.size],rfl,?_,fun _ h=> .inl h,fun x hx=>?_,?_⟩
 ·refine Rel.mk_row w.heap.size 0 _ (us:=[]) .nil ⟨_,_,heap_alloc_new w.drew _,?_,Nat.zero_le _,g2,fun i u hu=>by simp at hu⟩ (by simp)
  simp only[Array.size_append,size_zeroCells,hzl]
  simp
  omega
 ·simp only[List.mem_singleton]at hx
  subst hx
  exact⟨.inr rfl,Nat.le_refl _⟩
 ·exact⟨rfl,rfl,⟨rfl,trivial⟩,Nat.le_of_lt (Array.getElem?_eq_some_iff.1 (heap_alloc_new w.drew _)).1,fun k hk _=>Below.heap_alloc w.drew _ k hk⟩
def szC(k:Nat):Nat→Nat
 |0=>0
 |1=>1
 |_=>1+k
def prC(x:AV)(ys:List AV):Nat→List AV
 |0=>[]
 |1=>[x]
 |_=>x::ys
theorem szC0(k:Nat):szC k 0=0:=rfl
theorem szC1(k:Nat):szC k 1=1:=rfl
theorem szC2(k:Nat):szC k 2=1+k:=rfl
theorem prC0(x:AV)(ys:List AV):prC x ys 0=[]:=rfl
theorem prC1(x:AV)(ys:List AV):prC x ys 1=[x]:=rfl
theorem prC2(x:AV)(ys:List AV):prC x ys 2=x::ys:=rfl
theorem kLen_imm{ro:Ro}{cs:List AV}{a1:Nat}{a2:Bool}{a3:List Value}{e:Nat}{a5:List (Nat×Nat)}{a6:Option IntKind}{a7 a8:Bool}{a9 a10:Option (Nat×Nat)}:kLen1 (some ⟨a1,a2,a3,some e,a5,a6,a7,a8,a9,a10⟩) ro (.imm cs)=some ⟨i64 cs.length,none,[],[]⟩:=by simp[kLen1]
theorem pn1: ¬((0:Nat):Int)+((1:Nat):Int)<0:=by decide
theorem pn2: ¬((1:Nat):Int)+0<0:=by decide
theorem pn3: ¬((1:Nat):Int)+((1:Nat):Int)<0:=by decide
theorem oneL:(1:Nat)≤4294967296:=by decide
theorem sConc{S g:Nat}{xs:List AV}{l2:AV}{ys:List AV}{ro0:Ro}{gn0:Nat→Nat}(hro:ro0 S g=some (.row [.imm [.imm xs],l2]))(hS:S≠40976)(h2:(l2=nilA∧ys=[])∨ ∃y,l2= .imm [.imm y]∧ys=[.imm y]):
  InS Tryz.prog 94 [.ref S g [] 0 2] ro0 gn0 (fun r ro' gn'=>r= .ref 40976 (gn' 40976) [] 0 (1+ys.length)∧ro' 40976 (gn' 40976)=some (.row (.imm xs::ys))∧gn0 40976<gn' 40976∧Frx [40976] (fun _ _=>False) ro0 gn0 ro' gn'):=by
 have hr0:=hro
 have l1:ys.length≤1:=by rcases h2 with⟨-, rfl⟩|⟨y, -, rfl⟩<;>exact Nat.le_of_ble_eq_true rfl
 refine in_ofS (fn:=Tryz.f94) (code:=bodyOf Tryz.f94) Tryz.func94 rfl (by kernel_rfl) ?_
 intro sl hs
 have s0:sl 0= .ref S g [] 0 2:=hs 0
 dsimp only[Tryz.f94,bodyOf,Option.getD]
 simp only[go_sem, ↓reduceIte,Nat.reduceEqDiff,zc,s0,hro]
 refine WK_for (fun i st=>st.sl 0= .ref S g [] 0 2∧st.sl 9= .ref S g [] 0 2∧st.sl 10=i64 (2:Nat)∧st.sl 11=i64 (i:Int)∧st.sl 3=i64 (szC ys.length i:Nat)∧(Frx [40976] (fun _ _=>False) ro0 gn0 st.ro st.gn)) 2 ?_ ?_ ?_
 ·refine Yad ?_
  exact⟨rfl,rfl,Frx.refl _ _ _ _⟩
 ·rintro i sl ro gn hi ⟨s0,s9,s10,s11,s3,hF⟩
  dsimp only at s0 s9 s10 s11 s3
  have hi':(i:Int)<(2:Nat):=by omega
  dsimp only at hF
  have hr:=((hF.off S (by simpa using hS)).1▸hro:ro S g=_)
  rcases(show i=0∨i=1 by omega)with rfl|rfl
  ·simp(disch:=first|assumption|omega) only[go_sem, ↓reduceIte,Nat.reduceEqDiff,zc,s0,s9,s10,s11,s3,hi',hi,hr,kLen_imm,szC0,List.length_singleton,pn1]
   exact⟨rfl,rfl,hF⟩
  ·rcases h2 with⟨rfl,rfl⟩|⟨y,rfl,rfl⟩
   ·simp(disch:=first|assumption|omega) only[go_sem, ↓reduceIte,Nat.reduceEqDiff,zc,s0,s9,s10,s11,s3,hi',hi,hr,szC1,pn2]
    exact⟨rfl,rfl,hF⟩
   ·simp(disch:=first|assumption|omega) only[go_sem, ↓reduceIte,Nat.reduceEqDiff,zc,s0,s9,s10,s11,s3,hi',hi,hr,kLen_imm,szC1,pn3,List.length_singleton]
    exact⟨rfl,rfl,hF⟩
 ·rintro sl ro gn ⟨s0,s9,s10,s11,s3,hF⟩
  dsimp only at s0 s9 s10 s11 s3
  have hi': ¬((2:Nat):Int)<(2:Nat):=by omega
  dsimp only at hF
  have hr2:=((hF.off S (by simpa using hS)).1▸hro:ro S g=_)
  simp only[go_sem, ↓reduceIte,Nat.reduceEqDiff,zc,s0,s9,s10,s11,s3,hi']
  refine CLL_pure _ (cGrowL (n:=szC ys.length 2) (by rw[szC2];omega) (by rw[szC2];omega)) PUt rfl rfl ?_
  refine Yca ?_
  refine WK_for (fun i st=>st.sl 25= .ref S g [] 0 2∧st.sl 26=i64 (2:Nat)∧st.sl 27=i64 (i:Int)∧st.sl 6= .ref 40976 (st.gn 40976) [] 0 (prC (.imm xs) ys i).length∧(Frx [40976] (fun _ _=>False) ro0 gn0 st.ro st.gn)∧(gn0 40976<st.gn 40976)∧(st.ro 40976 (st.gn 40976)=some (.row (prC (.imm xs) ys i)))) 2 ?_ ?_ ?_
  ·simp only[↓za, ↓reduceIte,Nat.reduceEqDiff,zb,reduceCtorEq,rws_zero,s0,s9,s10,s11,s3,hi']
   have u4:=hF.up 40976
   exact⟨rfl,rfl,KFt,by omega,rfl⟩
  ·rintro i sl ro gn hi ⟨s25,s26,s27,s6,hF,hl,hR⟩
   dsimp only at s25 s26 s27 s6
   have hi':(i:Int)<(2:Nat):=by omega
   dsimp only at hF hl hR
   have hr:=((hF.off S (by simpa using hS)).1▸hro:ro S g=_)
   rcases(show i=0∨i=1 by omega)with rfl|rfl
   ·simp(disch:=first|assumption|omega) only[go_sem, ↓reduceIte,Nat.reduceEqDiff,zc,s25,s26,s27,s6,hi',hi,hr,prC0,hR,List.length_nil,oneL]
    exact⟨rfl,rfl,KFt,rfl⟩
   ·rcases h2 with⟨rfl,rfl⟩|⟨y,rfl,rfl⟩
    ·simp(disch:=first|assumption|omega) only[go_sem, ↓reduceIte,Nat.reduceEqDiff,zc,s25,s26,s27,s6,hi',hi,hr,prC1,hR,List.length_singleton,show isNilV (Value.slice none 0 0)=true from rfl]
     exact⟨rfl,rfl,KFt,rfl⟩
    ·simp(disch:=first|assumption|omega) only[go_sem, ↓reduceIte,Nat.reduceEqDiff,zc,s25,s26,s27,s6,hi',hi,hr,prC1,hR,List.length_singleton]
     exact⟨rfl,rfl,KFt,rfl⟩
  ·rintro sl ro gn ⟨s25,s26,s27,s6,hF,hl,hR⟩
   dsimp only at s25 s26 s27 s6
   have hi': ¬((2:Nat):Int)<(2:Nat):=by omega
   dsimp only at hF hl hR
   simp only[go_sem, ↓reduceIte,Nat.reduceEqDiff,zc,s25,s26,s27,s6,hi']
   exact RETS_1 (.ref 40976 (gn 40976) [] 0 (1+ys.length)) (by simp only[↓za, ↓reduceIte,Nat.reduceEqDiff,zb,reduceCtorEq,prC2,List.length_cons,Nat.add_comm]) ⟨rfl,hR,hl,hF⟩
def szP:Nat→Nat
 |0=>0
 |_=>2
def prP(x y:AV):Nat→List AV
 |0=>[]
 |_=>[x,y]
theorem szP0:szP 0=0:=rfl
theorem szP1:szP 1=2:=rfl
theorem szP2:szP 2=2:=rfl
theorem prP0(x y:AV):prP x y 0=[]:=rfl
theorem prP1(x y:AV):prP x y 1=[x,y]:=rfl
theorem prP2(x y:AV):prP x y 2=[x,y]:=rfl
theorem pm1: ¬((0:Nat):Int)+((2:Nat):Int)<0:=by decide
theorem pm2: ¬((2:Nat):Int)+0<0:=by decide
theorem twoL:(2:Nat)≤4294967296:=by decide
theorem len2{a b:AV}:([a,b]:List AV).length=2:=rfl
theorem sConc2{S g:Nat}{x y:List AV}{ro0:Ro}{gn0:Nat→Nat}(hro:ro0 S g=some (.row [.imm [.imm x,.imm y],nilA]))(hS:S≠40976):
  InS Tryz.prog 94 [.ref S g [] 0 2] ro0 gn0 (fun r ro' gn'=>r= .ref 40976 (gn' 40976) [] 0 2∧ro' 40976 (gn' 40976)=some (.row [.imm x,.imm y])∧gn0 40976<gn' 40976∧Frx [40976] (fun _ _=>False) ro0 gn0 ro' gn'):=by
 have hr0:=hro
 refine in_ofS (fn:=Tryz.f94) (code:=bodyOf Tryz.f94) Tryz.func94 rfl (by kernel_rfl) ?_
 intro sl hs
 have s0:sl 0= .ref S g [] 0 2:=hs 0
 dsimp only[Tryz.f94,bodyOf,Option.getD]
 simp only[go_sem, ↓reduceIte,Nat.reduceEqDiff,zc,s0,hro]
 refine WK_for (fun i st=>st.sl 0= .ref S g [] 0 2∧st.sl 9= .ref S g [] 0 2∧st.sl 10=i64 (2:Nat)∧st.sl 11=i64 (i:Int)∧st.sl 3=i64 (szP i:Nat)∧(Frx [40976] (fun _ _=>False) ro0 gn0 st.ro st.gn)) 2 ?_ ?_ ?_
 ·refine Yad ?_
  exact⟨rfl,rfl,Frx.refl _ _ _ _⟩
 ·rintro i sl ro gn hi ⟨s0,s9,s10,s11,s3,hF⟩
  dsimp only at s0 s9 s10 s11 s3
  have hi':(i:Int)<(2:Nat):=by omega
  dsimp only at hF
  have hr:=((hF.off S (by simpa using hS)).1▸hro:ro S g=_)
  rcases(show i=0∨i=1 by omega)with rfl|rfl
  ·simp(disch:=first|assumption|omega) only[go_sem, ↓reduceIte,Nat.reduceEqDiff,zc,s0,s9,s10,s11,s3,hi',hi,hr,kLen_imm,szP0,len2,pm1]
   exact⟨rfl,rfl,hF⟩
  ·simp(disch:=first|assumption|omega) only[go_sem, ↓reduceIte,Nat.reduceEqDiff,zc,s0,s9,s10,s11,s3,hi',hi,hr,szP1,pm2]
   exact⟨rfl,rfl,hF⟩
 ·rintro sl ro gn ⟨s0,s9,s10,s11,s3,hF⟩
  dsimp only at s0 s9 s10 s11 s3
  have hi': ¬((2:Nat):Int)<(2:Nat):=by omega
  dsimp only at hF
  have hr2:=((hF.off S (by simpa using hS)).1▸hro:ro S g=_)
  simp only[go_sem, ↓reduceIte,Nat.reduceEqDiff,zc,s0,s9,s10,s11,s3,hi']
  refine CLL_pure _ (cGrowL (n:=szP 2) (by rw[szP2];omega) (by rw[szP2];omega)) PUt rfl rfl ?_
  refine Yca ?_
  refine WK_for (fun i st=>st.sl 25= .ref S g [] 0 2∧st.sl 26=i64 (2:Nat)∧st.sl 27=i64 (i:Int)∧st.sl 6= .ref 40976 (st.gn 40976) [] 0 (prP (.imm x) (.imm y) i).length∧(Frx [40976] (fun _ _=>False) ro0 gn0 st.ro st.gn)∧(gn0 40976<st.gn 40976)∧(st.ro 40976 (st.gn 40976)=some (.row (prP (.imm x) (.imm y) i)))) 2 ?_ ?_ ?_
  ·simp only[↓za, ↓reduceIte,Nat.reduceEqDiff,zb,reduceCtorEq,rws_zero,s0,s9,s10,s11,s3,hi']
   have u4:=hF.up 40976
   exact⟨rfl,rfl,KFt,by omega,rfl⟩
  ·rintro i sl ro gn hi ⟨s25,s26,s27,s6,hF,hl,hR⟩
   dsimp only at s25 s26 s27 s6
   have hi':(i:Int)<(2:Nat):=by omega
   dsimp only at hF hl hR
   have hr:=((hF.off S (by simpa using hS)).1▸hro:ro S g=_)
   rcases(show i=0∨i=1 by omega)with rfl|rfl
   ·simp(disch:=first|assumption|omega) only[go_sem, ↓reduceIte,Nat.reduceEqDiff,zc,s25,s26,s27,s6,hi',hi,hr,prP0,hR,List.length_nil,twoL]
    exact⟨rfl,rfl,KFt,rfl⟩
   ·simp(disch:=first|assumption|omega) only[go_sem, ↓reduceIte,Nat.reduceEqDiff,zc,s25,s26,s27,s6,hi',hi,hr,prP1,hR,len2,show isNilV (Value.slice none 0 0)=true from rfl]
    exact⟨rfl,rfl,KFt,rfl⟩
  ·rintro sl ro gn ⟨s25,s26,s27,s6,hF,hl,hR⟩
   dsimp only at s25 s26 s27 s6
   have hi': ¬((2:Nat):Int)<(2:Nat):=by omega
   dsimp only at hF hl hR
   simp only[go_sem, ↓reduceIte,Nat.reduceEqDiff,zc,s25,s26,s27,s6,hi']
   exact RETS_1 (.ref 40976 (gn 40976) [] 0 2) (by simp only[↓za, ↓reduceIte,Nat.reduceEqDiff,zb,reduceCtorEq,prP2,len2]) ⟨rfl,hR,hl,hF⟩
section
variable{T:List (List (List Int))}{x y:List Int}{c:AV}
theorem k1I{ro:Ro}{z:AV}{a1:Nat}{a2:Bool}{a3:List Value}{e:Nat}{a5:List (Nat×Nat)}{a6:Option IntKind}{a7 a8:Bool}{a9 a10:Option (Nat×Nat)}:kIdx (some ⟨a1,a2,a3,some e,a5,a6,a7,a8,a9,a10⟩) ro (.imm [z]) (i64 ((0:Nat):Int))=some ⟨.iptr [z],none,[],[]⟩:=by simp[kIdx]
theorem k1L{ro:Ro}{z:AV}{a1:Nat}{a2:Bool}{a3:List Value}{e:Nat}{a5:List (Nat×Nat)}{a6:Option IntKind}{a7 a8:Bool}{a9 a10:Option (Nat×Nat)}:kLen1 (some ⟨a1,a2,a3,some e,a5,a6,a7,a8,a9,a10⟩) ro (.imm [z])=some ⟨i64 (1:Nat),none,[],[]⟩:=by simp[kLen1]
set_option maxHeartbeats 4000000 in
theorem cCc1(hc:isLLL c T)(hz:SzP T)(hR:RngP T)(hC:CmP T)(hL:LC T x)(hx:chP T x):CallOK Tryz.prog 51 [.agg [c],.imm [.imm (x.map i64)],nilA] (i64 0):=by
 have lx:x.length≤maxN:=by rw[hL.1];exact Nat.le_trans hR.1.2.1 (by decide)
 have c1:=cCodeI hc hz (z:=0) (.inl ⟨hR,hC,rfl⟩)
 have c2:=cIsLC hc (isL_imm x) lx (t:=true) ⟨fun _=>hL,fun _=>rfl⟩
 have c3:=cIsCh hc hR.1 (isL_imm x) hL.1 (NL_numL hL.2) (t:=true) ⟨fun _=>hx,fun _=>rfl⟩
 refine call_of (fn:=Tryz.f51) (code:=bodyOf Tryz.f51) Tryz.func51 rfl (by kernel_rfl) (rfl) ?_
 intro sl hs
 have s0:sl 0= .agg [c]:=hs 0
 have s1:sl 1= .imm [.imm (x.map i64)]:=hs 1
 have s2:sl 2=nilA:=hs 2
 dsimp only[Tryz.f51,bodyOf,Option.getD]
 refine Yak ?_
 refine CLL_pure _ c1 PUt rfl rfl ?_
 refine Yam ?_
 refine CLL_inS rfl (sConc (xs:=x.map i64) (ys:=[]) (l2:=nilA) (by first|exact rfl|(simp only[↓za, ↓reduceIte,Nat.reduceEqDiff,zb,reduceCtorEq])) (by decide) (.inl ⟨rfl,rfl⟩)) ?_
 rintro _ ro1 gn1 ⟨rfl,h1, -, h3⟩
 have r4:ro1 4096 1=some (.bx [c]):=by rw[(h3.off 4096 (by decide)).1];simp only[↓za, ↓reduceIte,Nat.reduceEqDiff,zb,reduceCtorEq]
 clear h3
 generalize gn1 40976=u at h1
 simp only[go_sem, ↓reduceIte,Nat.reduceEqDiff,zc,s0,s1,s2,h1,List.length_nil,Nat.add_zero]
 refine WK_for (fun i st=>st.sl 1= .imm [.imm (x.map i64)]∧st.sl 3= .ptr 4096 1 [] 0∧st.ro 4096 1=some (.bx [c])∧st.ro 40976 u=some (.row [.imm (x.map i64)])∧st.sl 20= .ref 40976 u [] 0 1∧st.sl 21=i64 (1:Nat)∧st.sl 22=i64 (i:Int)) 1 ?_ ?_ ?_
 ·refine Yat ?_
  exact⟨r4,h1,rfl⟩
 ·rintro i sl ro gn hi ⟨s1,s3,r4096,r40976,s20,s21,s22⟩
  dsimp only at s1 s3 r4096 r40976 s20 s21 s22
  have hi':(i:Int)<(1:Nat):=by omega
  obtain rfl:i=0:=by omega
  refine Yao ?_
  refine CLL_pure _ c2 PUt rfl rfl ?_
  refine Ybh ?_
  exact rfl
 ·rintro sl ro gn ⟨s1,s3,r4096,r40976,s20,s21,s22⟩
  dsimp only at s1 s3 r4096 r40976 s20 s21 s22
  have hi': ¬((1:Nat):Int)<(1:Nat):=by omega
  simp only[go_sem, ↓reduceIte,Nat.reduceEqDiff,zc,s1,s3,r4096,r40976,s20,s21,s22,hi',k1L]
  refine WK_for (fun i st=>st.sl 1= .imm [.imm (x.map i64)]∧st.sl 3= .ptr 4096 1 [] 0∧st.ro 4096 1=some (.bx [c])∧st.sl 31= .imm [.imm (x.map i64)]∧st.sl 32=i64 (1:Nat)∧st.sl 33=i64 (i:Int)) 1 ?_ ?_ ?_
  ·refine Ydk ?_
   exact rfl
  ·rintro i sl ro gn hi ⟨s1,s3,r4096,s31,s32,s33⟩
   dsimp only at s1 s3 r4096 s31 s32 s33
   have hi':(i:Int)<(1:Nat):=by omega
   obtain rfl:i=0:=by omega
   refine Yez ?_
   refine CLL_pure _ c3 PUt rfl rfl ?_
   refine Ybu ?_
   exact rfl
  ·rintro sl ro gn ⟨s1,s3,r4096,s31,s32,s33⟩
   dsimp only at s1 s3 r4096 s31 s32 s33
   have hi': ¬((1:Nat):Int)<(1:Nat):=by omega
   simp only[go_sem, ↓reduceIte,Nat.reduceEqDiff,zc,s1,s3,r4096,s31,s32,s33,hi',k1L]
   exact Yaa
set_option maxHeartbeats 4000000 in
theorem cCc2(hc:isLLL c T)(hz:SzP T)(hR:RngP T)(hC:CmP T)(hL:LC T x)(hx:chP T x)(hy:LC T y):CallOK Tryz.prog 51 [.agg [c],.imm [.imm (x.map i64)],.imm [.imm (y.map i64)]] (i64 0):=by
 have lx:x.length≤maxN:=by rw[hL.1];exact Nat.le_trans hR.1.2.1 (by decide)
 have ly:y.length≤maxN:=by rw[hy.1];exact Nat.le_trans hR.1.2.1 (by decide)
 have c1:=cCodeI hc hz (z:=0) (.inl ⟨hR,hC,rfl⟩)
 have c2:=cIsLC hc (isL_imm x) lx (t:=true) ⟨fun _=>hL,fun _=>rfl⟩
 have c2y:=cIsLC hc (isL_imm y) ly (t:=true) ⟨fun _=>hy,fun _=>rfl⟩
 have c3:=cIsCh hc hR.1 (isL_imm x) hL.1 (NL_numL hL.2) (t:=true) ⟨fun _=>hx,fun _=>rfl⟩
 refine call_of (fn:=Tryz.f51) (code:=bodyOf Tryz.f51) Tryz.func51 rfl (by kernel_rfl) (rfl) ?_
 intro sl hs
 have s0:sl 0= .agg [c]:=hs 0
 have s1:sl 1= .imm [.imm (x.map i64)]:=hs 1
 have s2:sl 2= .imm [.imm (y.map i64)]:=hs 2
 dsimp only[Tryz.f51,bodyOf,Option.getD]
 refine Yak ?_
 refine CLL_pure _ c1 PUt rfl rfl ?_
 refine Yam ?_
 refine CLL_inS rfl (sConc (xs:=x.map i64) (ys:=[.imm (y.map i64)]) (l2:= .imm [.imm (y.map i64)]) (by first|exact rfl|(simp only[↓za, ↓reduceIte,Nat.reduceEqDiff,zb,reduceCtorEq])) (by decide) (.inr ⟨_,rfl,rfl⟩)) ?_
 rintro _ ro1 gn1 ⟨rfl,h1, -, h3⟩
 have r4:ro1 4096 1=some (.bx [c]):=by rw[(h3.off 4096 (by decide)).1];simp only[↓za, ↓reduceIte,Nat.reduceEqDiff,zb,reduceCtorEq]
 clear h3
 generalize gn1 40976=u at h1
 simp only[go_sem, ↓reduceIte,Nat.reduceEqDiff,zc,s0,s1,s2,h1,List.length_singleton,Nat.reduceAdd]
 refine WK_for (fun i st=>st.sl 1= .imm [.imm (x.map i64)]∧st.sl 3= .ptr 4096 1 [] 0∧st.ro 4096 1=some (.bx [c])∧st.ro 40976 u=some (.row [.imm (x.map i64),.imm (y.map i64)])∧st.sl 20= .ref 40976 u [] 0 2∧st.sl 21=i64 (2:Nat)∧st.sl 22=i64 (i:Int)) 2 ?_ ?_ ?_
 ·refine Yat ?_
  exact⟨r4,h1,rfl⟩
 ·rintro i sl ro gn hi ⟨s1,s3,r4096,r40976,s20,s21,s22⟩
  dsimp only at s1 s3 r4096 r40976 s20 s21 s22
  have hi':(i:Int)<(2:Nat):=by omega
  rcases(show i=0∨i=1 by omega)with rfl|rfl
  ·refine Yao ?_
   refine CLL_pure _ c2 PUt rfl rfl ?_
   refine Ybh ?_
   exact rfl
  ·refine Yao ?_
   refine CLL_pure _ c2y PUt rfl rfl ?_
   refine Ybh ?_
   exact rfl
 ·rintro sl ro gn ⟨s1,s3,r4096,r40976,s20,s21,s22⟩
  dsimp only at s1 s3 r4096 r40976 s20 s21 s22
  have hi': ¬((2:Nat):Int)<(2:Nat):=by omega
  simp only[go_sem, ↓reduceIte,Nat.reduceEqDiff,zc,s1,s3,r4096,r40976,s20,s21,s22,hi',k1L]
  refine WK_for (fun i st=>st.sl 1= .imm [.imm (x.map i64)]∧st.sl 3= .ptr 4096 1 [] 0∧st.ro 4096 1=some (.bx [c])∧st.sl 31= .imm [.imm (x.map i64)]∧st.sl 32=i64 (1:Nat)∧st.sl 33=i64 (i:Int)) 1 ?_ ?_ ?_
  ·refine Ydk ?_
   exact rfl
  ·rintro i sl ro gn hi ⟨s1,s3,r4096,s31,s32,s33⟩
   dsimp only at s1 s3 r4096 s31 s32 s33
   have hi':(i:Int)<(1:Nat):=by omega
   obtain rfl:i=0:=by omega
   refine Yez ?_
   refine CLL_pure _ c3 PUt rfl rfl ?_
   refine Ybu ?_
   exact rfl
  ·rintro sl ro gn ⟨s1,s3,r4096,s31,s32,s33⟩
   dsimp only at s1 s3 r4096 s31 s32 s33
   have hi': ¬((1:Nat):Int)<(1:Nat):=by omega
   simp only[go_sem, ↓reduceIte,Nat.reduceEqDiff,zc,s1,s3,r4096,s31,s32,s33,hi',k1L]
   exact Yaa
end
theorem sm_inv{f:Nat→Int}{d:Nat→Nat}{n:Nat}(h1: ∀k,k<n→d k<n)(h2: ∀k,k<n→d (d k)=k):sm (fun k=>f (d k)) n=sm f n:=by
 have e1:sm (fun k=>f (d k)) n=sm (fun k=>sm (fun l=>if l=d k then f (d k)else 0) n) n:=sm_congr fun k hk=>(sm_pick (h1 k hk) fun _ _=>rfl).symm
 rw[e1,sm_comm]
 refine sm_congr fun l hl=>?_
 refine sm_pick (h1 l hl) fun k hk=>?_
 by_cases h:k=d l
 ·rw[if_pos h,h,h2 l hl,if_pos rfl]
 ·rw[if_neg h,if_neg (fun e=>h (by rw[e,h2 k hk]))]
section
variable{T:List (List (List Int))}
theorem rg_turn(hR:RngP T){i j k:Nat}(hi:i<T.length)(hj:j<T.length)(hk:k<T.length):at3 T i j k=at3 T (dd T i) k j∧at3 T i j k=at3 T k (dd T j) i:=by
 have h:=fnd_none.1 (fnd_none.1 (fnd_none.1 (RF_none hR.2).2.2.1 i hi) j hj) k hk
 unfold p3 at h
 split at h
 ·rename_i e;exact e
 ·cases h
theorem rg_inv(hR:RngP T){i:Nat}(hi:i<T.length):dd T (dd T i)=i:=by
 have h:=fnd_none.1 (RF_none hR.2).2.1 i hi
 unfold p2 at h
 split at h
 ·cases h
 ·rename_i e
  have e2:dlT T (dd T i)=i:=Classical.not_not.1 fun h=>e (.inr h)
  unfold dd at e2 ⊢
  rw[e2]
  exact Int.toNat_natCast i
theorem rg_un(hR:RngP T){i k:Nat}(hi:i<T.length)(hk:k<T.length):at3 T 0 i k=dlt i k:=by
 have h:=fnd_none.1 (fnd_none.1 (RF_none hR.2).1 i hi) k hk
 unfold p1 at h
 split at h
 ·rename_i e;exact e.1
 ·cases h
theorem rg_cm(hC:CmP T){i j k:Nat}(hi:i<T.length)(hj:j<T.length):at3 T i j k=at3 T j i k:=by
 have h:row (mat T i) j=row (mat T j) i:=by
  rcases Nat.lt_trichotomy i j with h|h|h
  ·exact(hC j hj i h).symm
  ·rw[h]
  ·exact hC i hi j h
 unfold at3
 rw[h]
theorem dd_zero(hR:RngP T):dd T 0=0:=by
 have h0:0<T.length:=hR.1.1
 have e:dlT T 0=(0:Nat):=by
  unfold dlT
  refine du_is ⟨h0,?_,fun k hk hne=>?_⟩
  ·show at3 T 0 0 0=1
   rw[rg_un hR h0 h0];rfl
  ·show at3 T 0 k 0=0
   rw[rg_un hR hk h0]
   exact if_neg hne
 unfold dd
 rw[e]
 rfl
theorem rg_dual(hR:RngP T)(hC:CmP T){i j k:Nat}(hi:i<T.length)(hj:j<T.length)(hk:k<T.length):at3 T (dd T i) (dd T j) (dd T k)=at3 T i j k:=by
 have di:=(dd_ok hR hi).2
 have dj:=(dd_ok hR hj).2
 have dk:=(dd_ok hR hk).2
 rw[(rg_turn hR di dj dk).1,rg_inv hR hi,(rg_turn hR hi dk dj).2,rg_inv hR hk,(rg_turn hR dj hk hi).1,rg_inv hR hj]
 exact rg_cm hC hj hi
noncomputable def dlC(T:List (List (List Int)))(x:List Int):List Int:=rws (fun i=>atI x (dd T i)) T.length
end
section
variable{T:List (List (List Int))}{x y:List Int}{c:AV}
theorem imp_tL{b:Nat}{gn:Nat→Nat}{X:List Int}{v:Value}:impE b gn (.tup [rowL X,.sc v])=⟨.tup [.ref b (gn b+1) [] 0 X.length,.sc v],none,[],[(b,rowL X)]⟩:=by
 show (⟨.tup [.ref b (gn b+1) [] 0 (X.map i64).length,.sc v],none,[],[(b,.row (X.map i64))]⟩:Eff)=_
 rw[List.length_map]
theorem noI_tL1(X:List Int)(v:Value):noI (.tup [rowL X,.sc v])=true:=by
 have h:=noI_rowL X
 show (noI (rowL X)&&(noI (.sc v)&&true))=true
 rw[h];rfl
def vlC(x y:List Int):Int:=sm (fun j=>atI x j*atI y j) x.length % 55441
theorem cVlC(hc:isLLL c T)(hz:SzP T)(hR:RngP T)(hC:CmP T)(hL:LC T x)(hx:chP T x)(hy:LC T y):CallOK Tryz.prog 18 [.agg [c],.imm (x.map i64),.imm (y.map i64)] (.tup [i64 (vlC x y),i64 0]):=by
 have lx:x.length≤maxN:=by rw[hL.1];exact Nat.le_trans hR.1.2.1 (by decide)
 have c1:=cCc2 hc hz hR hC hL hx hy
 have cdot:=c119 (isL_imm x) (isL_imm y) lx (by rw[hL.1,hy.1];exact Nat.le_refl _) (NL_numL hL.2) (NL_numL hy.2)
 unfold vlC
 refine call_of (fn:=Tryz.f18) (code:=bodyOf Tryz.f18) Tryz.func18 rfl (by kernel_rfl) (rfl) ?_
 intro sl hs
 have s0:sl 0= .agg [c]:=hs 0
 have s1:sl 1= .imm (x.map i64):=hs 1
 have s2:sl 2= .imm (y.map i64):=hs 2
 dsimp only[Tryz.f18,bodyOf,Option.getD]
 simp(disch:=first|assumption|omega) only[go_sem, ↓reduceIte,Nat.reduceEqDiff,Nat.reduceAdd,zc,s0,s1,s2,ti33,ti31]
 refine CLL_q _ c1 (.cons (exq_agg (n:=7) (.cons (exq_LLL hc (by decide)) .nil)) (.cons (exq_one (xs:=x) (by first|exact rfl|(simp only[↓za, ↓reduceIte,Nat.reduceEqDiff,zb,reduceCtorEq])) (by decide)) (.cons (exq_one (xs:=y) (by first|exact rfl|(simp only[↓za, ↓reduceIte,Nat.reduceEqDiff,zb,reduceCtorEq])) (by decide)) .nil))) rfl rfl rfl ?_
 simp only[go_sem, ↓reduceIte,Nat.reduceEqDiff,Nat.reduceAdd,zc,s0,s1,s2,ti33,ti31]
 refine CLL_pure _ cdot PUt rfl rfl ?_
 simp only[go_sem, ↓reduceIte,Nat.reduceEqDiff,Nat.reduceAdd,zc,s0,s1,s2]
 exact Yaa
end
theorem ker_dual{n:Nat}{y:Nat→Nat→Int}(hind: ∀c:Nat→Int,(∀l,l<n→MM (sm (fun i=>c i*y i l) n) 0)→ ∀i,i<n→MM (c i) 0){v:Nat→Int}(hv: ∀i,i<n→MM (sm (fun l=>y i l*v l) n) 0): ∀l,l<n→MM (v l) 0:=fun l0 hl0=>by
 refine Classical.byContradiction fun hne=>?_
 have hM:numM fun l i=>y i (if l<l0 then l else l+1) % 55441:=fun _ _=>num_mod _
 obtain⟨c,⟨i,hi,hc⟩,h⟩:=ker_vec (n:=n-1) (w:=n) hM (by have:=(gj_ok (n:=n-1) hM n).2.1;omega)
 have h1: ∀l,l<n→l≠l0→MM (sm (fun i=>c i*y i l) n) 0:=fun l hl hn=>by
  obtain⟨l',hl',e⟩: ∃l',l'<n-1∧(if l'<l0 then l' else l'+1)=l:=by
   by_cases hlt:l<l0
   ·exact⟨l,by omega,if_pos hlt⟩
   ·exact⟨l-1,by omega,by rw[if_neg (by omega)];omega⟩
  have h2:=h l' hl'
  dsimp only at h2
  rw[e]at h2
  refine MM.trans (sm_MM fun i _=>?_) h2
  rw[Int.mul_comm]
  exact MM.mul (MM.mod _).symm MM.rfl
 have s1:MM (sm (fun l=>v l*sm (fun i=>c i*y i l) n) n) (v l0*sm (fun i=>c i*y i l0) n):=by
  have e1:MM (sm (fun l=>v l*sm (fun i=>c i*y i l) n) n) (sm (fun l=>if l=l0 then v l0*sm (fun i=>c i*y i l0) n else 0) n):=sm_MM fun l hl=>by
   by_cases e:l=l0
   ·rw[if_pos e,e];exact MM.rfl
   ·rw[if_neg e];exact(MM.mul MM.rfl (h1 l hl e)).trans (MM.of_eq (Int.mul_zero _))
  rwa [sm_at hl0]at e1
 have s2:MM (sm (fun l=>v l*sm (fun i=>c i*y i l) n) n) 0:=by
  have e1:sm (fun l=>v l*sm (fun i=>c i*y i l) n) n=sm (fun i=>c i*sm (fun l=>y i l*v l) n) n:=by
   have e2:sm (fun l=>v l*sm (fun i=>c i*y i l) n) n=sm (fun l=>sm (fun i=>c i*(y i l*v l)) n) n:=sm_congr fun l _=>by
    rw[←sm_lmul]
    refine sm_congr fun i _=>?_
    rw[Int.mul_comm (v l),Int.mul_assoc]
   rw[e2,sm_comm]
   exact sm_congr fun i _=>sm_lmul _ _ _
  rw[e1]
  refine(sm_MM (g:=fun _=>0) fun i hi=>?_).trans (MM.of_eq (sm_zero fun _ _=>Eq.refl _))
  exact(MM.mul MM.rfl (hv i hi)).trans (MM.of_eq (Int.mul_zero _))
 have h3:MM (sm (fun i=>c i*y i l0) n) 0:=mm_can2 (fun e=>hne e) (s1.symm.trans s2)
 refine hc (hind c (fun l hl=>?_) i hi)
 by_cases e:l=l0
 ·rw[e];exact h3
 ·exact h1 l hl e
noncomputable def pgC(T:List (List (List Int)))(x y:List Int):Int:=sm (fun j=>atI x j*atI y (dd T j)) T.length % 55441
section
variable{T:List (List (List Int))}{x y:List Int}
theorem pgC_self(x:List Int):pgC T x x=cdg T x:=Eq.refl _
theorem cas(hR:RngP T)(hC:CmP T)(hy:chP T y){i l:Nat}(hi:i<T.length)(hl:l<T.length):MM (sm (fun k=>at3 T i k l*atI y (dd T k)) T.length) (atI y i*atI y (dd T l)):=by
 have dl:=(dd_ok hR hl).2
 have e1:sm (fun k=>at3 T i k l*atI y (dd T k)) T.length=sm (fun k=>at3 T i (dd T l) (dd T k)*atI y (dd T k)) T.length:=sm_congr fun k hk=>by
  have di:=(dd_ok hR hi).2
  have dk:=(dd_ok hR hk).2
  rw[(rg_turn hR hi hk hl).1, ←rg_dual hR hC di hl hk,rg_inv hR hi]
 rw[e1,sm_inv (f:=fun k=>at3 T i (dd T l) k*atI y k) (fun k hk=>(dd_ok hR hk).2) (fun k hk=>rg_inv hR hk)]
 exact hy.1 i hi _ dl
theorem pr_zero(hR:RngP T)(hC:CmP T)(hx:chP T x)(hy:chP T y){i:Nat}(hi:i<T.length)(hne:(atI x i-atI y i) % 55441≠0):pgC T x y=0:=by
 have h1:MM (atI x i*sm (fun k=>atI x k*atI y (dd T k)) T.length) (atI y i*sm (fun k=>atI x k*atI y (dd T k)) T.length):=by
  have e1:MM (atI x i*sm (fun k=>atI x k*atI y (dd T k)) T.length) (sm (fun k=>sm (fun l=>at3 T i k l*atI x l*atI y (dd T k)) T.length) T.length):=by
   rw[←sm_lmul]
   refine sm_MM fun k hk=>?_
   rw[←Int.mul_assoc, ←sm_mul]
   exact MM.mul (MM.symm (hx.1 i hi k hk)) MM.rfl
  refine e1.trans ?_
  rw[sm_comm, ←sm_lmul]
  refine sm_MM fun l hl=>?_
  have e2:sm (fun k=>at3 T i k l*atI x l*atI y (dd T k)) T.length=atI x l*sm (fun k=>at3 T i k l*atI y (dd T k)) T.length:=by
   rw[←sm_lmul]
   exact sm_congr fun k _=>by rw[Int.mul_comm (at3 T i k l),Int.mul_assoc]
  rw[e2]
  refine(MM.mul MM.rfl (cas hR hC hy hi hl)).trans (MM.of_eq ?_)
  rw[←Int.mul_assoc,Int.mul_comm (atI x l),Int.mul_assoc]
 have h2:MM ((atI x i-atI y i)*sm (fun k=>atI x k*atI y (dd T k)) T.length) 0:=by
  rw[Int.sub_mul]
  exact(MM.sub h1 MM.rfl).trans (MM.of_eq (Int.sub_self _))
 have h3:=mm_can2 hne h2
 unfold pgC
 exact h3
theorem chs_dif(hx:numL x)(hy:numL y)(lx:x.length=T.length)(ly:y.length=T.length)(h:x≠y): ∃i,i<T.length∧(atI x i-atI y i) % 55441≠0:=by
 refine Classical.byContradiction fun hn=>h ?_
 refine List.ext_getElem (by omega) fun i h1 h2=>?_
 have e:(atI x i-atI y i) % 55441=0:=Classical.byContradiction fun he=>hn ⟨i,by omega,he⟩
 have a:=hx i
 have b:=hy i
 unfold num at a b
 have e2:atI x i=atI y i:=by omega
 unfold atI at e2
 rwa [List.getD_eq_getElem?_getD,List.getElem?_eq_getElem h1,List.getD_eq_getElem?_getD,List.getElem?_eq_getElem h2]at e2
noncomputable def idC(T:List (List (List Int)))(x:List Int):List Int:=rws (fun i=>atI x (dd T i)*pw (cdg T x) 55439 % 55441) T.length
theorem len_idC(x:List Int):(idC T x).length=T.length:=zfe _ _
theorem num_idC(x:List Int):numL (idC T x):=numL_rws _ _ fun _ _=>num_mod _
theorem idC_at{i:Nat}(hi:i<T.length):MM (atI (idC T x) i) (atI x (dd T i)*pw (cdg T x) 55439):=by
 unfold idC
 rw[atI_rws _ hi]
 exact MM.mod _
theorem cdg_inv(h0:cdg T x≠0):MM (pw (cdg T x) 55439*sm (fun j=>atI x j*atI x (dd T j)) T.length) 1:=by
 refine MM.trans (MM.mul MM.rfl (MM.mod _).symm) (inv_mul (a:=cdg T x) (num_mod _) h0)
theorem id_one(h0:cdg T x≠0):sm (fun j=>atI x j*atI (idC T x) j) T.length % 55441=1:=by
 have e1:MM (sm (fun j=>atI x j*atI (idC T x) j) T.length) 1:=by
  refine MM.trans (sm_MM (g:=fun j=>pw (cdg T x) 55439*(atI x j*atI x (dd T j))) fun j hj=>(MM.mul MM.rfl (idC_at hj)).trans (MM.of_eq ?_)) ?_
  ·rw[←Int.mul_assoc,Int.mul_comm]
  ·rw[sm_lmul]
   exact cdg_inv h0
 exact e1
theorem id_idem(hR:RngP T)(hC:CmP T)(hx:chP T x)(h0:cdg T x≠0){k:Nat}(hk:k<T.length):MM (sm (fun i=>sm (fun j=>atI (idC T x) i*atI (idC T x) j*at3 T i j k) T.length) T.length) (atI (idC T x) k):=by
 refine MM.trans ?_ (idC_at hk).symm
 generalize hq:pw (cdg T x) 55439=q
 have hqi:MM (q*sm (fun j=>atI x j*atI x (dd T j)) T.length) 1:=by rw[←hq];exact cdg_inv h0
 have he: ∀i,i<T.length→MM (atI (idC T x) i) (atI x (dd T i)*q):=fun i hi=>by rw[←hq];exact idC_at hi
 have e1:MM (sm (fun i=>sm (fun j=>atI (idC T x) i*atI (idC T x) j*at3 T i j k) T.length) T.length) (sm (fun i=>q*q*atI x (dd T k)*(atI x i*atI x (dd T i))) T.length):=sm_MM fun i hi=>by
  refine MM.trans (sm_MM (g:=fun j=>q*q*atI x (dd T i)*(at3 T i j k*atI x (dd T j))) fun j hj=>?_) ?_
  ·refine(MM.mul (MM.mul (he i hi) (he j hj)) MM.rfl).trans (MM.of_eq ?_)
   ac_rfl
  ·rw[sm_lmul]
   refine(MM.mul MM.rfl (cas hR hC hx hi hk)).trans (MM.of_eq ?_)
   ac_rfl
 refine e1.trans ?_
 rw[sm_lmul]
 refine(MM.of_eq ?_).trans ((MM.mul hqi (MM.rfl (a:=q*atI x (dd T k)))).trans (MM.of_eq ?_))
 ·ac_rfl
 ·rw[Int.one_mul,Int.mul_comm]
theorem chsI_pw(T:List (List (List Int))):(chsI T).Pairwise lexl:=List.Pairwise.filter _ (lvl_pw (fun k=>(evl_rng 55441 0 _).1) _)
theorem chs_at(hR:RngP T){i:Nat}(hi:i<(chsI T).length):((chsI T).getD i []).length=T.length∧numL ((chsI T).getD i [])∧chP T ((chsI T).getD i []):=by
 obtain⟨h1,h2,h3⟩:=(chsI_iff hR.1).1 (getD_mem hi)
 exact⟨h1,h2,(chB_iff T _).1 h3⟩
theorem chs_ne{i j:Nat}(h:i<j)(hj:j<(chsI T).length):(chsI T).getD i []≠(chsI T).getD j []:=fun e=>by
 have:=pw_get (chsI_pw T) h hj
 rw[e]at this
 exact lexl_asym this this
theorem chs_ind(hR:RngP T)(hs:(chsI T).length=T.length)(c:Nat→Int)(hc: ∀l,l<T.length→MM (sm (fun i=>c i*atI ((chsI T).getD i []) l) T.length) 0): ∀i,i<T.length→MM (c i) 0:=
 eig_ind (A:=ringM T) (n:=T.length) (K:=T.length) (m:=T.length) (x:=fun i=>atI ((chsI T).getD i [])) (y:=fun i=>atI ((chsI T).getD i []))
  (fun i hi t ht l hl=>ch_eig (chs_at hR (by omega)).2.2 ht l hl) (fun i hi=>ch_nz hR.1.1 (chs_at hR (by omega)).2.2)
  (fun i j hij hj=>chs_dif (chs_at hR (by omega)).2.1 (chs_at hR (by omega)).2.1 (chs_at hR (by omega)).1 (chs_at hR (by omega)).1 (chs_ne hij (by omega))) c hc
theorem chs_pair(hR:RngP T)(hC:CmP T){i j:Nat}(hi:i<(chsI T).length)(hj:j<(chsI T).length)(h:i≠j):MM (sm (fun k=>atI ((chsI T).getD i []) k*atI ((chsI T).getD j []) (dd T k)) T.length) 0:=by
 obtain⟨a1,a2,a3⟩:=chs_at hR hi
 obtain⟨b1,b2,b3⟩:=chs_at hR hj
 have hne:(chsI T).getD i []≠(chsI T).getD j []:=by
  rcases Nat.lt_or_gt_of_ne h with h|h
  ·exact chs_ne h hj
  ·exact fun e=>chs_ne h hi e.symm
 obtain⟨l,hl,hd⟩:=chs_dif a2 b2 a1 b1 hne
 have:=pr_zero hR hC a3 b3 hl hd
 exact this
theorem cdg_ne(hR:RngP T)(hC:CmP T)(hs:(chsI T).length=T.length){a:Nat}(ha:a<T.length):cdg T ((chsI T).getD a [])≠0:=fun h0=>by
 have h:=ker_dual (chs_ind hR hs) (v:=fun k=>atI ((chsI T).getD a []) (dd T k)) (fun i hi=>by
  by_cases e:i=a
  ·subst e;exact h0
  ·exact chs_pair hR hC (by omega) (by omega) e) 0 hR.1.1
 have h1:=(chs_at hR (i:=a) (by omega)).2.2.2
 rw[dd_zero hR,h1]at h
 exact absurd h (by unfold MM;decide)
theorem cdg_sum(hR:RngP T)(hC:CmP T)(hs:(chsI T).length=T.length):MM (sm (fun a=>pw (cdg T ((chsI T).getD a [])) 55439) T.length) 1:=by
 have h0:=hR.1.1
 have h:=ker_dual (chs_ind hR hs) (v:=fun k=>sm (fun a=>pw (cdg T ((chsI T).getD a [])) 55439*atI ((chsI T).getD a []) (dd T k)) T.length-(if k=0 then 1 else 0)) (fun i hi=>by
  have hiX:i<(chsI T).length:=by omega
  have e1:sm (fun k=>atI ((chsI T).getD i []) k*(sm (fun a=>pw (cdg T ((chsI T).getD a [])) 55439*atI ((chsI T).getD a []) (dd T k)) T.length-(if k=0 then 1 else 0))) T.length=sm (fun a=>pw (cdg T ((chsI T).getD a [])) 55439*sm (fun k=>atI ((chsI T).getD i []) k*atI ((chsI T).getD a []) (dd T k)) T.length) T.length-atI ((chsI T).getD i []) 0:=by
   have e2:sm (fun k=>atI ((chsI T).getD i []) k*(sm (fun a=>pw (cdg T ((chsI T).getD a [])) 55439*atI ((chsI T).getD a []) (dd T k)) T.length-(if k=0 then 1 else 0))) T.length=sm (fun k=>sm (fun a=>pw (cdg T ((chsI T).getD a [])) 55439*(atI ((chsI T).getD i []) k*atI ((chsI T).getD a []) (dd T k))) T.length-(if k=0 then atI ((chsI T).getD i []) 0 else 0)) T.length:=sm_congr fun k _=>by
    rw[Int.mul_sub, ←sm_lmul]
    congr 1
    ·exact sm_congr fun a _=>by ac_rfl
    ·split
     ·rename_i e;rw[e,Int.mul_one]
     ·exact Int.mul_zero _
   rw[e2,sm_sub,sm_at h0,sm_comm]
   congr 1
   exact sm_congr fun a _=>sm_lmul _ _ _
  rw[e1,(chs_at hR hiX).2.2.2]
  refine MM.sub (c:=1) (d:=1) (b:=1) ?_ MM.rfl
  refine MM.trans (sm_MM (g:=fun a=>if a=i then 1 else 0) fun a ha=>?_) (MM.of_eq (sm_at hi 1))
  by_cases e:a=i
  ·rw[if_pos e,e]
   exact cdg_inv (cdg_ne hR hC hs hi)
  ·rw[if_neg e]
   exact(MM.mul MM.rfl (chs_pair hR hC hiX (by omega) (fun e'=>e e'.symm))).trans (MM.of_eq (Int.mul_zero _))) 0 h0
 rw[dd_zero hR,if_pos rfl]at h
 have e3:sm (fun a=>pw (cdg T ((chsI T).getD a [])) 55439*atI ((chsI T).getD a []) 0) T.length=sm (fun a=>pw (cdg T ((chsI T).getD a [])) 55439) T.length:=sm_congr fun a ha=>by
  rw[(chs_at hR (by omega)).2.2.2,Int.mul_one]
 rw[e3]at h
 have h4:=MM.add h (MM.rfl (a:=1))
 rw[Int.zero_add]at h4
 refine(MM.of_eq ?_).trans h4
 omega
end
open Classical in
noncomputable def ccV(T:List (List (List Int)))(x y:List Int):Int:=
 if RngP T then if CmP T then if(LC T x∧LC T y)∧chP T x∧chP T y then 0 else 2 else 5 else 1
section
variable{T:List (List (List Int))}{x y:List Int}{c:AV}
theorem ccV_1(h: ¬RngP T):ccV T x y=1:=if_neg h
theorem ccV_5(h:RngP T)(h2: ¬CmP T):ccV T x y=5:=by unfold ccV;rw[if_pos h,if_neg h2]
theorem ccV_2(h:RngP T)(h2:CmP T)(h3: ¬((LC T x∧LC T y)∧chP T x∧chP T y)):ccV T x y=2:=by unfold ccV;rw[if_pos h,if_pos h2,if_neg h3]
theorem ccV_0(h:RngP T)(h2:CmP T)(h3:(LC T x∧LC T y)∧chP T x∧chP T y):ccV T x y=0:=by unfold ccV;rw[if_pos h,if_pos h2,if_pos h3]
theorem ccV_is0(h:ccV T x y=0):RngP T∧CmP T∧(LC T x∧LC T y)∧chP T x∧chP T y:=by
 unfold ccV at h
 split at h
 ·rename_i h1
  split at h
  ·rename_i h2
   split at h
   ·rename_i h3;exact⟨h1,h2,h3⟩
   ·omega
  ·omega
 ·omega
theorem CodP.ex(T:List (List (List Int))):(RngP T∧CmP T)∨ ∃z:Int,CodP T z∧z≠0∧ ∀x y,ccV T x y=z:=by
 by_cases hR:RngP T
 ·by_cases hC:CmP T
  ·exact .inl ⟨hR,hC⟩
  ·exact .inr ⟨5,.inr (.inl ⟨hR,hC,rfl⟩),by decide,fun x y=>ccV_5 hR hC⟩
 ·exact .inr ⟨1,.inr (.inr ⟨hR,rfl⟩),by decide,fun x y=>ccV_1 hR⟩
def PQ2(p r:Prop)(i:Nat):Prop:=(0<i→p)∧(1<i→r)
theorem PQ2.z{p r:Prop}:PQ2 p r 0:=⟨fun h=>absurd h (by decide),fun h=>absurd h (by decide)⟩
theorem PQ2.o{p r:Prop}(h:p):PQ2 p r (0+1):=⟨fun _=>h,fun h=>absurd h (by decide)⟩
theorem PQ2.t{p r:Prop}(q:PQ2 p r 1)(h:r):PQ2 p r (1+1):=⟨fun _=>q.1 (by decide),fun _=>h⟩
theorem k2I0{ro:Ro}{z z':AV}{a1:Nat}{a2:Bool}{a3:List Value}{e:Nat}{a5:List (Nat×Nat)}{a6:Option IntKind}{a7 a8:Bool}{a9 a10:Option (Nat×Nat)}:kIdx (some ⟨a1,a2,a3,some e,a5,a6,a7,a8,a9,a10⟩) ro (.imm [z,z']) (i64 ((0:Nat):Int))=some ⟨.iptr [z],none,[],[]⟩:=by simp[kIdx]
theorem k2I1{ro:Ro}{z z':AV}{a1:Nat}{a2:Bool}{a3:List Value}{e:Nat}{a5:List (Nat×Nat)}{a6:Option IntKind}{a7 a8:Bool}{a9 a10:Option (Nat×Nat)}:kIdx (some ⟨a1,a2,a3,some e,a5,a6,a7,a8,a9,a10⟩) ro (.imm [z,z']) (i64 ((1:Nat):Int))=some ⟨.iptr [z'],none,[],[]⟩:=by simp[kIdx]
theorem k2L{ro:Ro}{z z':AV}{a1:Nat}{a2:Bool}{a3:List Value}{e:Nat}{a5:List (Nat×Nat)}{a6:Option IntKind}{a7 a8:Bool}{a9 a10:Option (Nat×Nat)}:kLen1 (some ⟨a1,a2,a3,some e,a5,a6,a7,a8,a9,a10⟩) ro (.imm [z,z'])=some ⟨i64 (2:Nat),none,[],[]⟩:=by simp[kLen1]
theorem cCcz(hc:isLLL c T)(hz:SzP T){z:Int}(h:CodP T z)(h0:z≠0):CallOK Tryz.prog 51 [.agg [c],.imm [.imm (x.map i64),.imm (y.map i64)],nilA] (i64 z):=by
 have c1:=cCodeI hc hz h
 refine call_of (fn:=Tryz.f51) (code:=bodyOf Tryz.f51) Tryz.func51 rfl (by kernel_rfl) (rfl) ?_
 intro sl hs
 have s0:sl 0= .agg [c]:=hs 0
 have s1:sl 1= .imm [.imm (x.map i64),.imm (y.map i64)]:=hs 1
 have s2:sl 2=nilA:=hs 2
 dsimp only[Tryz.f51,bodyOf,Option.getD]
 refine Yak ?_
 refine CLL_pure _ c1 PUt rfl rfl ?_
 simp only[go_sem, ↓reduceIte,Nat.reduceEqDiff,zc,s0,s1,s2,eq_false h0]
 exact Yaa
set_option maxHeartbeats 4000000 in
theorem cCcP(hc:isLLL c T)(hz:SzP T)(hR:RngP T)(hC:CmP T)(lx:x.length≤maxN)(ly:y.length≤maxN):CallOK Tryz.prog 51 [.agg [c],.imm [.imm (x.map i64),.imm (y.map i64)],nilA] (i64 (ccV T x y)):=by
 have c1:=cCodeI hc hz (z:=0) (.inl ⟨hR,hC,rfl⟩)
 refine call_of (fn:=Tryz.f51) (code:=bodyOf Tryz.f51) Tryz.func51 rfl (by kernel_rfl) (rfl) ?_
 intro sl hs
 have s0:sl 0= .agg [c]:=hs 0
 have s1:sl 1= .imm [.imm (x.map i64),.imm (y.map i64)]:=hs 1
 have s2:sl 2=nilA:=hs 2
 dsimp only[Tryz.f51,bodyOf,Option.getD]
 refine Yak ?_
 refine CLL_pure _ c1 PUt rfl rfl ?_
 refine Yam ?_
 refine CLL_inS rfl (sConc2 (x:=x.map i64) (y:=y.map i64) (by first|exact rfl|(simp only[↓za, ↓reduceIte,Nat.reduceEqDiff,zb,reduceCtorEq])) (by decide)) ?_
 rintro _ ro1 gn1 ⟨rfl,h1, -, h3⟩
 have r4:ro1 4096 1=some (.bx [c]):=by rw[(h3.off 4096 (by decide)).1];simp only[↓za, ↓reduceIte,Nat.reduceEqDiff,zb,reduceCtorEq]
 clear h3
 generalize gn1 40976=u at h1
 simp only[go_sem, ↓reduceIte,Nat.reduceEqDiff,zc,s0,s1,s2,h1]
 refine WK_for (fun i st=>st.sl 1= .imm [.imm (x.map i64),.imm (y.map i64)]∧st.sl 3= .ptr 4096 1 [] 0∧st.ro 4096 1=some (.bx [c])∧st.ro 40976 u=some (.row [.imm (x.map i64),.imm (y.map i64)])∧st.sl 20= .ref 40976 u [] 0 2∧st.sl 21=i64 (2:Nat)∧st.sl 22=i64 (i:Int)∧(PQ2 (LC T x) (LC T y) i)) 2 ?_ ?_ ?_
 ·refine Yat ?_
  exact⟨r4,h1,rfl,PQ2.z⟩
 ·rintro i sl ro gn hi ⟨s1,s3,r4096,r40976,s20,s21,s22,q⟩
  dsimp only at s1 s3 r4096 r40976 s20 s21 s22
  have hi':(i:Int)<(2:Nat):=by omega
  rcases(show i=0∨i=1 by omega)with rfl|rfl
  ·by_cases hL:LC T x
   ·have c2:=cIsLC hc (isL_imm x) lx (t:=true) ⟨fun _=>hL,fun _=>rfl⟩
    refine Yao ?_
    refine CLL_pure _ c2 PUt rfl rfl ?_
    refine Ybh ?_
    exact⟨rfl,PQ2.o hL⟩
   ·have c2:=cIsLC hc (isL_imm x) lx (t:=false) ⟨fun h=>Bool.noConfusion h,fun h=>absurd h hL⟩
    rw[ccV_2 hR hC (fun h=>hL h.1.1)]
    refine Yao ?_
    refine CLL_pure _ c2 PUt rfl rfl ?_
    refine Ybh ?_
    exact Yaa
  ·by_cases hL:LC T y
   ·have c2:=cIsLC hc (isL_imm y) ly (t:=true) ⟨fun _=>hL,fun _=>rfl⟩
    refine Yao ?_
    refine CLL_pure _ c2 PUt rfl rfl ?_
    refine Ybh ?_
    exact⟨rfl,q.t hL⟩
   ·have c2:=cIsLC hc (isL_imm y) ly (t:=false) ⟨fun h=>Bool.noConfusion h,fun h=>absurd h hL⟩
    rw[ccV_2 hR hC (fun h=>hL h.1.2)]
    refine Yao ?_
    refine CLL_pure _ c2 PUt rfl rfl ?_
    refine Ybh ?_
    exact Yaa
 ·rintro sl ro gn ⟨s1,s3,r4096,r40976,s20,s21,s22,q⟩
  dsimp only at s1 s3 r4096 r40976 s20 s21 s22
  have hi': ¬((2:Nat):Int)<(2:Nat):=by omega
  have hLx:=q.1 (by decide)
  have hLy:=q.2 (by decide)
  simp only[go_sem, ↓reduceIte,Nat.reduceEqDiff,zc,s1,s3,r4096,r40976,s20,s21,s22,hi',k2L]
  refine WK_for (fun i st=>st.sl 1= .imm [.imm (x.map i64),.imm (y.map i64)]∧st.sl 3= .ptr 4096 1 [] 0∧st.ro 4096 1=some (.bx [c])∧st.sl 31= .imm [.imm (x.map i64),.imm (y.map i64)]∧st.sl 32=i64 (2:Nat)∧st.sl 33=i64 (i:Int)∧(PQ2 (chP T x) (chP T y) i)) 2 ?_ ?_ ?_
  ·refine Ydk ?_
   exact⟨rfl,PQ2.z⟩
  ·rintro i sl ro gn hi ⟨s1,s3,r4096,s31,s32,s33,q⟩
   dsimp only at s1 s3 r4096 s31 s32 s33
   have hi':(i:Int)<(2:Nat):=by omega
   rcases(show i=0∨i=1 by omega)with rfl|rfl
   ·by_cases hx:chP T x
    ·have c3:=cIsCh hc hR.1 (isL_imm x) hLx.1 (NL_numL hLx.2) (t:=true) ⟨fun _=>hx,fun _=>rfl⟩
     refine Yew ?_
     refine CLL_pure _ c3 PUt rfl rfl ?_
     refine Ybu ?_
     exact⟨rfl,PQ2.o hx⟩
    ·have c3:=cIsCh hc hR.1 (isL_imm x) hLx.1 (NL_numL hLx.2) (t:=false) ⟨fun h=>Bool.noConfusion h,fun h=>absurd h hx⟩
     rw[ccV_2 hR hC (fun h=>hx h.2.1)]
     refine Yew ?_
     refine CLL_pure _ c3 PUt rfl rfl ?_
     refine Ybu ?_
     exact Yaa
   ·by_cases hy:chP T y
    ·have c3:=cIsCh hc hR.1 (isL_imm y) hLy.1 (NL_numL hLy.2) (t:=true) ⟨fun _=>hy,fun _=>rfl⟩
     refine Yex ?_
     refine CLL_pure _ c3 PUt rfl rfl ?_
     refine Ybu ?_
     exact⟨rfl,q.t hy⟩
    ·have c3:=cIsCh hc hR.1 (isL_imm y) hLy.1 (NL_numL hLy.2) (t:=false) ⟨fun h=>Bool.noConfusion h,fun h=>absurd h hy⟩
     rw[ccV_2 hR hC (fun h=>hy h.2.2)]
     refine Yex ?_
     refine CLL_pure _ c3 PUt rfl rfl ?_
     refine Ybu ?_
     exact Yaa
  ·rintro sl ro gn ⟨s1,s3,r4096,s31,s32,s33,q⟩
   dsimp only at s1 s3 r4096 s31 s32 s33
   have hi': ¬((2:Nat):Int)<(2:Nat):=by omega
   rw[ccV_0 hR hC ⟨⟨hLx,hLy⟩,q.1 (by decide),q.2 (by decide)⟩]
   simp only[go_sem, ↓reduceIte,Nat.reduceEqDiff,zc,s1,s3,r4096,s31,s32,s33,hi',k2L]
   exact Yaa
end
end Go.Proofs.YtbakhfiibjkifaaGreat
/- Characters: the reference's code of characters. -/
namespace Go.Proofs.YtbakhfiibjkifaaGreat
open Go.RowKit
set_option maxRecDepth 1000000
def cdF(f:Nat)(i:Nat):Int:=if i≤f then 0 else 2
theorem cdF_le{f i:Nat}(h:i≤f):cdF f i=0:=if_pos h
theorem cdF_gt{f i:Nat}(h:f<i):cdF f i=2:=if_neg (by omega)
open Classical in
theorem lc3{T:List (List (List Int))}{x:List Int}(h: ¬(LC T x∧chP T x)):x.length≠T.length∨(x.length=T.length∧ ¬NL x)∨(LC T x∧ ¬chP T x):=by
 by_cases h1:x.length=T.length
 ·by_cases h2:NL x
  ·exact .inr (.inr ⟨⟨h1,h2⟩,fun h3=>h ⟨⟨h1,h2⟩,h3⟩⟩)
  ·exact .inr (.inl ⟨h1,h2⟩)
 ·exact .inl h1
section
variable{T:List (List (List Int))}{x y:List Int}{c a b:AV}
theorem cL8G(hc:isLLL c T)(hR:RngP T)(hC:CmP T){l:AV}{X:List (List Int)}(hl:isLL l X)(hX:X.length≤1000)(hXl: ∀k,k<X.length→(row X k).length≤maxN){f:Nat}(hf:f≤X.length)(hg: ∀k,k<f→LC T (row X k)∧chP T (row X k))(hb:f<X.length→ ¬(LC T (row X f)∧chP T (row X f))):CallOK Tryz.prog 56 [.agg [c],bo true,l] (i64 (if f<X.length then 2 else 0)):=by
 have c1:=cCodeS hc (z:=0) (.inl ⟨hR,hC,rfl⟩)
 have hpl:pureA l=true:=isLL_pure hl
 obtain⟨N,hN⟩: ∃N,N=if f<X.length then f+1 else X.length:=⟨_,rfl⟩
 have hN1:N≤X.length:=by rw[hN];split<;>omega
 have hN2: ∀i,i<N→i≤f:=fun i hi=>by rw[hN]at hi;split at hi<;>omega
 refine call_of (fn:=Tryz.f56) (code:=bodyOf Tryz.f56) Tryz.func56 rfl (by kernel_rfl) (rfl) ?_
 intro sl hs
 have s0:sl 0= .agg [c]:=hs 0
 have s1:sl 1=bo true:=hs 1
 have s2:sl 2=l:=hs 2
 dsimp only[Tryz.f56,bodyOf,Option.getD]
 refine Yak ?_
 refine CLL_pure _ c1 PUt rfl rfl ?_
 refine Ybl ?_
 refine WK_for (fun i st=>st.sl 1=bo true∧st.sl 2=l∧st.sl 3= .ptr 4096 1 [] 0∧st.ro 4096 1=some (.bx [c])∧st.sl 7=i64 (cdF f i)∧st.sl 8=i64 (i:Int)) N ?_ ?_ ?_
 ·refine Yat ?_
  exact⟨rfl,rfl⟩
 ·rintro i sl ro gn hi ⟨s1,s2,s3,r4096,s7,s8⟩
  dsimp only at s1 s2 s3 r4096 s7 s8
  have hi':(i:Int)<(N:Nat):=by omega
  have hif:=hN2 i hi
  have hK:i<X.length:=by omega
  have ltK:(i:Int)<(X.length:Nat):=by omega
  have hZ:=isLL_row hl hK
  have lz:=hXl i hK
  have cd0:=cdF_le hif
  rcases Nat.lt_or_eq_of_le hif with hlt|rfl
  ·obtain⟨hL,hx⟩:=hg i hlt
   have c2:=c123 hZ lz (t:=true) ⟨fun _=>hL.2,fun _=>rfl⟩
   have c8:=cIs08 hc hR.1 hZ hL.1 (NL_numL hL.2) (t:=true) ⟨fun _=>hx,fun _=>rfl⟩
   have hlZ:((row X i).length:Int)=T.length:=by have:=hL.1;omega
   have cd1:cdF f (i+1)=0:=cdF_le hlt
   refine Ybk ?_
   refine CLLD_pure _ c2 PUt rfl ?_
   refine Yal ?_
   refine CLLD_pure _ c8 PUt rfl ?_
   refine Yal ?_
   refine FIN_of (by kernel_rfl) ?_
   refine Yal ?_
   exact⟨congrArg i64 (cd0.trans cd1.symm),i64c (by omega)⟩
  ·have cd1:cdF i (i+1)=2:=cdF_gt (Nat.lt_succ_self i)
   rcases lc3 (hb hK)with h|⟨h,hn⟩|⟨hL,hx⟩
   ·have hlZ: ¬((row X i).length:Int)=T.length:=by omega
    simp(disch:=first|assumption|omega) only[go_sem, ↓reduceIte,Nat.reduceEqDiff,zc,s1,s2,s3,r4096,s7,s8,hi',hi,isLL_len hl,ltK,isLL_idx hl hK,isL_len hZ,isLLL_len hc,eq_false hlZ,ti33,ti31,cd0]
    refine FIN_of (by kernel_rfl) ?_
    refine Yal ?_
    exact⟨congrArg i64 cd1.symm,i64c (by omega)⟩
   ·have hlZ:((row X i).length:Int)=T.length:=by omega
    have c2:=c123 hZ lz (t:=false) ⟨fun h=>Bool.noConfusion h,fun h=>absurd h hn⟩
    refine Ybk ?_
    refine CLLD_pure _ c2 PUt rfl ?_
    refine Yal ?_
    refine FIN_of (by kernel_rfl) ?_
    refine Yal ?_
    exact⟨congrArg i64 cd1.symm,i64c (by omega)⟩
   ·have hlZ:((row X i).length:Int)=T.length:=by have:=hL.1;omega
    have c2:=c123 hZ lz (t:=true) ⟨fun _=>hL.2,fun _=>rfl⟩
    have c8:=cIs08 hc hR.1 hZ hL.1 (NL_numL hL.2) (t:=false) ⟨fun h=>Bool.noConfusion h,fun h=>absurd h hx⟩
    refine Ybk ?_
    refine CLLD_pure _ c2 PUt rfl ?_
    refine Yal ?_
    refine CLLD_pure _ c8 PUt rfl ?_
    refine Yal ?_
    refine FIN_of (by kernel_rfl) ?_
    refine Yal ?_
    exact⟨congrArg i64 cd1.symm,i64c (by omega)⟩
 ·rintro sl ro gn ⟨s1,s2,s3,r4096,s7,s8⟩
  dsimp only at s1 s2 s3 r4096 s7 s8
  have hi': ¬((N:Nat):Int)<(N:Nat):=by omega
  by_cases hfl:f<X.length
  ·rw[if_pos hfl]at hN ⊢
   have cd1:cdF f N=2:=cdF_gt (by omega)
   by_cases hNl:(N:Int)<(X.length:Nat)
   ·simp(disch:=first|assumption|omega) only[go_sem, ↓reduceIte,Nat.reduceEqDiff,zc,s1,s2,s3,r4096,s7,s8,hi',isLL_len hl,eq_true hNl,cd1]
    exact Yaa
   ·refine Yek ?_
    exact Yaa
  ·rw[if_neg hfl]at hN ⊢
   have cd1:cdF f N=0:=cdF_le (by omega)
   have hNl: ¬(N:Int)<(X.length:Nat):=by omega
   refine Yek ?_
   exact Yaa
theorem cL8z(hc:isLLL c T){l:AV}{X:List (List Int)}(hl:isLL l X){z:Int}(h:CodP T z)(hz:z≠0)(h0:0<X.length):CallOK Tryz.prog 56 [.agg [c],bo true,l] (i64 z):=by
 have c1:=cCodeS hc h
 have h0':(0:Int)<(X.length:Nat):=by omega
 have h0'':((0:Nat):Int)<(X.length:Nat):=by omega
 refine call_of (fn:=Tryz.f56) (code:=bodyOf Tryz.f56) Tryz.func56 rfl (by kernel_rfl) (rfl) ?_
 intro sl hs
 have s0:sl 0= .agg [c]:=hs 0
 have s1:sl 1=bo true:=hs 1
 have s2:sl 2=l:=hs 2
 dsimp only[Tryz.f56,bodyOf,Option.getD]
 refine Yak ?_
 refine CLL_pure _ c1 PUt rfl rfl ?_
 refine Ybl ?_
 refine WK_for (fun i st=>st.sl 2=l∧st.sl 7=i64 z∧st.sl 8=i64 (i:Int)) 0 ?_ ?_ ?_
 ·refine Yat ?_
  exact rfl
 ·rintro i sl ro gn hi ⟨s2,s7,s8⟩
  dsimp only at s2 s7 s8
  have hi':(i:Int)<(0:Nat):=by omega
  exact absurd hi (Nat.not_lt_zero _)
 ·rintro sl ro gn ⟨s2,s7,s8⟩
  dsimp only at s2 s7 s8
  have hi': ¬((0:Nat):Int)<(0:Nat):=by omega
  simp(disch:=first|assumption|omega) only[go_sem, ↓reduceIte,Nat.reduceEqDiff,zc,s2,s7,s8,hi',isLL_len hl,h0',h0'',eq_false hz]
  exact Yaa
end
end Go.Proofs.YtbakhfiibjkifaaGreat
/- Characters: pairings and codegrees by both. -/
namespace Go.Proofs.YtbakhfiibjkifaaGreat
open Go.RowKit
set_option maxRecDepth 1000000
section
variable{T:List (List (List Int))}{x y:List Int}{c a b d:AV}
theorem exq_pr{ro:Ro}{s g k:Nat}{xs ys:List Int}(h:ro s g=some (.row [.imm (xs.map i64),.imm (ys.map i64)]))(hk:3≤k):exq k ro (.ref s g [] 0 2) (immLL [xs,ys]):=by
 refine⟨fun q hq=>?_,fun hp=>by simp[pureA]at hp⟩
 obtain⟨j,rfl⟩: ∃j,q=j+3:=⟨q-3,by omega⟩
 have hc:ro.cells s g []=some [.imm (xs.map i64),.imm (ys.map i64)]:=by simp only[Ro.cells,h,blk]
 have hm: ∀l:List Int,(l.map i64).map (ex ro (j+1))=l.map i64:=fun l=>by rw[List.map_map];exact List.map_congr_left fun _ _=>rfl
 have h1: ∀l:List Int,ex ro (j+2) (.imm (l.map i64))= .imm (l.map i64):=fun l=>congrArg AV.imm (hm l)
 show (match ro.cells s g []with|some cs=>AV.imm (((cs.drop 0).take 2).map (ex ro (j+2)))|none=> .dead)=_
 rw[hc]
 show AV.imm [ex ro (j+2) _,ex ro (j+2) _]=_
 rw[h1,h1]
 rfl
theorem cPgI(hc:isLLL c T)(hR:RngP T)(ha:isL a x)(hb:isL b y)(hl:x.length=T.length)(hly:y.length=T.length)(nx:numL x)(ny:numL y):CallOK Tryz.prog 58 [.agg [c],a,b] (i64 (pgC T x y)):=by
 obtain⟨t1,t16,hcu⟩:=id hR.1
 have cd:=cDualsI hc hR.1
 rw[duals_nat hR]at cd
 have ct:=cTurnL (d:=dd T) (isL_imm (rws (fun i=>((dd T i:Nat):Int)) T.length)) hb (by omega) (fun i hi=>by rw[hly];exact(dd_ok hR hi).2)
 have hl2:(rws (fun i=>((dd T i:Nat):Int)) T.length).length=T.length:=zfe _ _
 have hl3:(rws (fun i=>atI y (dd T i)) T.length).length=T.length:=zfe _ _
 have cdot:=c119 ha (isL_imm (rws (fun i=>atI y (dd T i)) T.length)) (by rw[hl];unfold maxN;omega) (by rw[hl3,hl];exact Nat.le_refl _) nx (numL_rws _ _ fun i _=>ny _)
 have ec:sm (fun j=>atI x j*atI (rws (fun i=>atI y (dd T i)) T.length) j) x.length % 55441=pgC T x y:=by
  unfold pgC
  rw[hl]
  exact congrArg (· % 55441) (sm_congr fun j hj=>by rw[atI_rws _ hj])
 rw[ec]at cdot
 refine call_of (fn:=Tryz.f58) (code:=bodyOf Tryz.f58) Tryz.func58 rfl (by kernel_rfl) (rfl) ?_
 intro sl hs
 have s0:sl 0= .agg [c]:=hs 0
 have s1:sl 1=a:=hs 1
 have s2:sl 2=b:=hs 2
 dsimp only[Tryz.f58,bodyOf,Option.getD]
 refine Yak ?_
 refine CLL_pure _ cd PUt rfl rfl ?_
 refine Yfb ?_
 refine CLL_q _ ct (.cons (exq_refL (xs:=rws (fun i=>((dd T i:Nat):Int)) T.length) Ur hl2.symm (by decide)) (.cons (exq_L hb (by decide)) .nil)) rfl rfl (noI_rowL _) ?_
 simp only[go_sem, ↓reduceIte,Nat.reduceEqDiff,zc,s0,s1,s2,impE_row,List.length_map,hl3]
 refine CLL_q _ cdot (.cons (exq_L ha (by decide)) (.cons (exq_refL (xs:=rws (fun i=>atI y (dd T i)) T.length) Ur hl3.symm (by decide)) .nil)) rfl rfl rfl ?_
 refine Yec ?_
 exact Yaa
theorem cPgS(hR:RngP T)(ha:isL a x)(hb:isL b y)(hd:isL d (rws (fun i=>((dd T i:Nat):Int)) T.length))(hl:x.length=T.length)(hly:y.length=T.length)(nx:numL x)(ny:numL y):CallOK Tryz.prog 59 [a,b,d] (i64 (pgC T x y)):=by
 obtain⟨t1,t16,hcu⟩:=id hR.1
 have hl2:(rws (fun i=>((dd T i:Nat):Int)) T.length).length=T.length:=zfe _ _
 refine call_of (fn:=Tryz.f59) (code:=bodyOf Tryz.f59) Tryz.func59 rfl (by kernel_rfl) (rfl) ?_
 intro sl hs
 have s0:sl 0=a:=hs 0
 have s1:sl 1=b:=hs 1
 have s2:sl 2=d:=hs 2
 dsimp only[Tryz.f59,bodyOf,Option.getD]
 refine Yec ?_
 refine WK_for (fun i st=>st.sl 0=a∧st.sl 1=b∧st.sl 2=d∧st.sl 7=i64 (sm (fun j=>atI x j*atI y (dd T j)) i % 55441)∧st.sl 8=i64 (i:Int)) x.length ?_ ?_ ?_
 ·refine Yat ?_
  repeat' first|rfl|apply And.intro
 ·rintro i sl ro gn hi ⟨s0,s1,s2,s7,s8⟩
  dsimp only at s0 s1 s2 s7 s8
  have hi':(i:Int)<(x.length:Nat):=by omega
  have hin:i<T.length:=by omega
  have hbi:i<(rws (fun i=>((dd T i:Nat):Int)) T.length).length:=by omega
  have hdi:dd T i<y.length:=by rw[hly];exact(dd_ok hR hin).2
  have ea:atI (rws (fun i=>((dd T i:Nat):Int)) T.length) i=(dd T i:Nat):=atI_rws _ hin
  have n1:=nx i
  have n2:=ny (dd T i)
  have n3:=num_mod (sm (fun j=>atI x j*atI y (dd T j)) i)
  unfold num at n1 n2 n3
  have mu:=mulB n1.1 (show atI x i≤55440 by omega) n2.1 (show atI y (dd T i)≤55440 by omega)
  have tm:Int.tmod (sm (fun j=>atI x j*atI y (dd T j)) i % 55441+atI x i*atI y (dd T i)) 55441=sm (fun j=>atI x j*atI y (dd T j)) (i+1) % 55441:=by
   rw[←sm_step (fun j=>atI x j*atI y (dd T j)) i]
   exact Int.tmod_eq_emod_of_nonneg (by omega)
  simp(disch:=first|assumption|omega) only[go_sem, ↓reduceIte,Nat.reduceEqDiff,zc,s0,s1,s2,s7,s8,hi',hi,isL_len ha,isL_idx ha hi,isL_idx hd hbi,ea,isL_idx hb hdi,tm]
  refine FIN_of (by kernel_rfl) ?_
  simp(maxSteps:=10000000) (disch:=first|assumption|omega) only[go_sem, ↓reduceIte,Nat.reduceEqDiff,reduceCtorEq,Nat.reduceAdd,Nat.reduceMul,Nat.reduceLeDiff,zc,Int.reduceToNat,s0,s1,s2,s7,s8,hi',hi]
  exact i64c (by omega)
 ·rintro sl ro gn ⟨s0,s1,s2,s7,s8⟩
  dsimp only at s0 s1 s2 s7 s8
  have hi': ¬((x.length:Nat):Int)<(x.length:Nat):=by omega
  simp only[go_sem, ↓reduceIte,Nat.reduceEqDiff,zc,s0,s1,s2,s7,s8,hi',isL_len ha]
  refine Yab ?_
  unfold pgC
  rw[hl]
theorem cCcA(hc:isLLL c T)(hz:SzP T)(lx:x.length≤maxN)(ly:y.length≤maxN):CallOK Tryz.prog 51 [.agg [c],.imm [.imm (x.map i64),.imm (y.map i64)],nilA] (i64 (ccV T x y)):=by
 rcases CodP.ex T with⟨hR,hC⟩|⟨z,h,h0,e⟩
 ·exact cCcP hc hz hR hC lx ly
 ·rw[e];exact cCcz hc hz h h0
theorem cL8A(hc:isLLL c T)(lx:x.length≤maxN)(ly:y.length≤maxN):CallOK Tryz.prog 56 [.agg [c],bo true,immLL [x,y]] (i64 (ccV T x y)):=by
 have hl:isLL (immLL [x,y]) [x,y]:=isLL_imm [x,y]
 rcases CodP.ex T with⟨hR,hC⟩|⟨z,h,h0,e⟩
 ·have hXl: ∀k,k< [x,y].length→(row [x,y] k).length≤maxN:=fun k hk=>by
   rcases(show k=0∨k=1 by simp at hk;omega)with rfl|rfl
   ·exact lx
   ·exact ly
  by_cases hx:LC T x∧chP T x
  ·by_cases hy:LC T y∧chP T y
   ·rw[ccV_0 hR hC ⟨⟨hx.1,hy.1⟩,hx.2,hy.2⟩]
    exact cL8G hc hR hC hl (by simp) hXl (f:=2) (by simp) (fun k hk=>by
     rcases(show k=0∨k=1 by omega)with rfl|rfl
     ·exact hx
     ·exact hy) (fun h=>absurd h (by simp))
   ·rw[ccV_2 hR hC (fun h=>hy ⟨h.1.2,h.2.2⟩)]
    exact cL8G hc hR hC hl (by simp) hXl (f:=1) (by simp) (fun k hk=>by
     rcases(show k=0 by omega)with rfl
     exact hx) (fun _=>hy)
  ·rw[ccV_2 hR hC (fun h=>hx ⟨h.1.1,h.2.1⟩)]
   exact cL8G hc hR hC hl (by simp) hXl (f:=0) (by simp) (fun k hk=>absurd hk (Nat.not_lt_zero _)) (fun _=>hx)
 ·rw[e];exact cL8z hc hl h h0 (by simp)
theorem cL81(hc:isLLL c T)(hR:RngP T)(hC:CmP T)(hL:LC T x)(hx:chP T x):CallOK Tryz.prog 56 [.agg [c],bo true,immLL [x]] (i64 0):=
 cL8G hc hR hC (isLL_imm [x]) (by simp) (f:=1) (fun k hk=>by
  rcases(show k=0 by simp at hk;omega)with rfl
  have:=hR.1.2.1
  have e:=hL.1
  show x.length≤_
  unfold maxN;omega) (by simp) (fun k hk=>by
  rcases(show k=0 by omega)with rfl
  exact⟨hL,hx⟩) (fun h=>absurd h (by simp))
theorem cPo1(hc:isLLL c T)(hz:SzP T)(lx:x.length≤maxN)(ly:y.length≤maxN)(h:ccV T x y≠0):CallOK Tryz.prog 22 [.agg [c],.imm (x.map i64),.imm (y.map i64)] (.tup [i64 0,i64 (ccV T x y)]):=by
 have c1:=cCcA hc hz lx ly
 refine call_of (fn:=Tryz.f22) (code:=bodyOf Tryz.f22) Tryz.func22 rfl (by kernel_rfl) (rfl) ?_
 intro sl hs
 have s0:sl 0= .agg [c]:=hs 0
 have s1:sl 1= .imm (x.map i64):=hs 1
 have s2:sl 2= .imm (y.map i64):=hs 2
 dsimp only[Tryz.f22,bodyOf,Option.getD]
 refine Yak ?_
 refine CLL_q _ c1 (.cons (exq_agg (n:=7) (.cons (exq_LLL hc (by decide)) .nil)) (.cons (exq_pr (xs:=x) (ys:=y) (by first|exact rfl|(simp only[↓za, ↓reduceIte,Nat.reduceEqDiff,zb,reduceCtorEq])) (by decide)) (.cons (exq_sc _ _ _ (by decide)) .nil))) rfl rfl rfl ?_
 simp only[go_sem, ↓reduceIte,Nat.reduceEqDiff,zc,s0,s1,s2,eq_false h]
 exact Yaa
theorem cPo0(hc:isLLL c T)(hz:SzP T)(hR:RngP T)(hC:CmP T)(hLx:LC T x)(hLy:LC T y)(hx:chP T x)(hy:chP T y):CallOK Tryz.prog 22 [.agg [c],.imm (x.map i64),.imm (y.map i64)] (.tup [i64 (pgC T x y),i64 0]):=by
 have h16:=hR.1.2.1
 have lx:x.length≤maxN:=by rw[hLx.1];unfold maxN;omega
 have ly:y.length≤maxN:=by rw[hLy.1];unfold maxN;omega
 have c1:=cCcA hc hz lx ly
 rw[ccV_0 hR hC ⟨⟨hLx,hLy⟩,hx,hy⟩]at c1
 have c2:=cPgI hc hR (isL_imm x) (isL_imm y) hLx.1 hLy.1 (NL_numL hLx.2) (NL_numL hLy.2)
 refine call_of (fn:=Tryz.f22) (code:=bodyOf Tryz.f22) Tryz.func22 rfl (by kernel_rfl) (rfl) ?_
 intro sl hs
 have s0:sl 0= .agg [c]:=hs 0
 have s1:sl 1= .imm (x.map i64):=hs 1
 have s2:sl 2= .imm (y.map i64):=hs 2
 dsimp only[Tryz.f22,bodyOf,Option.getD]
 refine Yak ?_
 refine CLL_q _ c1 (.cons (exq_agg (n:=7) (.cons (exq_LLL hc (by decide)) .nil)) (.cons (exq_pr (xs:=x) (ys:=y) (by first|exact rfl|(simp only[↓za, ↓reduceIte,Nat.reduceEqDiff,zb,reduceCtorEq])) (by decide)) (.cons (exq_sc _ _ _ (by decide)) .nil))) rfl rfl rfl ?_
 refine Yam ?_
 refine CLL_pure _ c2 PUt rfl rfl ?_
 refine Yec ?_
 exact Yaa
theorem cPs1(hc:isLLL c T)(lx:x.length≤maxN)(ly:y.length≤maxN)(h:ccV T x y≠0):CallOK Tryz.prog 23 [.agg [c],.imm (x.map i64),.imm (y.map i64)] (.tup [i64 0,i64 (ccV T x y)]):=by
 have c1:=cL8A hc lx ly
 refine call_of (fn:=Tryz.f23) (code:=bodyOf Tryz.f23) Tryz.func23 rfl (by kernel_rfl) (rfl) ?_
 intro sl hs
 have s0:sl 0= .agg [c]:=hs 0
 have s1:sl 1= .imm (x.map i64):=hs 1
 have s2:sl 2= .imm (y.map i64):=hs 2
 dsimp only[Tryz.f23,bodyOf,Option.getD]
 refine Yak ?_
 refine CLL_q _ c1 (.cons (exq_agg (n:=7) (.cons (exq_LLL hc (by decide)) .nil)) (.cons (exq_sc _ _ _ (by decide)) (.cons (exq_pr (xs:=x) (ys:=y) (by first|exact rfl|(simp only[↓za, ↓reduceIte,Nat.reduceEqDiff,zb,reduceCtorEq])) (by decide)) .nil))) rfl rfl rfl ?_
 simp only[go_sem, ↓reduceIte,Nat.reduceEqDiff,zc,s0,s1,s2,eq_false h]
 exact Yaa
theorem cPs0(hc:isLLL c T)(hR:RngP T)(hC:CmP T)(hLx:LC T x)(hLy:LC T y)(hx:chP T x)(hy:chP T y):CallOK Tryz.prog 23 [.agg [c],.imm (x.map i64),.imm (y.map i64)] (.tup [i64 (pgC T x y),i64 0]):=by
 have h16:=hR.1.2.1
 have lx:x.length≤maxN:=by rw[hLx.1];unfold maxN;omega
 have ly:y.length≤maxN:=by rw[hLy.1];unfold maxN;omega
 have c1:=cL8A hc lx ly
 rw[ccV_0 hR hC ⟨⟨hLx,hLy⟩,hx,hy⟩]at c1
 have cd:=cDualsS hc hR.1
 rw[duals_nat hR]at cd
 have hl2:(rws (fun i=>((dd T i:Nat):Int)) T.length).length=T.length:=zfe _ _
 have c2:=cPgS hR (isL_imm x) (isL_imm y) (isL_imm (rws (fun i=>((dd T i:Nat):Int)) T.length)) hLx.1 hLy.1 (NL_numL hLx.2) (NL_numL hLy.2)
 refine call_of (fn:=Tryz.f23) (code:=bodyOf Tryz.f23) Tryz.func23 rfl (by kernel_rfl) (rfl) ?_
 intro sl hs
 have s0:sl 0= .agg [c]:=hs 0
 have s1:sl 1= .imm (x.map i64):=hs 1
 have s2:sl 2= .imm (y.map i64):=hs 2
 dsimp only[Tryz.f23,bodyOf,Option.getD]
 refine Yak ?_
 refine CLL_q _ c1 (.cons (exq_agg (n:=7) (.cons (exq_LLL hc (by decide)) .nil)) (.cons (exq_sc _ _ _ (by decide)) (.cons (exq_pr (xs:=x) (ys:=y) (by first|exact rfl|(simp only[↓za, ↓reduceIte,Nat.reduceEqDiff,zb,reduceCtorEq])) (by decide)) .nil))) rfl rfl rfl ?_
 refine Yam ?_
 refine CLL_pure _ cd PUt rfl rfl ?_
 refine Yfb ?_
 refine CLL_q _ c2 (.cons (exq_L (isL_imm x) (by decide)) (.cons (exq_L (isL_imm y) (by decide)) (.cons (exq_refL (xs:=rws (fun i=>((dd T i:Nat):Int)) T.length) Ur hl2.symm (by decide)) .nil))) rfl rfl rfl ?_
 refine Yec ?_
 exact Yaa
theorem cCgI(hc:isLLL c T)(hz:SzP T)(hR:RngP T)(hC:CmP T)(hL:LC T x)(hx:chP T x):CallOK Tryz.prog 24 [.agg [c],.imm (x.map i64)] (.tup [i64 (cdg T x),i64 0]):=by
 have c1:=cPo0 hc hz hR hC hL hL hx hx
 rw[pgC_self]at c1
 refine call_of (fn:=Tryz.f24) (code:=bodyOf Tryz.f24) Tryz.func24 rfl (by kernel_rfl) (rfl) ?_
 intro sl hs
 have s0:sl 0= .agg [c]:=hs 0
 have s1:sl 1= .imm (x.map i64):=hs 1
 dsimp only[Tryz.f24,bodyOf,Option.getD]
 refine Ybi ?_
 refine CLL_pure _ c1 PUt rfl rfl ?_
 simp only[go_sem, ↓reduceIte,Nat.reduceEqDiff,zc,s0,s1,imp_tN]
 exact Yaa
end
section
variable{T:List (List (List Int))}{x y:List Int}{c a b d:AV}
theorem cTurnS{n:Nat}{f:Nat→Nat}(ha:isL a x)(hb:isL b (rws (fun i=>((f i:Nat):Int)) n))(hl:x.length=n)(hn:n≤65536)(hd: ∀i,i<n→f i<n):CallOK Tryz.prog 63 [a,b] (rowL (rws (fun i=>atI x (f i)) n)):=by
 have hl2:(rws (fun i=>((f i:Nat):Int)) n).length=n:=zfe _ _
 subst hl
 refine call_of (fn:=Tryz.f63) (code:=bodyOf Tryz.f63) Tryz.func63 rfl (by kernel_rfl) (noRef_rowL _) ?_
 intro sl hs
 have s0:sl 0=a:=hs 0
 have s1:sl 1=b:=hs 1
 dsimp only[Tryz.f63,bodyOf,Option.getD]
 refine Yaj ?_
 refine WK_for (fun i st=>st.sl 0=a∧st.sl 1=b∧st.sl 6=i64 (i:Int)∧st.sl 5= .ref 8192 (st.gn 8192) [] 0 i∧st.ro 8192 (st.gn 8192)=some (.row (rws (fun i=>i64 (atI x (f i))) i))) x.length ?_ ?_ ?_
 ·refine Yae ?_
  repeat' first|rfl|apply And.intro
 ·rintro i sl ro gn hi ⟨s0,s1,s6,s5,r8192⟩
  dsimp only at s0 s1 s6 s5 r8192
  have hi':(i:Int)<(x.length:Nat):=by omega
  have hi2:i+1≤4294967296:=by omega
  have hbi:i<(rws (fun i=>((f i:Nat):Int)) x.length).length:=by omega
  have hdi:=hd i hi
  have ea:atI (rws (fun i=>((f i:Nat):Int)) x.length) i=(f i:Nat):=atI_rws _ hi
  simp(disch:=first|assumption|omega) only[go_sem, ↓reduceIte,Nat.reduceEqDiff,Nat.reduceAdd,Nat.reduceMul,zc,s0,s1,s6,s5,r8192,hi',hi,isL_len ha,isL_idx hb hbi,ea,isL_idx ha hdi,hi2]
  exact i64c (by omega)
 ·rintro sl ro gn ⟨s0,s1,s6,s5,r8192⟩
  dsimp only at s0 s1 s6 s5 r8192
  have hi': ¬((x.length:Nat):Int)<(x.length:Nat):=by omega
  simp only[go_sem, ↓reduceIte,Nat.reduceEqDiff,zc,s0,s1,s6,s5,r8192,hi',isL_len ha]
  exact Ydc
theorem cIdI5(hc:isLLL c T)(hz:SzP T)(hR:RngP T)(hC:CmP T)(hL:LC T x)(hx:chP T x)(h0:cdg T x=0):CallOK Tryz.prog 26 [.agg [c],.imm (x.map i64)] (.tup [nilA,i64 5]):=by
 have c1:=cCc1 hc hz hR hC hL hx
 have c2:=cPgI hc hR (isL_imm x) (isL_imm x) hL.1 hL.1 (NL_numL hL.2) (NL_numL hL.2)
 rw[pgC_self,h0]at c2
 refine call_of (fn:=Tryz.f26) (code:=bodyOf Tryz.f26) Tryz.func26 rfl (by kernel_rfl) (rfl) ?_
 intro sl hs
 have s0:sl 0= .agg [c]:=hs 0
 have s1:sl 1= .imm (x.map i64):=hs 1
 dsimp only[Tryz.f26,bodyOf,Option.getD]
 refine Ybi ?_
 refine CLL_q _ c1 (.cons (exq_agg (n:=7) (.cons (exq_LLL hc (by decide)) .nil)) (.cons (exq_one (xs:=x) (by first|exact rfl|(simp only[↓za, ↓reduceIte,Nat.reduceEqDiff,zb,reduceCtorEq])) (by decide)) (.cons (exq_sc _ _ _ (by decide)) .nil))) rfl rfl rfl ?_
 refine Ybq ?_
 refine CLL_pure _ c2 PUt rfl rfl ?_
 refine Yap ?_
 exact Yaa
theorem idC_row(x:List Int):rowL (idC T x)= .row (rws (fun i=>i64 (qt (atI x (dd T i)) (cdg T x))) T.length):=by
 unfold idC
 rw[rowL,rws_map]
 rfl
theorem cIdI(hc:isLLL c T)(hz:SzP T)(hR:RngP T)(hC:CmP T)(hL:LC T x)(hx:chP T x)(h0:cdg T x≠0):CallOK Tryz.prog 26 [.agg [c],.imm (x.map i64)] (.tup [rowL (idC T x),i64 0]):=by
 obtain⟨t1,t16,hcu⟩:=id hR.1
 have c1:=cCc1 hc hz hR hC hL hx
 have c2:=cPgI hc hR (isL_imm x) (isL_imm x) hL.1 hL.1 (NL_numL hL.2) (NL_numL hL.2)
 rw[pgC_self]at c2
 have cd:=cDualsI hc hR.1
 rw[duals_nat hR]at cd
 have ct:=cTurnL (d:=dd T) (isL_imm (rws (fun i=>((dd T i:Nat):Int)) T.length)) (isL_imm x) (by omega) (fun i hi=>by rw[hL.1];exact(dd_ok hR hi).2)
 have hl2:(rws (fun i=>((dd T i:Nat):Int)) T.length).length=T.length:=zfe _ _
 have hl3:(rws (fun i=>atI x (dd T i)) T.length).length=T.length:=zfe _ _
 have nc:num (cdg T x):=num_mod _
 refine call_of (fn:=Tryz.f26) (code:=bodyOf Tryz.f26) Tryz.func26 rfl (by kernel_rfl) (noRef_tL _ _) ?_
 intro sl hs
 have s0:sl 0= .agg [c]:=hs 0
 have s1:sl 1= .imm (x.map i64):=hs 1
 dsimp only[Tryz.f26,bodyOf,Option.getD]
 refine Ybi ?_
 refine CLL_q _ c1 (.cons (exq_agg (n:=7) (.cons (exq_LLL hc (by decide)) .nil)) (.cons (exq_one (xs:=x) (by first|exact rfl|(simp only[↓za, ↓reduceIte,Nat.reduceEqDiff,zb,reduceCtorEq])) (by decide)) (.cons (exq_sc _ _ _ (by decide)) .nil))) rfl rfl rfl ?_
 refine Ybq ?_
 refine CLL_pure _ c2 PUt rfl rfl ?_
 simp(disch:=first|assumption|omega) only[go_sem, ↓reduceIte,Nat.reduceEqDiff,zc,s0,s1,eq_false h0,ti33,ti31]
 refine CLL_pure _ cd PUt rfl rfl ?_
 refine Yfn ?_
 refine CLL_q _ ct (.cons (exq_refL (xs:=rws (fun i=>((dd T i:Nat):Int)) T.length) Ur hl2.symm (by decide)) (.cons (exq_L (isL_imm x) (by decide)) .nil)) rfl rfl (noI_rowL _) ?_
 simp only[go_sem, ↓reduceIte,Nat.reduceEqDiff,Nat.reduceAdd,Nat.reduceMul,zc,s0,s1,impE_row,List.length_map,hl3]
 refine WK_for (fun i st=>st.sl 7=i64 (cdg T x)∧st.sl 8= .ref 32816 1 [] 0 T.length∧st.sl 28=i64 (T.length:Nat)∧st.sl 29=i64 (i:Int)∧st.ro 32816 1=some (.row (rws (fun k=>i64 (if k<i then qt (atI x (dd T k)) (cdg T x)else atI x (dd T k))) T.length))) T.length ?_ ?_ ?_
 ·refine Yae ?_
  refine⟨rfl,congrArg some ?_⟩
  rw[rws_map]
  exact congrArg AV.row (rws_congr fun j hj=>by rw[if_neg (by omega)])
 ·rintro i sl ro gn hi ⟨s7,s8,s28,s29,r32816⟩
  dsimp only at s7 s8 s28 s29 r32816
  have hi':(i:Int)<(T.length:Nat):=by omega
  have hii: ¬i<i:=by omega
  have nd:=NL_numL hL.2 (dd T i)
  have cq:=c65 nd.1 nd.2 nc.1 nc.2
  simp only[go_sem, ↓reduceIte,Nat.reduceEqDiff,zc,s7,s8,s28,s29,r32816,hi',hi,rws_get,eq_false hii]
  refine CLL_pure _ cq PUt rfl rfl ?_
  simp(disch:=first|assumption|omega) only[go_sem, ↓reduceIte,Nat.reduceEqDiff,zc,s7,s8,s28,s29,r32816,hi',hi]
  refine⟨i64c (by omega),congrArg (fun z=>some (AV.row z)) ?_⟩
  rw[rws_set]
  refine rws_congr fun j hj=>?_
  by_cases e:j=i
  ·rw[if_pos e,if_pos (by omega),e]
  ·rw[if_neg e]
   have e2:(j<i)↔(j<i+1):=by omega
   simp only[e2]
 ·rintro sl ro gn ⟨s7,s8,s28,s29,r32816⟩
  dsimp only at s7 s8 s28 s29 r32816
  have hi': ¬((T.length:Nat):Int)<(T.length:Nat):=by omega
  have e2:(AV.row (rws (fun k=>i64 (if k<T.length then qt (atI x (dd T k)) (cdg T x)else atI x (dd T k))) T.length))=rowL (idC T x):=by
   rw[idC_row]
   exact congrArg AV.row (rws_congr fun j hj=>by rw[if_pos hj])
  rw[e2,rowL]at r32816
  have hl4:((idC T x).map i64).length=T.length:=by rw[List.length_map,len_idC]
  have ht4:((idC T x).map i64).take T.length=(idC T x).map i64:=List.take_of_length_le (by rw[hl4];exact Nat.le_refl _)
  simp only[go_sem, ↓reduceIte,Nat.reduceEqDiff,zc,s7,s8,s28,s29,r32816,hi']
  simp only[zr,zb,retR,resL,outT,outL,zes,zez,oneV,zcp,zed,zfi,Ro.dl,St.ev,zhk, ↓za, ↓reduceIte,Nat.reduceEqDiff,Nat.reduceAdd,Nat.reduceLeDiff,r32816,len_idC]
theorem cIdS5(hc:isLLL c T)(hR:RngP T)(hC:CmP T)(hL:LC T x)(hx:chP T x)(h0:cdg T x=0):CallOK Tryz.prog 27 [.agg [c],.imm (x.map i64)] (.tup [nilA,i64 5]):=by
 have cl:=cL81 hc hR hC hL hx
 have cd:=cDualsS hc hR.1
 rw[duals_nat hR]at cd
 have hl2:(rws (fun i=>((dd T i:Nat):Int)) T.length).length=T.length:=zfe _ _
 have c2:=cPgS hR (isL_imm x) (isL_imm x) (isL_imm (rws (fun i=>((dd T i:Nat):Int)) T.length)) hL.1 hL.1 (NL_numL hL.2) (NL_numL hL.2)
 rw[pgC_self,h0]at c2
 refine call_of (fn:=Tryz.f27) (code:=bodyOf Tryz.f27) Tryz.func27 rfl (by kernel_rfl) (rfl) ?_
 intro sl hs
 have s0:sl 0= .agg [c]:=hs 0
 have s1:sl 1= .imm (x.map i64):=hs 1
 dsimp only[Tryz.f27,bodyOf,Option.getD]
 refine Ybi ?_
 refine CLL_q _ cl (.cons (exq_agg (n:=7) (.cons (exq_LLL hc (by decide)) .nil)) (.cons (exq_sc _ _ _ (by decide)) (.cons (exq_one (xs:=x) (by first|exact rfl|(simp only[↓za, ↓reduceIte,Nat.reduceEqDiff,zb,reduceCtorEq])) (by decide)) .nil))) rfl rfl rfl ?_
 refine Ybq ?_
 refine CLL_pure _ cd PUt rfl rfl ?_
 refine Yfn ?_
 refine CLL_q _ c2 (.cons (exq_L (isL_imm x) (by decide)) (.cons (exq_L (isL_imm x) (by decide)) (.cons (exq_refL (xs:=rws (fun i=>((dd T i:Nat):Int)) T.length) Ur hl2.symm (by decide)) .nil))) rfl rfl rfl ?_
 refine Yap ?_
 exact Yaa
theorem cIdS(hc:isLLL c T)(hR:RngP T)(hC:CmP T)(hL:LC T x)(hx:chP T x)(h0:cdg T x≠0):CallOK Tryz.prog 27 [.agg [c],.imm (x.map i64)] (.tup [rowL (idC T x),i64 0]):=by
 obtain⟨t1,t16,hcu⟩:=id hR.1
 have cl:=cL81 hc hR hC hL hx
 have cd:=cDualsS hc hR.1
 rw[duals_nat hR]at cd
 have hl2:(rws (fun i=>((dd T i:Nat):Int)) T.length).length=T.length:=zfe _ _
 have hl3:(rws (fun i=>atI x (dd T i)) T.length).length=T.length:=zfe _ _
 have c2:=cPgS hR (isL_imm x) (isL_imm x) (isL_imm (rws (fun i=>((dd T i:Nat):Int)) T.length)) hL.1 hL.1 (NL_numL hL.2) (NL_numL hL.2)
 rw[pgC_self]at c2
 have nc:num (cdg T x):=num_mod _
 have ct:=cTurnS (isL_imm x) (isL_imm (rws (fun i=>((dd T i:Nat):Int)) T.length)) hL.1 (by omega) (fun i hi=>(dd_ok hR hi).2)
 have cs:=cScale (isL_imm (rws (fun i=>atI x (dd T i)) T.length)) (by rw[hl3];unfold maxN;omega) (numL_rws _ _ fun i _=>NL_numL hL.2 _) (num_pw (cdg T x) 55439)
 have e0:AV.row (rws (fun i=>i64 (atI (rws (fun i=>atI x (dd T i)) T.length) i*pw (cdg T x) 55439 % 55441)) (rws (fun i=>atI x (dd T i)) T.length).length)=rowL (idC T x):=by
  rw[hl3,idC_row]
  exact congrArg AV.row (rws_congr fun i hi=>by rw[atI_rws _ hi];rfl)
 rw[e0]at cs
 have hl4:=len_idC (T:=T) x
 refine call_of (fn:=Tryz.f27) (code:=bodyOf Tryz.f27) Tryz.func27 rfl (by kernel_rfl) (noRef_tL _ _) ?_
 intro sl hs
 have s0:sl 0= .agg [c]:=hs 0
 have s1:sl 1= .imm (x.map i64):=hs 1
 dsimp only[Tryz.f27,bodyOf,Option.getD]
 refine Ybi ?_
 refine CLL_q _ cl (.cons (exq_agg (n:=7) (.cons (exq_LLL hc (by decide)) .nil)) (.cons (exq_sc _ _ _ (by decide)) (.cons (exq_one (xs:=x) (by first|exact rfl|(simp only[↓za, ↓reduceIte,Nat.reduceEqDiff,zb,reduceCtorEq])) (by decide)) .nil))) rfl rfl rfl ?_
 refine Ybq ?_
 refine CLL_pure _ cd PUt rfl rfl ?_
 refine Yfn ?_
 refine CLL_q _ c2 (.cons (exq_L (isL_imm x) (by decide)) (.cons (exq_L (isL_imm x) (by decide)) (.cons (exq_refL (xs:=rws (fun i=>((dd T i:Nat):Int)) T.length) Ur hl2.symm (by decide)) .nil))) rfl rfl rfl ?_
 simp only[go_sem, ↓reduceIte,Nat.reduceEqDiff,zc,s0,s1,eq_false h0]
 refine CLL_q _ ct (.cons (exq_L (isL_imm x) (by decide)) (.cons (exq_refL (xs:=rws (fun i=>((dd T i:Nat):Int)) T.length) Ur hl2.symm (by decide)) .nil)) rfl rfl (noI_rowL _) ?_
 simp only[go_sem, ↓reduceIte,Nat.reduceEqDiff,zc,s0,s1,impE_row,List.length_map,hl3]
 refine CLL_pure _ (c59 nc.1 nc.2) PUt rfl rfl ?_
 refine Yap ?_
 refine CLL_q _ cs (.cons (exq_refL (xs:=rws (fun i=>atI x (dd T i)) T.length) Ur hl3.symm (by decide)) (.cons (exq_sc _ _ _ (by decide)) .nil)) rfl rfl (noI_rowL _) ?_
 simp only[go_sem, ↓reduceIte,Nat.reduceEqDiff,zc,s0,s1,impE_row,List.length_map,hl4]
 simp only[zr,zb,retR,resL,outT,outL,zes,zez,oneV,zcp,zed,zfi,Ro.dl,St.ev,zhk, ↓za, ↓reduceIte,Nat.reduceEqDiff,Nat.reduceAdd,Nat.reduceLeDiff,len_idC]
theorem cHasI{n:Int}(ha:isL a x)(lx:x.length≤maxN){i:Nat}(hi:i<x.length)(h:atI x i=n):CallOK Tryz.prog 29 [a,i64 n] (bo true):=by
 have hx':x.length≤4294967296:=lx
 refine call_of (fn:=Tryz.f29) (code:=bodyOf Tryz.f29) Tryz.func29 rfl (by kernel_rfl) (rfl) ?_
 intro sl hs
 have s0:sl 0=a:=hs 0
 have s1:sl 1=i64 n:=hs 1
 dsimp only[Tryz.f29,bodyOf,Option.getD]
 refine Yap ?_
 refine WK_for (fun k st=>st.sl 0=a∧st.sl 1=i64 n∧st.sl 5=i64 (k:Int)∧(∀j,j<k→atI x j≠n)) ((i+1)) ?_ ?_ ?_
 ·refine Yae ?_
  exact⟨rfl,fun j h=>absurd h (Nat.not_lt_zero _)⟩
 ·rintro k sl ro gn hk ⟨s0,s1,s5,q⟩
  dsimp only at s0 s1 s5
  have hk':(k:Int)<((i+1):Nat):=by omega
  have hkx:k<x.length:=by omega
  have hkx':(k:Int)<(x.length:Nat):=by omega
  by_cases e:atI x k=n
  ·simp only[go_sem, ↓reduceIte,Nat.reduceEqDiff,zc,s0,s1,s5,hk',hk,isL_len ha,isL_idx ha hkx,hkx',eq_true e]
   exact Yaa
  ·simp(disch:=first|assumption|omega) only[go_sem, ↓reduceIte,Nat.reduceEqDiff,zc,s0,s1,s5,hk',hk,isL_len ha,isL_idx ha hkx,hkx',eq_false e]
   refine⟨i64c (by omega),fun j hj=>?_⟩
   rcases Nat.lt_or_eq_of_le (Nat.le_of_lt_succ hj)with h|h
   ·exact q j h
   ·rw[h];exact e
 ·rintro sl ro gn ⟨s0,s1,s5,q⟩
  dsimp only at s0 s1 s5
  have hk': ¬(((i+1):Nat):Int)<((i+1):Nat):=by omega
  exact absurd h (q i (Nat.lt_succ_self i))
theorem cDivN{m n:Int}(hm:num m)(hn:num n)(h0:n≠0):CallOK Tryz.prog 30 [i64 m,i64 n] (.tup [i64 (qt m n),i64 0]):=by
 have hnl:NL [m,n]:=fun j hj=>by
  rcases(show j=0∨j=1 by simp at hj;omega)with rfl|rfl
  ·exact⟨hm.1,by have:=hm.2;show m≤_;omega⟩
  ·exact⟨hn.1,by have:=hn.2;show n≤_;omega⟩
 have c1:=c115 (isL_imm [m,n]) (by unfold maxN;simp)
 rw[NL_iff.2 hnl]at c1
 refine call_of (fn:=Tryz.f30) (code:=bodyOf Tryz.f30) Tryz.func30 rfl (by kernel_rfl) (rfl) ?_
 intro sl hs
 have s0:sl 0=i64 m:=hs 0
 have s1:sl 1=i64 n:=hs 1
 dsimp only[Tryz.f30,bodyOf,Option.getD]
 refine Yaj ?_
 refine CLL_q _ c1 (.cons (exq_refL (xs:=[m,n]) (by first|exact rfl|(simp only[↓za, ↓reduceIte,Nat.reduceEqDiff,zb,reduceCtorEq];first|done|rfl)) rfl (by decide)) .nil) rfl rfl rfl ?_
 simp only[go_sem, ↓reduceIte,Nat.reduceEqDiff,zc,s0,s1,eq_false h0]
 refine CLL_pure _ (c65 hm.1 hm.2 hn.1 hn.2) PUt rfl rfl ?_
 refine Yap ?_
 exact Yaa
end
end Go.Proofs.YtbakhfiibjkifaaGreat
