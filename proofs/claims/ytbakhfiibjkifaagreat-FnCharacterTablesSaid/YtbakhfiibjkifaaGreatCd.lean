/- Texts joined: Ci7 Ci8 Ci9. -/
import Derived.Test.YtbakhfiibjkifaaGreatMh
import Derived.Test.YtbakhfiibjkifaaGreatOa
import Derived.Test.YtbakhfiibjkifaaGreatCc
set_option linter.all false
/- Characters by the program: all candidates, level by level. -/
namespace Go.Proofs.YtbakhfiibjkifaaGreat
open Go.RowKit
set_option maxRecDepth 1000000
def a1R(T:List (List (List Int)))(i j k:Nat):Int:=at3 T i j k
def vlI(T:List (List (List Int)))(k:Nat):List Int:=evl 55441 0 (chL (a1R T k) T.length)
def okI(T:List (List (List Int)))(z:List Int):Bool:=decide ((cmn T.length (fun k=>lsM (a1R T (k+1)) (atI (z.drop 1) k)) (z.length-1)).2<T.length)
theorem a1Q{T:List (List (List Int))}(hT:a1e T)(i:Nat):a1G (a1R T i):=fun j k=>by
 have h:=a5h hT i j k
 unfold num a1R
 omega
theorem a6g{T:List (List (List Int))}(hT:a1e T){i:Nat}(hi:i<T.length):mat T i=a1r (a1R T i) T.length T.length:=by
 obtain⟨-, -, h⟩:=hT
 obtain⟨h1,h2⟩:=h i hi
 apply List.ext_getElem?
 intro j
 by_cases hj:j<T.length
 ·have hj':j<(mat T i).length:=by omega
  unfold a1r
  rw[a0l _ _ _ hj,List.getElem?_eq_getElem hj']
  congr 1
  have e:(mat T i)[j]=row (mat T i) j:=by unfold row;rw[List.getD_eq_getElem?_getD,List.getElem?_eq_getElem hj'];rfl
  rw[e]
  have l:=(h2 j hj).1
  apply List.ext_getElem?
  intro k
  by_cases hk:k<T.length
  ·rw[a0l _ _ _ hk,List.getElem?_eq_getElem (by omega)]
   congr 1
   show _=atI (row (mat T i) j) k
   unfold atI
   rw[List.getD_eq_getElem?_getD,List.getElem?_eq_getElem (by omega)]
   rfl
  ·rw[List.getElem?_eq_none (by omega),List.getElem?_eq_none (by rw[zfe];omega)]
 ·rw[List.getElem?_eq_none (by omega),List.getElem?_eq_none (by unfold a1r;rw[zfe];omega)]
def chB(T:List (List (List Int)))(xs:List Int):Bool:=((List.range T.length).all fun i=>(List.range T.length).all fun j=>decide (sm (fun k=>at3 T i j k*atI xs k) T.length % 55441=atI xs i*atI xs j % 55441))&&decide (atI xs 0=1)
theorem a3B(T:List (List (List Int)))(xs:List Int):chB T xs=true↔chP T xs:=by
 unfold chB chP b8Q
 rw[Bool.and_eq_true,List.all_eq_true,decide_eq_true_eq]
 constructor
 ·rintro⟨h1,h2⟩
  exact⟨fun i hi j hj=>of_decide_eq_true (List.all_eq_true.1 (h1 i (List.mem_range.2 hi)) j (List.mem_range.2 hj)),h2⟩
 ·rintro⟨h1,h2⟩
  exact⟨fun i hi=>List.all_eq_true.2 fun j hj=>decide_eq_true (h1 i (List.mem_range.1 hi) j (List.mem_range.1 hj)),h2⟩
theorem b0T: ∀(f:Nat) (z:Int) (P:List Int),(evl f z P).length≤f
 |0,_,_=>Nat.le_refl _
 |f+1,z,P=>by
  unfold evl
  split
  ·split
   ·have:=b0T f (z+1) (b3b z P)
    rw[List.length_cons];omega
   ·have:=b0T f (z+1) P
    omega
  ·exact Nat.zero_le _
theorem c1e(T:List (List (List Int)))(k:Nat):(vlI T k).length≤55441:=b0T _ _ _
theorem b5s{T:List (List (List Int))}{k:Nat}{v:Int}(h:v∈vlI T k):num v:=by
 have:=(a5m 55441 0 _).2 v h
 unfold num
 omega
theorem a8a{x:List Int}{v:Int}(hx:a2s x)(hv:num v):a2s (x++ [v]):=fun j=>by
 by_cases h:j<x.length
 ·rw[a1s h];exact hx j
 ·by_cases h2:j=x.length
  ·rw[h2,a2B];exact hv
  ·rw[a2c (by rw[List.length_append];simp;omega)];unfold num;decide
theorem a4J{T:List (List (List Int))}{m:Nat}{x:List Int}(h:x∈lvl (vlI T) (okI T) [1] m):a2s x:=fun j=>by
 obtain⟨h1,h2, -⟩:=a7G h
 have hl:=a2P h
 by_cases h0:j<1
 ·rw[h1 j h0]
  have:j=0:=by omega
  subst this
  show num 1
  unfold num;decide
 ·by_cases h3:j<1+m
  ·exact b5s (h2 j (by simp;omega) (by simp;omega))
  ·rw[a2c (by rw[hl];simp;omega)];unfold num;decide
theorem b8U{T:List (List (List Int))}{m:Nat}{x:List Int}(h:x∈lvl (vlI T) (okI T) [1] m):atI x 0=1:=(a7G h).1 0 (by simp)
theorem b5P{T:List (List (List Int))}(hT:a1e T): ∀m,(lvl (vlI T) (okI T) [1] m).length≤T.length
 |0=>hT.1
 |m+1=>by
  have hpw:=b2r (vals:=vlI T) (ok:=okI T) (x0:=[1]) (fun k=>(a5m 55441 0 _).1) (m+1)
  generalize hX:lvl (vlI T) (okI T) [1] (m+1)=X at*
  have hmem: ∀i,i<X.length→X.getD i []∈lvl (vlI T) (okI T) [1] (m+1):=fun i hi=>by rw[hX];exact a2X hi
  have hex: ∀i,i<X.length→ ∃y:Nat→Int,(∃j,j<T.length∧ ¬MM (y j) 0)∧ ∀k,k<m+1→ ∀l,l<T.length→MM (sm (fun j=>a1R T (k+1) l j*y j) T.length) (atI (X.getD i []) (k+1)*y l):=fun i hi=>by
   have hx:=hmem i hi
   have hl:=a2P hx
   have hok:=(a7G hx).2.2 (by omega)
   generalize X.getD i []=x at hx hl hok
   have hl':x.length=m+2:=by simp at hl;omega
   unfold okI at hok
   have hok':=of_decide_eq_true hok
   rw[hl']at hok'
   obtain⟨y,h1,h2⟩:=c0r (n:=T.length) (L:=fun k=>lsM (a1R T (k+1)) (atI (x.drop 1) k)) (fun k=>a3C (a1Q hT _) _) (K:=m+2-1) (by omega) hok'
   refine⟨y,h1,fun k hk l hl=>?_⟩
   have h3:=b9H (h2 k (by omega)) l hl
   have e:atI (x.drop 1) k=atI x (k+1):=by
    unfold atI
    rw[List.getD_eq_getElem?_getD,List.getElem?_drop,List.getD_eq_getElem?_getD,Nat.add_comm]
   rw[e]at h3
   exact h3
  obtain⟨Y,hY⟩: ∃Y:Nat→Nat→Int, ∀i,i<X.length→(∃j,j<T.length∧ ¬MM (Y i j) 0)∧ ∀k,k<m+1→ ∀l,l<T.length→MM (sm (fun j=>a1R T (k+1) l j*Y i j) T.length) (atI (X.getD i []) (k+1)*Y i l):=⟨fun i=>if hi:i<X.length then(hex i hi).choose else fun _=>0,fun i hi=>by
   simp only[dif_pos hi]
   exact(hex i hi).choose_spec⟩
  refine b6d (A:=fun k=>a1R T (k+1)) (K:=m+1) (x:=fun i k=>atI (X.getD i []) (k+1)) (y:=Y) (fun i hi t ht l hl=>(hY i hi).2 t ht l hl) (fun i hi=>(hY i hi).1) fun i i' h1 h2=>?_
  obtain⟨k,c1,c2⟩:=c3h hpw h1 h2
  have n1:=a4J (hmem i (by omega))
  have n2:=a4J (hmem i' h2)
  have z1:=b8U (hmem i (by omega))
  have z2:=b8U (hmem i' h2)
  have l1:=a2P (hmem i (by omega))
  have l2:=a2P (hmem i' h2)
  simp only[List.length_singleton]at l1 l2
  have hk0:k≠0:=fun e=>by rw[e,z1,z2]at c2;omega
  have hk:k<m+2:=by
   refine Decidable.byContradiction fun hge=>?_
   rw[a2c (by omega),a2c (by omega)]at c2
   omega
  refine⟨k-1,by omega,?_⟩
  have e:k-1+1=k:=by omega
  rw[e]
  have a1:=n1 k
  have a2:=n2 k
  unfold num at a1 a2
  omega
def stp(T:List (List (List Int)))(x:List Int)(vs:List Int):List (List Int):=vs.flatMap fun v=>if okI T (x++ [v])=true then [x++ [v]]else []
def stq(T:List (List (List Int)))(i:Nat)(X:List (List Int)):List (List Int):=X.flatMap fun x=>stp T x (vlI T i)
theorem b3k(T:List (List (List Int)))(i:Nat):lvl (vlI T) (okI T) [1] (i+1)=stq T (i+1) (lvl (vlI T) (okI T) [1] i):=by
 have e:([1]:List Int).length+i=i+1:=by simp;omega
 show ((lvl (vlI T) (okI T) [1] i).flatMap fun x=>(vlI T ([1].length+i)).flatMap fun v=>if okI T (x++ [v])=true then [x++ [v]]else [])=_
 rw[e]
 rfl
theorem b1J{T:List (List (List Int))}{i z:Nat}{X:List (List Int)}{x:List Int}(hz:X[z]?=some x):stq T i (X.take (z+1))=stq T i (X.take z)++stp T x (vlI T i):=by
 unfold stq
 rw[List.take_add_one,hz,List.flatMap_append]
 simp
theorem c2F(T:List (List (List Int)))(i z:Nat)(X:List (List Int)):(stq T i (X.take z)).length≤(stq T i X).length:=by
 have h:=List.take_append_drop z X
 conv=>rhs;rw[←h]
 unfold stq
 rw[List.flatMap_append,List.length_append]
 omega
theorem a7B{T:List (List (List Int))}{u:Nat}{x vs:List Int}{v:Int}(hu:vs[u]?=some v):stp T x (vs.take (u+1))=stp T x (vs.take u)++(if okI T (x++ [v])=true then [x++ [v]]else []):=by
 unfold stp
 rw[List.take_add_one,hu,List.flatMap_append]
 simp
theorem c2u(T:List (List (List Int)))(u:Nat)(x vs:List Int):(stp T x (vs.take u)).length≤(stp T x vs).length:=by
 have h:=List.take_append_drop u vs
 conv=>rhs;rw[←h]
 unfold stp
 rw[List.flatMap_append,List.length_append]
 omega
theorem a4L{ro:Ro}{s g z m k:Nat}{X:List (List Int)}{x:List Int}(h:ro s g=some (a0I X))(hz:X[z]?=some x)(hm:m=x.length)(hk:2≤k):exq k ro (.ref s g [z] 0 m) (a3q x):=by
 subst hm
 refine⟨fun q hq=>?_,fun hp=>by simp[a0W]at hp⟩
 obtain⟨j,rfl⟩: ∃j,q=j+2:=⟨q-2,by omega⟩
 have hc:ro.cells s g [z]=some (x.map i64):=by
  simp only[Ro.cells,Ro.at,h,ath,a0I,List.getElem?_map,hz,Option.map_some,a0H]
 simp only[ex,hc]
 congr 1
 rw[List.drop_zero,List.take_of_length_le (by simp),List.map_map]
 rfl
theorem b8e{n:Nat}{ro:Ro}{s g off m:Nat}{xs:List Int}(h:ro s g=some (a0H xs))(hn:2≤n):exq n ro (.ref s g [] off m) (a3q ((xs.drop off).take m)):=by
 refine⟨fun j hj=>?_,fun hp=>by simp[a0W]at hp⟩
 obtain⟨j,rfl⟩: ∃i,j=i+2:=⟨j-2,by omega⟩
 show (match ro.cells s g []with|some cs=>AV.imm (((cs.drop off).take m).map (ex ro (j+1)))|none=> .dead)=_
 have:ro.cells s g []=some (xs.map i64):=by unfold Ro.cells;rw[h];rfl
 rw[this]
 simp only
 rw[←List.map_drop, ←List.map_take]
 congr 1
 rw[List.map_map]
 rfl
theorem b6F{ro:Ro}{s g M m w k:Nat}{F:Nat→Nat→Nat→Int}(h:ro s g=some (.row (rws (fun k=>a2o (F k) w w) M)))(hm:m≤M)(hk:4≤k):exq k ro (.ref s g [] 0 m) (b4c (rws (fun k=>a1r (F k) w w) m)):=by
 refine⟨fun q hq=>?_,fun hp=>by simp[a0W]at hp⟩
 obtain⟨j,rfl⟩: ∃j,q=j+4:=⟨q-4,by omega⟩
 have hc:ro.cells s g []=some (rws (fun k=>a2o (F k) w w) M):=by unfold Ro.cells;rw[h];rfl
 simp only[ex,hc,List.drop_zero]
 have e:(rws (fun k=>a2o (F k) w w) M).take m=rws (fun k=>a2o (F k) w w) m:=by
  apply List.ext_getElem?
  intro x
  rw[List.getElem?_take]
  split
  ·rename_i hx
   rw[a0l _ _ _ (by omega),a0l _ _ _ hx]
  ·rename_i hx
   exact(List.getElem?_eq_none (by rw[zfe];omega)).symm
 rw[e,a0y]
 show AV.imm _=AV.imm _
 rw[a0y]
 congr 1
 refine a0g fun x hx=>?_
 simp only[a2x,a1r,a0y,a3q]
theorem b2N{ro:Ro}{s g:Nat}{p:List Nat}{off n h:Nat}{a1:Nat}{a2:Bool}{a3:List Value}{e:Nat}{a5:List (Nat×Nat)}{a6:Option IntKind}{a7 a8:Bool}{a9 a10:Option (Nat×Nat)}:a3U (some ⟨a1,a2,a3,some e,a5,a6,a7,a8,a9,a10⟩) ro (.ref s g p off n) none (some (.sc (.int .i64 ((h:Int)+1))))=if h+1≤n∧(ro.cells s g p).isSome=true then some ⟨.ref s g p off (h+1),none,[],[]⟩else none:=
 a3p (h:=h+1)
theorem b2U{ro:Ro}{s g:Nat}{p:List Nat}{off n:Nat}{a1:Nat}{a2:Bool}{a3:List Value}{e:Nat}{a5:List (Nat×Nat)}{a6:Option IntKind}{a7 a8:Bool}{a9 a10:Option (Nat×Nat)}:a3U (some ⟨a1,a2,a3,some e,a5,a6,a7,a8,a9,a10⟩) ro (.ref s g p off n) (some (.sc (.int .i64 1))) none=if 1≤n∧(ro.cells s g p).isSome=true then some ⟨.ref s g p (off+1) (n-1),none,[],[]⟩else none:=
 a4P (l:=1)
theorem hCom(T:List (List (List Int)))(hT:a1e T){i:Nat}{z:List Int}(hl:z.length=i+2)(hi:i+1<T.length)(nz:a2s z):
  a0d Tryz.prog 89 [b4c (rws (fun k=>a1r (a1R T (k+1)) T.length T.length) (i+1)),a3q ((z.drop 1).take (i+1))] (bo (okI T z)):=by
 obtain⟨t1,t16, -⟩:=id hT
 have e:(z.drop 1).take (i+1)=z.drop 1:=List.take_of_length_le (by rw[List.length_drop];omega)
 rw[e]
 have h:=cHas (T:=fun k=>a1R T (k+1)) (b4b (rws (fun k=>a1r (a1R T (k+1)) T.length T.length) (i+1))) (a0n (z.drop 1)) (by omega) (by rw[List.length_drop];omega) (by omega) (by omega) (by omega) (fun k=>a1Q hT _) (fun j=>by
  have:atI (z.drop 1) j=atI z (1+j):=by unfold atI;rw[List.getD_eq_getElem?_getD,List.getElem?_drop,List.getD_eq_getElem?_getD]
  rw[this];exact nz _)
 have e2:okI T z=decide ((cmn T.length (fun k=>lsM (a1R T (k+1)) (atI (z.drop 1) k)) (i+1)).2<T.length):=by unfold okI;rw[hl];rfl
 rw[e2]
 exact h
theorem b9X{X:List (List Int)}{w:Nat}(h: ∀x,x∈X→x.length=w):rws (fun k=>AV.row (rws (fun j=>i64 (atI (X.getD k []) j)) w)) X.length=X.map a0H:=by
 apply List.ext_getElem?
 intro k
 by_cases hk:k<X.length
 ·rw[a0l _ _ _ hk,List.getElem?_map,List.getElem?_eq_getElem hk]
  have e:X.getD k []=X[k]:=by rw[List.getD_eq_getElem?_getD,List.getElem?_eq_getElem hk];rfl
  rw[e]
  have l:=h X[k] (List.getElem_mem hk)
  show some (AV.row _)=some (AV.row (X[k].map i64))
  congr 2
  rw[←l, ←a0y,a4l]
 ·rw[List.getElem?_eq_none (by rw[zfe];omega),List.getElem?_eq_none (by rw[List.length_map];omega)]
theorem a9I{X:List (List Int)}{w:Nat}(h: ∀x,x∈X→x.length=w):a0I X=a2o (fun k j=>atI (X.getD k []) j) X.length w:=by
 show AV.row (X.map a0H)=AV.row _
 rw[b9X h]
theorem a5A(p:List Int→Bool)(F:List Int→AV): ∀X:List (List Int),((List.range X.length).filter fun k=>p (X.getD k [])).map (fun k=>F (X.getD k []))=(X.filter p).map F
 | []=>rfl
 |x::X=>by
  rw[List.length_cons,List.range_succ_eq_map,List.filter_cons,List.filter_map,List.filter_cons]
  have ih:=a5A p F X
  have e:(((List.range X.length).filter ((fun k=>p ((x::X).getD k []))∘Nat.succ)).map Nat.succ).map (fun k=>F ((x::X).getD k []))=(X.filter p).map F:=by
   rw[←ih,List.map_map]
   rfl
  show (if p x=true then _ else _:List Nat).map _=(if p x=true then _ else _:List (List Int)).map _
  split
  ·rw[List.map_cons,List.map_cons]
   congr 1
  ·exact e
theorem b3a{X:List (List Int)}{w:Nat}{p:List Int→Bool}(h: ∀x,x∈X→x.length=w):(kpt (fun k=>!p (X.getD k [])) X.length).map (fun i=>AV.row (rws (fun z=>i64 (atI (X.getD i []) z)) w))=(X.filter p).map a0H:=by
 rw[←a5A p a0H X]
 unfold kpt
 simp only[Bool.not_not]
 refine List.map_congr_left fun k hk=>?_
 have hk':=List.mem_range.1 (List.mem_filter.1 hk).1
 have l:=h _ (a2X hk')
 show AV.row _=AV.row (List.map i64 _)
 rw[←l, ←a0y,a4l]
set_option maxHeartbeats 4000000 in
theorem c1S{c:AV}{T:List (List (List Int))}(hc:a0F c T)(hT:a1e T):
  a0d Tryz.prog 45 [.agg [c]] (.row (((lvl (vlI T) (okI T) [1] (T.length-1)).filter (chB T)).map a0H)):=by
 obtain⟨t1,t16,hcu⟩:=id hT
 have hB: ∀m,m+1≤T.length→(lvl (vlI T) (okI T) [1] m).length≤65536:=fun m _=>Nat.le_trans (b5P hT m) (by omega)
 refine a0e (fn:=Tryz.f45) (code:=a0b Tryz.f45) Tryz.func45 rfl (by kernel_rfl) (a2m _) ?_
 intro sl hs
 have s0:sl 0= .agg [c]:=hs 0
 dsimp only[Tryz.f45,a0b,Option.getD]
 refine Ybq ?_
 refine a0f (fun i st=>st.sl 1= .ptr 4096 1 [] 0∧st.ro 4096 1=some (.bx [c])∧st.sl 3= .ref 8208 1 [] 0 1∧st.ro 8208 1=some (.row [.row [i64 1]])∧st.sl 4= .ref 8224 (st.gn 8224) [] 0 i∧st.ro 8224 (st.gn 8224)=some (.row (rws (fun k=> .row ((vlI T (k+1)).map i64)) i))∧st.sl 5= .ref 12288 (st.gn 12288) [] 0 i∧st.ro 12288 (st.gn 12288)=some (.row (rws (fun k=>a2o (a1R T (k+1)) T.length T.length) i))∧st.sl 6=i64 ((i+1:Nat):Int)) ((T.length-1)) ?_ ?_ ?_
 ·refine Yaf ?_
  rfl
 ·rintro i sl ro gn hi ⟨s1,r4096,s3,r8208,s4,r8224,s5,r12288,s6⟩
  dsimp only at s1 r4096 s3 r8208 s4 r8224 s5 r12288 s6
  have hi':(i:Int)<((T.length-1):Nat):=by omega
  have hi1:i+1<T.length:=by omega
  have hi2:((i+1:Nat):Int)<(T.length:Nat):=by omega
  have hi3:i+1≤4294967296:=by omega
  have hm:=a0o hc hi1
  rw[a6g hT hi1]at hm
  have cn:=c3B hm (by omega) (a1Q hT _)
  have ce:a0d Tryz.prog 87 [a2x (a1r (a1R T (i+1)) T.length T.length)] (.row ((vlI T (i+1)).map i64)):=c4p (a1g (a1R T (i+1)) T.length T.length) (by omega) (by omega) (a1Q hT _)
  simp(disch:=first|assumption|omega) only[go_sem,s1,r4096,s6,a0v hc,a2N hc hi1,hi2]
  refine a0c _ cn PUt rfl rfl ?_
  simp(disch:=first|assumption|omega) only[go_sem,s4]
  refine a0z _ ce (.cons (a3c Ur (by decide)) .nil) rfl rfl (a1j _) ?_
  simp(disch:=first|assumption|omega) only[go_sem,s1,r4096,s3,r8208,r8224,s5,r12288,s6,hi3]
  exact a0w (by omega)
 ·rintro sl ro gn ⟨s1,r4096,s3,r8208,s4,r8224,s5,r12288,s6⟩
  dsimp only at s1 r4096 s3 r8208 s4 r8224 s5 r12288 s6
  have hi': ¬(((T.length-1):Nat):Int)<((T.length-1):Nat):=by omega
  have hm2: ¬((T.length-1+1:Nat):Int)<(T.length:Nat):=by omega
  simp(disch:=first|assumption|omega) only[go_sem,s1,r4096,s4,r8224,s6,a0v hc,hm2]
  have hnr:=a1a (fun k=>a2o (a1R T (k+1)) T.length T.length) (T.length-1) (fun k=>a1h _ _ _)
  refine a0f (fun i st=>st.sl 1= .ptr 4096 1 [] 0∧st.ro 4096 1=some (.bx [c])∧st.sl 5= .ref 12288 (st.gn 12288) [] 0 (T.length-1)∧st.ro 12288 (st.gn 12288)=some (.row (rws (fun k=>a2o (a1R T (k+1)) T.length T.length) (T.length-1)))∧st.sl 42= .ref 8224 (st.gn 8224) [] 0 (T.length-1)∧st.ro 8224 (st.gn 8224)=some (.row (rws (fun k=> .row ((vlI T (k+1)).map i64)) (T.length-1)))∧st.sl 43=i64 ((T.length-1:Nat):Int)∧st.sl 44=i64 (i:Int)∧(∃s g,(s=8208∧g=1∨s=49152∧g≤st.gn 49152)∧st.sl 3= .ref s g [] 0 (lvl (vlI T) (okI T) [1] i).length∧st.ro s g=some (a0I (lvl (vlI T) (okI T) [1] i)))) ((T.length-1)) ?_ ?_ ?_
  ·simp only[↓za, ↓reduceIte,Nat.reduceEqDiff,zb,s1,r4096,s3,r8224,s5,r12288]
   exact⟨rfl,8208,1,.inl ⟨rfl,rfl⟩,rfl,r8208⟩
  ·rintro i sl ro gn hi ⟨s1,r4096,s5,r12288,s42,r8224,s43,s44,q⟩
   dsimp only at s1 r4096 s5 r12288 s42 r8224 s43 s44
   have hi':(i:Int)<((T.length-1):Nat):=by omega
   obtain⟨s,g,hs,p3,pr⟩:=q
   dsimp only at hs p3 pr
   have hs1:s≠4096:=by omega
   have hs2:s≠12288:=by omega
   have hs3:s≠8224:=by omega
   have hs4: ¬(s=49152∧g=gn 49152+1):=by omega
   have hB1:=hB i (by omega)
   have hB2:=hB (i+1) (by omega)
   have hw: ∀x,x∈lvl (vlI T) (okI T) [1] i→x.length=i+1:=fun x hx=>by
    have:=a2P hx
    simp at this
    omega
   rw[b3k]at hB2
   have nz: ∀x,x∈lvl (vlI T) (okI T) [1] i→ ∀v,v∈vlI T (i+1)→a2s (x++ [v]):=fun x hx v hv=>a8a (a4J hx) (b5s hv)
   generalize hX:lvl (vlI T) (okI T) [1] i=X at*
   simp(disch:=first|assumption|omega) only[go_sem,s42,r8224,s43,s44,hi',hi,p3,pr,a0l,List.length_map,eq_false hs4]
   refine a0f (fun z st=>st.sl 1= .ptr 4096 1 [] 0∧st.ro 4096 1=some (.bx [c])∧st.sl 5= .ref 12288 (st.gn 12288) [] 0 (T.length-1)∧st.ro 12288 (st.gn 12288)=some (.row (rws (fun k=>a2o (a1R T (k+1)) T.length T.length) (T.length-1)))∧st.sl 42= .ref 8224 (st.gn 8224) [] 0 (T.length-1)∧st.ro 8224 (st.gn 8224)=some (.row (rws (fun k=> .row ((vlI T (k+1)).map i64)) (T.length-1)))∧st.sl 43=i64 ((T.length-1:Nat):Int)∧st.sl 44=i64 (i:Int)∧st.sl 8=i64 (i:Int)∧st.sl 9= .ref 8224 (st.gn 8224) [i] 0 (vlI T (i+1)).length∧st.sl 50= .ref s g [] 0 X.length∧st.sl 51=i64 (X.length:Nat)∧st.sl 52=i64 (z:Int)∧st.sl 10= .ref 49152 (st.gn 49152) [] 0 (stq T (i+1) (X.take z)).length∧st.ro 49152 (st.gn 49152)=some (a0I (stq T (i+1) (X.take z)))∧(st.ro s g=some (a0I X))∧((s=8208∨s=49152∧g<st.gn 49152))) X.length ?_ ?_ ?_
   ·simp only[↓za, ↓reduceIte,Nat.reduceEqDiff,zb,s1,r4096,s5,r12288,s42,r8224,s43,s44]
    exact⟨rfl,rfl,rfl,(if_neg hs4).trans pr,by omega⟩
   ·rintro z sl ro gn hz ⟨s1,r4096,s5,r12288,s42,r8224,s43,s44,s8,s9,s50,s51,s52,s10,r49152,pr,hs⟩
    dsimp only at s1 r4096 s5 r12288 s42 r8224 s43 s44 s8 s9 s50 s51 s52 s10 r49152
    have hz':(z:Int)<(X.length:Nat):=by omega
    dsimp only at pr hs
    obtain⟨x,hx⟩: ∃x,X[z]?=some x:=⟨_,List.getElem?_eq_getElem hz⟩
    have hxl:x.length=i+1:=hw x (List.mem_of_getElem? hx)
    have hxr:(X.map a0H)[z]?=some (.row (x.map i64)):=by rw[List.getElem?_map,hx];rfl
    have hb1:=c2F T (i+1) (z+1) X
    rw[b1J hx,List.length_append]at hb1
    have hin:i<T.length-1:=hi
    simp(disch:=first|assumption|omega) only[go_sem,r8224,s9,s50,s51,s52,hz',hz,pr,a0l,hxr,List.length_map,hxl]
    refine a0f (fun u st=>st.sl 1= .ptr 4096 1 [] 0∧st.ro 4096 1=some (.bx [c])∧st.sl 5= .ref 12288 (st.gn 12288) [] 0 (T.length-1)∧st.ro 12288 (st.gn 12288)=some (.row (rws (fun k=>a2o (a1R T (k+1)) T.length T.length) (T.length-1)))∧st.sl 42= .ref 8224 (st.gn 8224) [] 0 (T.length-1)∧st.ro 8224 (st.gn 8224)=some (.row (rws (fun k=> .row ((vlI T (k+1)).map i64)) (T.length-1)))∧st.sl 43=i64 ((T.length-1:Nat):Int)∧st.sl 44=i64 (i:Int)∧st.sl 8=i64 (i:Int)∧st.sl 9= .ref 8224 (st.gn 8224) [i] 0 (vlI T (i+1)).length∧st.sl 50= .ref s g [] 0 X.length∧st.sl 51=i64 (X.length:Nat)∧st.sl 52=i64 (z:Int)∧st.sl 12= .ref s g [z] 0 (i+1)∧st.sl 56= .ref 8224 (st.gn 8224) [i] 0 (vlI T (i+1)).length∧st.sl 57=i64 ((vlI T (i+1)).length:Nat)∧st.sl 58=i64 (u:Int)∧st.sl 10= .ref 49152 (st.gn 49152) [] 0 (stq T (i+1) (X.take z)++stp T x ((vlI T (i+1)).take u)).length∧st.ro 49152 (st.gn 49152)=some (a0I (stq T (i+1) (X.take z)++stp T x ((vlI T (i+1)).take u)))∧(st.ro s g=some (a0I X))∧((s=8208∨s=49152∧g<st.gn 49152))) ((vlI T (i+1)).length) ?_ ?_ ?_
    ·simp only[↓za, ↓reduceIte,Nat.reduceEqDiff,zb,s1,r4096,s5,r12288,s42,r8224,s43,s44,s8,s9,s50,s51,s52,s10,r49152]
     refine⟨rfl,?_,?_,pr,hs⟩
     ·rw[List.take_zero];simp[stp]
     ·rw[List.take_zero];simp[stp]
    ·rintro u sl ro gn hu ⟨s1,r4096,s5,r12288,s42,r8224,s43,s44,s8,s9,s50,s51,s52,s12,s56,s57,s58,s10,r49152,pr,hs⟩
     dsimp only at s1 r4096 s5 r12288 s42 r8224 s43 s44 s8 s9 s50 s51 s52 s12 s56 s57 s58 s10 r49152
     have hu':(u:Int)<((vlI T (i+1)).length:Nat):=by omega
     dsimp only at pr hs
     obtain⟨v,hv⟩: ∃v,(vlI T (i+1))[u]?=some v:=⟨_,List.getElem?_eq_getElem hu⟩
     have hvr:((vlI T (i+1)).map i64)[u]?=some (i64 v):=by rw[List.getElem?_map,hv];rfl
     have hb2:=c2u T (u+1) x (vlI T (i+1))
     rw[a7B hv,List.length_append]at hb2
     have hvm:v∈vlI T (i+1):=List.mem_of_getElem? hv
     have hvl:=c1e T (i+1)
     have hi16:i+1+1≤4294967296:=by omega
     have hi17:i+1≤T.length-1:=by omega
     have hi18:((i:Nat):Int)+1≤(T.length-1:Nat):=by omega
     have hlz:(x++ [v]).length=i+2:=by rw[List.length_append,hxl];rfl
     have ch:=hCom T hT (z:=x++ [v]) hlz (by omega) (nz x (List.mem_of_getElem? hx) v hvm)
     have hxt:(x.map i64).take (i+1)=x.map i64:=List.take_of_length_le (by rw[List.length_map];omega)
     have hxa:x.map i64++ [AV.sc (.int .i64 v)]=(x++ [v]).map i64:=by rw[List.map_append];rfl
     have hs1:s≠4096:=by omega
     have hs5:s≠77840:=by omega
     have hs6:s≠77872:=by omega
     have hs7:s≠86048:=by omega
     simp(disch:=first|assumption|omega) only[go_sem,r8224,s12,s56,s57,s58,hu',hu,a0l,hvr]
     refine a0z _ (cClo (xs:=x) (by rw[hxl];unfold a0G;omega)) (.cons (a4L pr hx hxl.symm (by decide)) .nil) rfl rfl (a1j _) ?_
     simp(disch:=first|assumption|omega) only[go_sem,s5,r12288,s8,List.length_map,hxl,hi16,hi17,Option.map_some,Option.map_none,b2U,b2N,hxt,hxa,hnr]
     refine a1V _ ch (.cons (b6F (F:=fun k=>a1R T (k+1)) (Ue r12288) hi17 (by decide)) (.cons (b8e (xs:=x++ [v]) Ur (by decide)) .nil)) rfl rfl ?_
     cases hok:okI T (x++ [v])with
     |true=>
      rw[hok,if_pos rfl]at hb2
      have hap:(stq T (i+1) (X.take z)++stp T x ((vlI T (i+1)).take u)).length+1≤4294967296:=by
       rw[List.length_append]
       simp only[List.length_singleton]at hb2
       omega
      refine Ycy ?_
      refine a0r (by kernel_rfl) ?_
      simp(disch:=first|assumption|omega) only[go_sem,s1,r4096,s5,r12288,s42,r8224,s43,s44,s8,s9,s50,s51,s52,s12,s56,s57,s58,s10,r49152,List.length_map,hap]
      have eL:stq T (i+1) (X.take z)++stp T x ((vlI T (i+1)).take (u+1))=(stq T (i+1) (X.take z)++stp T x ((vlI T (i+1)).take u))++ [x++ [v]]:=by rw[a7B hv,hok,if_pos rfl,List.append_assoc]
      rw[eL]
      refine⟨a0w (by omega),by rw[List.length_append (bs:=[x++ [v]])];rfl,?_,?_,by omega⟩
      ·rw[List.take_of_length_le (by rw[List.length_map];exact Nat.le_refl _)]
       show _=some (AV.row (((stq T (i+1) (X.take z)++stp T x ((vlI T (i+1)).take u))++ [x++ [v]]).map a0H))
       rw[List.map_append (l₂:=[x++ [v]])]
       rfl
      ·have q1: ¬(s=49152∧g=gn 49152+1):=by omega
       have q2: ¬(s=49152∧g=gn 49152):=by omega
       simp only[eq_false q1,eq_false q2,eq_false hs5,eq_false hs6,eq_false hs7,false_and,if_false]
       exact pr
     |false=>
      refine Ycy ?_
      refine a0r (by kernel_rfl) ?_
      simp(disch:=first|assumption|omega) only[go_sem,s1,r4096,s5,r12288,s42,r8224,s43,s44,s8,s9,s50,s51,s52,s12,s56,s57,s58,s10,r49152]
      have eL:stq T (i+1) (X.take z)++stp T x ((vlI T (i+1)).take (u+1))=stq T (i+1) (X.take z)++stp T x ((vlI T (i+1)).take u):=by rw[a7B hv,hok];simp
      rw[eL]
      refine⟨a0w (by omega),rfl,rfl,?_,hs⟩
      simp only[eq_false hs5,eq_false hs6,false_and,if_false]
      exact pr
    ·rintro sl ro gn ⟨s1,r4096,s5,r12288,s42,r8224,s43,s44,s8,s9,s50,s51,s52,s12,s56,s57,s58,s10,r49152,pr,hs⟩
     dsimp only at s1 r4096 s5 r12288 s42 r8224 s43 s44 s8 s9 s50 s51 s52 s12 s56 s57 s58 s10 r49152
     have hu': ¬(((vlI T (i+1)).length:Nat):Int)<((vlI T (i+1)).length:Nat):=by omega
     dsimp only at pr hs
     simp(disch:=first|assumption|omega) only[go_sem,s1,r4096,s5,r12288,s42,r8224,s43,s44,s8,s9,s50,s51,s52,s57,s58,s10,r49152,hu',pr]
     have e1:(vlI T (i+1)).take (vlI T (i+1)).length=vlI T (i+1):=List.take_length
     rw[e1,b1J hx]
     exact⟨a0w (by omega),rfl,rfl,hs⟩
   ·rintro sl ro gn ⟨s1,r4096,s5,r12288,s42,r8224,s43,s44,s8,s9,s50,s51,s52,s10,r49152,pr,hs⟩
    dsimp only at s1 r4096 s5 r12288 s42 r8224 s43 s44 s8 s9 s50 s51 s52 s10 r49152
    have hz': ¬((X.length:Nat):Int)<(X.length:Nat):=by omega
    dsimp only at pr hs
    simp(disch:=first|assumption|omega) only[go_sem,s1,r4096,s5,r12288,s42,r8224,s43,s44,s51,s52,s10,hz']
    rw[List.take_length,b3k,hX]
    exact⟨a0w (by omega),49152,_,.inr ⟨rfl,Nat.le_refl _⟩,rfl,by rw[List.take_length]at r49152;exact r49152⟩
  ·rintro sl ro gn ⟨s1,r4096,s5,r12288,s42,r8224,s43,s44,q⟩
   dsimp only at s1 r4096 s5 r12288 s42 r8224 s43 s44
   have hi': ¬(((T.length-1):Nat):Int)<((T.length-1):Nat):=by omega
   obtain⟨s,g,hs,p3,pr⟩:=q
   dsimp only at hs p3 pr
   have hs1:s≠4096:=by omega
   have hs5:s≠5:=by omega
   have hB1:=hB (T.length-1) (by omega)
   have hw: ∀x,x∈lvl (vlI T) (okI T) [1] (T.length-1)→x.length=T.length∧a2s x:=fun x hx=>by
    have:=a2P hx
    simp at this
    exact⟨by omega,a4J hx⟩
   generalize lvl (vlI T) (okI T) [1] (T.length-1)=X at*
   have pm:ro s g=some (a2o (fun k j=>atI (X.getD k []) j) X.length T.length):=by rw[pr,a9I fun x hx=>(hw x hx).1]
   have hin:=c4J (dl:=fun k=>!chB T (X.getD k [])) hs5 hs1 pm r4096 hc (by omega) (fun a k hk ha=>by
    have hx:=hw _ (a2X hk)
    have e:rws (fun j=>atI (X.getD k []) j) T.length=X.getD k []:=by rw[←hx.1];exact a4l _
    rw[e]at ha
    exact c1U hc hT ha hx.1 hx.2 (a3B T _)) (gn:=gn)
   simp(disch:=first|assumption|omega) only[go_sem,s1,s43,s44,hi',p3]
   refine a0p rfl hin ?_
   rintro r ro' gn' ⟨dls,rfl,hmv⟩
   simp(disch:=first|assumption|omega) only[go_sem]
   simp only[a1Z,a1H,a2g, ↓za, ↓reduceIte,hmv]
   rw[b3a fun x hx=>(hw x hx).1]
theorem a8Z{i k:Nat}:a0d Tryz.prog 153 [i64 i,i64 k] (i64 (dlt i k)):=by
 refine a0e (fn:=Tryz.f153) (code:=a0b Tryz.f153) Tryz.func153 rfl (by kernel_rfl) (rfl) ?_
 intro sl hs
 have s0:sl 0=i64 i:=hs 0
 have s1:sl 1=i64 k:=hs 1
 by_cases h:i=k
 ·have h':(i:Int)=k:=by omega
  dsimp only[Tryz.f153,a0b,Option.getD]
  simp(maxSteps:=10000000) (disch:=first|assumption|omega) only[go_sem,s0,s1,eq_true h']
  refine Yab ?_
  exact(if_pos h).symm
 ·have h': ¬(i:Int)=k:=by omega
  dsimp only[Tryz.f153,a0b,Option.getD]
  simp(maxSteps:=10000000) (disch:=first|assumption|omega) only[go_sem,s0,s1,eq_false h']
  refine Yab ?_
  exact(if_neg h).symm
theorem b7r{c:AV}{T:List (List (List Int))}(hc:a0F c T)(hT:a1e T){i:Nat}(hi:i<T.length):a0d Tryz.prog 95 [.agg [c],i64 i] (i64 (dlT T i)):=by
 obtain⟨h1,h2,h3⟩:=id hT
 obtain⟨hl,hr⟩:=h3 i hi
 have hm:=a0o hc hi
 refine a0e (fn:=Tryz.f95) (code:=a0b Tryz.f95) Tryz.func95 rfl (by kernel_rfl) (rfl) ?_
 intro sl hs
 have s0:sl 0= .agg [c]:=hs 0
 have s1:sl 1=i64 i:=hs 1
 dsimp only[Tryz.f95,a0b,Option.getD]
 simp(maxSteps:=10000000) (disch:=first|assumption|omega) only[go_sem,s0,s1,a1l,a3i]
 refine a0f (fun j st=>st.sl 12=atA c i∧st.sl 13=i64 (T.length:Nat)∧st.sl 14=i64 (j:Int)∧((st.sl 5=i64 (-1)∧ ∀k,k<j→at3 T i k 0=0)∨ ∃x:Nat,st.sl 5=i64 x∧x<j∧at3 T i x 0=1∧ ∀k,k<j→k≠x→at3 T i k 0=0)) T.length ?_ ?_ ?_
 ·refine Yac ?_
  exact⟨by rw[hl],rfl,.inl fun j hj=>absurd hj (Nat.not_lt_zero _)⟩
 ·rintro j sl ro gn hj ⟨s12,s13,s14,q⟩
  dsimp only at s12 s13 s14
  have hj':(j:Int)<(T.length:Nat):=by omega
  dsimp only at q
  have hl2:=(hr j hj).1
  have hjm:j<(mat T i).length:=by omega
  have hrow:=a0m hm hjm
  have hpos:0<(row (mat T i) j).length:=by omega
  rcases q with⟨s5,hq⟩|⟨x,s5,hx,hx1,hq⟩
  ·by_cases h0:atI (row (mat T i) j) 0=0
   ·refine Yeb ?_
    exact⟨a0w (by omega),.inl (ltS hq h0)⟩
   ·by_cases hf:atI (row (mat T i) j) 0=1
    ·simp(maxSteps:=10000000) (disch:=first|assumption|omega) only[go_sem,Int.reduceToNat,s12,s13,s14,hj',eq_false h0,eq_true hf,s5]
     exact⟨a0w (by omega),.inr ⟨j,rfl,by omega,hf,fun k hk hne=>hq k (by omega)⟩⟩
    ·have e:dlT T i= -1:=by
      refine b0H ?_
      rintro⟨y,hy1,hy2,hy3⟩
      by_cases e:j=y
      ·subst e;exact hf hy2
      ·exact h0 (hy3 j hj e)
     simp(maxSteps:=10000000) (disch:=first|assumption|omega) only[go_sem,Int.reduceToNat,s12,s13,s14,hj',eq_false h0,eq_false hf,s5]
     exact Yam
  ·have hx0:(0:Int)≤(x:Nat):=by omega
   by_cases h0:atI (row (mat T i) j) 0=0
   ·refine Yeb ?_
    refine⟨a0w (by omega),.inr ⟨x,rfl,by omega,hx1,fun k hk hne=>?_⟩⟩
    rcases Nat.lt_or_ge k j with h|h
    ·exact hq k h hne
    ·have:k=j:=by omega
     subst this;exact h0
   ·have e:dlT T i= -1:=by
     refine b0H ?_
     rintro⟨y,hy1,hy2,hy3⟩
     by_cases e:j=y
     ·subst e
      have h9:at3 T i x 0=0:=hy3 x (by omega) (by omega)
      omega
     ·exact h0 (hy3 j hj e)
    simp(maxSteps:=10000000) (disch:=first|assumption|omega) only[go_sem,Int.reduceToNat,s12,s13,s14,hj',eq_false h0,s5]
    exact Yam
 ·rintro sl ro gn ⟨s12,s13,s14,q⟩
  dsimp only at s12 s13 s14
  have hj': ¬((T.length:Nat):Int)<(T.length:Nat):=by omega
  dsimp only at q
  rcases q with⟨s5,hq⟩|⟨x,s5,hx,hx1,hq⟩
  ·refine Yex ?_
   refine Yab ?_
   refine(b0H ?_).symm
   rintro⟨y,hy1,hy2,hy3⟩
   have h9:at3 T i y 0=1:=hy2
   have:=hq y hy1
   omega
  ·refine Yex ?_
   refine Yab ?_
   exact(b7b (f:=fun j=>at3 T i j 0) ⟨hx,hx1,hq⟩).symm
theorem c2t{c:AV}{T:List (List (List Int))}(ha:a0F c T)(hc:a1e T):a0d Tryz.prog 131 [.agg [c]] (b3c (F1 T)):=by
 obtain⟨h1,h2,h3⟩:=id hc
 refine a0e (fn:=Tryz.f131) (code:=a0b Tryz.f131) Tryz.func131 rfl (by kernel_rfl) (a3r _) ?_
 intro sl hs
 have s0:sl 0= .agg [c]:=hs 0
 dsimp only[Tryz.f131,a0b,Option.getD]
 refine Ycq ?_
 have hT0:0<T.length:=by omega
 have hm0:=a0o ha hT0
 refine a0f (fun i st=>st.sl 1= .ptr 4096 1 [] 0∧st.ro 4096 1=some (.bx [c])∧st.sl 2=a1q∧st.sl 7=i64 (T.length:Nat)∧st.sl 8=i64 (i:Int)∧(∀x,x<i→(fnd T.length fun k=>p1 T x k)=none)) T.length ?_ ?_ ?_
 ·refine Yaf ?_
  exact⟨rfl,lt0⟩
 ·rintro i sl ro gn hi ⟨s1,r4096,s2,s7,s8,q⟩
  dsimp only at s1 r4096 s2 s7 s8
  have hi':(i:Int)<(T.length:Nat):=by omega
  simp(maxSteps:=10000000) (disch:=first|assumption|omega) only[go_sem,s1,r4096,s7,s8,hi',a0v ha]
  obtain⟨hli,hri⟩:=h3 i hi
  have hmi:=a0o ha hi
  refine a0f (fun k st=>st.sl 1= .ptr 4096 1 [] 0∧st.ro 4096 1=some (.bx [c])∧st.sl 2=a1q∧st.sl 7=i64 (T.length:Nat)∧st.sl 8=i64 (i:Int)∧st.sl 3=i64 (i:Int)∧st.sl 13=i64 (T.length:Nat)∧st.sl 14=i64 (k:Int)∧(∀x,x<k→p1 T i x=none)) T.length ?_ ?_ ?_
  ·simp only[↓za, ↓reduceIte,Nat.reduceEqDiff,zb,s1,r4096,s2,s7,s8]
   exact⟨rfl,lt0⟩
  ·rintro k sl ro gn hk ⟨s1,r4096,s2,s7,s8,s3,s13,s14,qq⟩
   dsimp only at s1 r4096 s2 s7 s8 s3 s13 s14
   have hk':(k:Int)<(T.length:Nat):=by omega
   have hi0:i<(mat T 0).length:=by rw[(h3 0 hT0).1];exact hi
   have hr0:=a0m hm0 (k:=i) hi0
   have hi1:0<(mat T i).length:=by omega
   have hr1:=a0m hmi (k:=0) hi1
   have hl0:(row (mat T 0) i).length=T.length:=((h3 0 hT0).2 i hi).1
   have hl1:(row (mat T i) 0).length=T.length:=(hri 0 hT0).1
   have hlm:(mat T 0).length=T.length:=(h3 0 hT0).1
   have hd:(at3 T 0 i k=dlt i k∧at3 T i 0 k=dlt i k→p1 T i k=none)∧(¬(at3 T 0 i k=dlt i k∧at3 T i 0 k=dlt i k)→F1 T=some [0,(i:Int),(k:Int)]):=
    ⟨fun h=>if_pos h,fun h=>a0U (k:=i) (a0U (k:=k) (if_neg h) qq hk) q hi⟩
   obtain⟨hd1,hd2⟩:=hd
   by_cases ha1:atI (row (mat T 0) i) k=dlt i k
   ·by_cases hb1:atI (row (mat T i) 0) k=dlt i k
    ·refine Yas ?_
     refine a0A _ (a8Z (i:=i) (k:=k)) PUt rfl ?_
     refine Ydl ?_
     refine a0A _ (a8Z (i:=i) (k:=k)) PUt rfl ?_
     simp(maxSteps:=10000000) (disch:=first|assumption|omega) only[go_sem,eq_true hb1]
     refine a0r (by kernel_rfl) ?_
     refine Yas ?_
     exact⟨a0w (by omega),ltS qq (hd1 ⟨ha1,hb1⟩)⟩
    ·refine Yas ?_
     refine a0A _ (a8Z (i:=i) (k:=k)) PUt rfl ?_
     refine Ydl ?_
     refine a0A _ (a8Z (i:=i) (k:=k)) PUt rfl ?_
     simp(maxSteps:=10000000) (disch:=first|assumption|omega) only[go_sem,eq_false hb1]
     refine a0r (by kernel_rfl) ?_
     refine Yas ?_
     refine Yaz ?_
     rfl
   ·refine Yas ?_
    refine a0A _ (a8Z (i:=i) (k:=k)) PUt rfl ?_
    simp(maxSteps:=10000000) (disch:=first|assumption|omega) only[go_sem,eq_false ha1,undef]
    refine a0r (by kernel_rfl) ?_
    refine Yas ?_
    refine Yba ?_
    rfl
  ·rintro sl ro gn ⟨s1,r4096,s2,s7,s8,s3,s13,s14,qq⟩
   dsimp only at s1 r4096 s2 s7 s8 s3 s13 s14
   have hk': ¬((T.length:Nat):Int)<(T.length:Nat):=by omega
   simp(maxSteps:=10000000) (disch:=first|assumption|omega) only[go_sem,s1,r4096,s2,s7,s8,s13,s14,hk']
   exact⟨a0w (by omega),ltS q (a0u.2 qq)⟩
 ·rintro sl ro gn ⟨s1,r4096,s2,s7,s8,q⟩
  dsimp only at s1 r4096 s2 s7 s8
  have hi': ¬((T.length:Nat):Int)<(T.length:Nat):=by omega
  have e:F1 T=none:=a0u.2 q
  simp(maxSteps:=10000000) (disch:=first|assumption|omega) only[go_sem,s7,s8,hi']
  refine Yaw ?_
  rfl
theorem b0f{c:AV}{T:List (List (List Int))}(ha:a0F c T)(hc:a1e T):a0d Tryz.prog 53 [.agg [c]] (.row (rws (fun i=>i64 (dlT T i)) T.length)):=by
 obtain⟨h1,h2,h3⟩:=id hc
 refine a0e (fn:=Tryz.f53) (code:=a0b Tryz.f53) Tryz.func53 rfl (by kernel_rfl) (a1i _ (a1a _ _ fun _=>rfl)) ?_
 intro sl hs
 have s0:sl 0= .agg [c]:=hs 0
 dsimp only[Tryz.f53,a0b,Option.getD]
 simp(maxSteps:=10000000) (disch:=first|assumption|omega) only[go_sem,s0,a1l,a3i,a0v ha]
 refine a0f (fun i st=>st.sl 1= .ptr 4096 1 [] 0∧st.ro 4096 1=some (.bx [c])∧st.sl 8=i64 (T.length:Nat)∧st.sl 9=i64 (i:Int)∧st.sl 3= .ref 8192 (st.gn 8192) [] 0 i∧st.ro 8192 (st.gn 8192)=some (.row (rws (fun i=>i64 (dlT T i)) i))) T.length ?_ ?_ ?_
 ·refine Yaf ?_
  rfl
 ·rintro i sl ro gn hi ⟨s1,r4096,s8,s9,s3,r8192⟩
  dsimp only at s1 r4096 s8 s9 s3 r8192
  have hi':(i:Int)<(T.length:Nat):=by omega
  have hi2:i+1≤4294967296:=by omega
  simp(maxSteps:=10000000) (disch:=first|assumption|omega) only[go_sem,s1,r4096,s8,s9,s3,hi']
  refine a0c _ (b7r ha hc hi) PUt rfl rfl ?_
  simp(maxSteps:=10000000) (disch:=first|assumption|omega) only[go_sem,s1,r4096,s8,s9,r8192,hi2]
  exact a0w (by omega)
 ·rintro sl ro gn ⟨s1,r4096,s8,s9,s3,r8192⟩
  dsimp only at s1 r4096 s8 s9 s3 r8192
  have hi': ¬((T.length:Nat):Int)<(T.length:Nat):=by omega
  simp(maxSteps:=10000000) (disch:=first|assumption|omega) only[go_sem,s8,s9,s3,hi']
  exact Yak
noncomputable def dfI(T:List (List (List Int))):Int:=match F2 T with
 |none=> -1
 |some l=>atI l 1
theorem c2P{c:AV}{T:List (List (List Int))}(ha:a0F c T)(hc:a1e T):a0d Tryz.prog 132 [.agg [c]] (i64 (dfI T)):=by
 obtain⟨h1,h2,h3⟩:=id hc
 refine a0e (fn:=Tryz.f132) (code:=a0b Tryz.f132) Tryz.func132 rfl (by kernel_rfl) (rfl) ?_
 intro sl hs
 have s0:sl 0= .agg [c]:=hs 0
 dsimp only[Tryz.f132,a0b,Option.getD]
 refine Ycq ?_
 refine a0f (fun i st=>st.sl 1= .ptr 4096 1 [] 0∧st.ro 4096 1=some (.bx [c])∧st.sl 7=i64 (T.length:Nat)∧st.sl 8=i64 (i:Int)∧(∀x,x<i→p2 T x=none)) T.length ?_ ?_ ?_
 ·refine Yaf ?_
  exact⟨rfl,lt0⟩
 ·rintro i sl ro gn hi ⟨s1,r4096,s7,s8,q⟩
  dsimp only at s1 r4096 s7 s8
  have hi':(i:Int)<(T.length:Nat):=by omega
  have hF: ∀l,p2 T i=some l→F2 T=some l:=fun l h=>a0U h q hi
  simp(maxSteps:=10000000) (disch:=first|assumption|omega) only[go_sem,s1,r4096,s7,s8,hi']
  refine a0c _ (b7r ha hc hi) PUt rfl rfl ?_
  by_cases hd:dlT T i<0
  ·have e:dfI T=i:=by unfold dfI;rw[hF [1,i] (if_pos (.inl hd))];rfl
   simp(maxSteps:=10000000) (disch:=first|assumption|omega) only[go_sem,eq_true hd,undef]
   exact Yam
  ·obtain⟨m,hm,hmT⟩:=a8l hd
   have hm0: ¬((m:Nat):Int)<0:=by omega
   rw[hm]
   by_cases hd2:dlT T m=i
   ·have e:p2 T i=none:=if_neg (by rw[hm,Int.toNat_natCast];intro h;rcases h with h|h;omega;exact h hd2)
    refine Ydy ?_
    refine a0c _ (b7r ha hc hmT) PUt rfl rfl ?_
    simp(maxSteps:=10000000) (disch:=first|assumption|omega) only[go_sem,s1,r4096,s7,s8,eq_true hd2]
    exact⟨a0w (by omega),ltS q e⟩
   ·have e:dfI T=i:=by unfold dfI;rw[hF [1,i] (if_pos (.inr (by rw[hm,Int.toNat_natCast];exact hd2)))];rfl
    refine Ydy ?_
    refine a0c _ (b7r ha hc hmT) PUt rfl rfl ?_
    simp(maxSteps:=10000000) (disch:=first|assumption|omega) only[go_sem,eq_false hd2]
    exact Yam
 ·rintro sl ro gn ⟨s1,r4096,s7,s8,q⟩
  dsimp only at s1 r4096 s7 s8
  have hi': ¬((T.length:Nat):Int)<(T.length:Nat):=by omega
  have e:dfI T= -1:=by unfold dfI;rw[show F2 T=none from a0u.2 q]
  simp(maxSteps:=10000000) (disch:=first|assumption|omega) only[go_sem,s7,s8,hi']
  exact Yam
theorem b9Z{T:List (List (List Int))}(h:F2 T=none){i:Nat}(hi:i<T.length): ∃m:Nat,dlT T i=m∧m<T.length:=by
 refine a8l fun h'=>?_
 have:=a0u.1 h i hi
 unfold p2 at this
 rw[if_pos (.inl h')]at this
 cases this
theorem c1H{c:AV}{T:List (List (List Int))}(ha:a0F c T)(hc:a1e T)(hF2:F2 T=none):a0d Tryz.prog 133 [.agg [c]] (b3c (F3 T)):=by
 obtain⟨h1,h2,h3⟩:=id hc
 refine a0e (fn:=Tryz.f133) (code:=a0b Tryz.f133) Tryz.func133 rfl (by kernel_rfl) (a3r _) ?_
 intro sl hs
 have s0:sl 0= .agg [c]:=hs 0
 dsimp only[Tryz.f133,a0b,Option.getD]
 refine Ybc ?_
 refine a0c _ (b0f ha hc) PUt rfl rfl ?_
 simp(maxSteps:=10000000) (disch:=first|assumption|omega) only[go_sem,a0i,zfe,a0v ha]
 refine a0f (fun i st=>st.sl 1= .ptr 4096 1 [] 0∧st.ro 4096 1=some (.bx [c])∧st.sl 2=a1q∧st.sl 3= .ref 8208 1 [] 0 T.length∧st.ro 8208 1=some (.row (rws (fun i=>i64 (dlT T i)) T.length))∧st.sl 12=i64 (T.length:Nat)∧st.sl 13=i64 (i:Int)∧(∀x,x<i→(fnd T.length fun j=>fnd T.length fun k=>p3 T x j k)=none)) T.length ?_ ?_ ?_
 ·refine Yaf ?_
  repeat' first|exact lt0|rfl|apply And.intro
 ·rintro i sl ro gn hi ⟨s1,r4096,s2,s3,r8208,s12,s13,q⟩
  dsimp only at s1 r4096 s2 s3 r8208 s12 s13
  have hi':(i:Int)<(T.length:Nat):=by omega
  simp(maxSteps:=10000000) (disch:=first|assumption|omega) only[go_sem,s1,r4096,s12,s13,hi',a0v ha]
  refine a0f (fun j st=>st.sl 1= .ptr 4096 1 [] 0∧st.ro 4096 1=some (.bx [c])∧st.sl 2=a1q∧st.sl 3= .ref 8208 1 [] 0 T.length∧st.ro 8208 1=some (.row (rws (fun i=>i64 (dlT T i)) T.length))∧st.sl 12=i64 (T.length:Nat)∧st.sl 13=i64 (i:Int)∧st.sl 4=i64 (i:Int)∧st.sl 18=i64 (T.length:Nat)∧st.sl 19=i64 (j:Int)∧(∀x,x<j→(fnd T.length fun k=>p3 T i x k)=none)) T.length ?_ ?_ ?_
  ·simp only[↓za, ↓reduceIte,Nat.reduceEqDiff,zb,s1,r4096,s2,s3,r8208,s12,s13]
   exact⟨rfl,lt0⟩
  ·rintro j sl ro gn hj ⟨s1,r4096,s2,s3,r8208,s12,s13,s4,s18,s19,qq⟩
   dsimp only at s1 r4096 s2 s3 r8208 s12 s13 s4 s18 s19
   have hj':(j:Int)<(T.length:Nat):=by omega
   simp(maxSteps:=10000000) (disch:=first|assumption|omega) only[go_sem,s1,r4096,s18,s19,hj',a0v ha]
   refine a0f (fun k st=>st.sl 1= .ptr 4096 1 [] 0∧st.ro 4096 1=some (.bx [c])∧st.sl 2=a1q∧st.sl 3= .ref 8208 1 [] 0 T.length∧st.ro 8208 1=some (.row (rws (fun i=>i64 (dlT T i)) T.length))∧st.sl 12=i64 (T.length:Nat)∧st.sl 13=i64 (i:Int)∧st.sl 4=i64 (i:Int)∧st.sl 18=i64 (T.length:Nat)∧st.sl 19=i64 (j:Int)∧st.sl 5=i64 (j:Int)∧st.sl 24=i64 (T.length:Nat)∧st.sl 25=i64 (k:Int)∧(∀x,x<k→p3 T i j x=none)) T.length ?_ ?_ ?_
   ·simp only[↓za, ↓reduceIte,Nat.reduceEqDiff,zb,s1,r4096,s2,s3,r8208,s12,s13,s4,s18,s19]
    exact⟨rfl,lt0⟩
   ·rintro k sl ro gn hk ⟨s1,r4096,s2,s3,r8208,s12,s13,s4,s18,s19,s5,s24,s25,qqq⟩
    dsimp only at s1 r4096 s2 s3 r8208 s12 s13 s4 s18 s19 s5 s24 s25
    have hk':(k:Int)<(T.length:Nat):=by omega
    obtain⟨di,hdi,hdi2⟩:=b9Z hF2 hi
    obtain⟨dj,hdj,hdj2⟩:=b9Z hF2 hj
    have hA:=a0o ha hi
    have hB:=a0o ha hdi2
    have hC:=a0o ha hk
    have hA1:=(h3 i hi).1
    have hB1:=(h3 di hdi2).1
    have hC1:=(h3 k hk).1
    have hA2:=a0m hA (k:=j) (by omega)
    have hB2:=a0m hB (k:=k) (by omega)
    have hC2:=a0m hC (k:=dj) (by omega)
    have hA3:=((h3 i hi).2 j hj).1
    have hB3:=((h3 di hdi2).2 k hk).1
    have hC3:=((h3 k hk).2 dj hdj2).1
    have hd:(at3 T i j k=at3 T di k j∧at3 T i j k=at3 T k dj i→p3 T i j k=none)∧(¬(at3 T i j k=at3 T di k j∧at3 T i j k=at3 T k dj i)→F3 T=some [2,(i:Int),(j:Int),(k:Int)]):=by
     have e1:(dlT T i).toNat=di:=by omega
     have e2:(dlT T j).toNat=dj:=by omega
     refine⟨fun h=>if_pos (by rw[e1,e2];exact h),fun h=>a0U (k:=i) (a0U (k:=j) (a0U (k:=k) (if_neg (by rw[e1,e2];exact h)) qqq hk) qq hj) q hi⟩
    obtain⟨hd1,hd2⟩:=hd
    by_cases ha1:atI (row (mat T i) j) k=atI (row (mat T di) k) j
    ·have ha1':=eq_true ha1
     by_cases hb1:atI (row (mat T i) j) k=atI (row (mat T k) dj) i
     ·have hb1':=eq_true hb1
      simp(maxSteps:=10000000) (disch:=first|assumption|omega) only[go_sem,s1,r4096,s3,r8208,s4,s5,s24,s25,hk',ha1',hb1',hdi,hdj]
      refine a0r (by kernel_rfl) ?_
      refine Ybu ?_
      exact⟨a0w (by omega),ltS qqq (hd1 ⟨ha1,hb1⟩)⟩
     ·simp(maxSteps:=10000000) (disch:=first|assumption|omega) only[go_sem,s1,r4096,s3,r8208,s4,s5,s24,s25,hk',ha1',hb1,hdi,hdj]
      refine a0r (by kernel_rfl) ?_
      refine Ybu ?_
      refine Yaz ?_
      rfl
    ·simp(maxSteps:=10000000) (disch:=first|assumption|omega) only[go_sem,s1,r4096,s3,r8208,s4,s5,s24,s25,hk',ha1,hdi,undef]
     refine a0r (by kernel_rfl) ?_
     refine Ybu ?_
     refine Yba ?_
     rfl
   ·rintro sl ro gn ⟨s1,r4096,s2,s3,r8208,s12,s13,s4,s18,s19,s5,s24,s25,qqq⟩
    dsimp only at s1 r4096 s2 s3 r8208 s12 s13 s4 s18 s19 s5 s24 s25
    have hk': ¬((T.length:Nat):Int)<(T.length:Nat):=by omega
    simp(maxSteps:=10000000) (disch:=first|assumption|omega) only[go_sem,s1,r4096,s2,s3,r8208,s12,s13,s4,s18,s19,s24,s25,hk']
    exact⟨a0w (by omega),ltS qq (a0u.2 qqq)⟩
  ·rintro sl ro gn ⟨s1,r4096,s2,s3,r8208,s12,s13,s4,s18,s19,qq⟩
   dsimp only at s1 r4096 s2 s3 r8208 s12 s13 s4 s18 s19
   have hj': ¬((T.length:Nat):Int)<(T.length:Nat):=by omega
   simp(maxSteps:=10000000) (disch:=first|assumption|omega) only[go_sem,s1,r4096,s2,s3,r8208,s12,s13,s18,s19,hj']
   exact⟨a0w (by omega),ltS q (a0u.2 qq)⟩
 ·rintro sl ro gn ⟨s1,r4096,s2,s3,r8208,s12,s13,q⟩
  dsimp only at s1 r4096 s2 s3 r8208 s12 s13
  have hi': ¬((T.length:Nat):Int)<(T.length:Nat):=by omega
  have e:F3 T=none:=a0u.2 q
  simp(maxSteps:=10000000) (disch:=first|assumption|omega) only[go_sem,s12,s13,hi']
  refine Yaw ?_
  rfl
theorem c0J{c:AV}{T:List (List (List Int))}(ha:a0F c T)(hc:a1e T):a0d Tryz.prog 134 [.agg [c]] (b3c (F4 T)):=by
 obtain⟨h1,h2,h3⟩:=id hc
 refine a0e (fn:=Tryz.f134) (code:=a0b Tryz.f134) Tryz.func134 rfl (by kernel_rfl) (a3r _) ?_
 intro sl hs
 have s0:sl 0= .agg [c]:=hs 0
 dsimp only[Tryz.f134,a0b,Option.getD]
 refine Ycq ?_
 refine a0f (fun i st=>st.sl 1= .ptr 4096 1 [] 0∧st.ro 4096 1=some (.bx [c])∧st.sl 2=a1q∧st.sl 13=c∧st.sl 14=i64 (T.length:Nat)∧st.sl 15=i64 (i:Int)∧(∀x,x<i→(fnd T.length fun j=>fnd T.length fun k=>fnd T.length fun l=>p4 T x j k l)=none)) T.length ?_ ?_ ?_
 ·refine Yaf ?_
  exact⟨rfl,lt0⟩
 ·rintro i sl ro gn hi ⟨s1,r4096,s2,s13,s14,s15,q⟩
  dsimp only at s1 r4096 s2 s13 s14 s15
  have hi':(i:Int)<(T.length:Nat):=by omega
  have hA:=a0o ha hi
  simp(maxSteps:=10000000) (disch:=first|assumption|omega) only[go_sem,s1,r4096,s13,s14,s15,hi',a0v ha]
  refine a0f (fun j st=>st.sl 1= .ptr 4096 1 [] 0∧st.ro 4096 1=some (.bx [c])∧st.sl 2=a1q∧st.sl 13=c∧st.sl 14=i64 (T.length:Nat)∧st.sl 15=i64 (i:Int)∧st.sl 3=i64 (i:Int)∧st.sl 4=atA c i∧st.sl 21=c∧st.sl 22=i64 (T.length:Nat)∧st.sl 23=i64 (j:Int)∧(∀x,x<j→(fnd T.length fun k=>fnd T.length fun l=>p4 T i x k l)=none)) T.length ?_ ?_ ?_
  ·simp only[↓za, ↓reduceIte,Nat.reduceEqDiff,zb,s1,r4096,s2,s13,s14,s15]
   exact⟨rfl,lt0⟩
  ·rintro j sl ro gn hj ⟨s1,r4096,s2,s13,s14,s15,s3,s4,s21,s22,s23,qq⟩
   dsimp only at s1 r4096 s2 s13 s14 s15 s3 s4 s21 s22 s23
   have hj':(j:Int)<(T.length:Nat):=by omega
   have hB:=a0o ha hj
   simp(maxSteps:=10000000) (disch:=first|assumption|omega) only[go_sem,s1,r4096,s21,s22,s23,hj',a0v ha]
   refine a0f (fun k st=>st.sl 1= .ptr 4096 1 [] 0∧st.ro 4096 1=some (.bx [c])∧st.sl 2=a1q∧st.sl 13=c∧st.sl 14=i64 (T.length:Nat)∧st.sl 15=i64 (i:Int)∧st.sl 3=i64 (i:Int)∧st.sl 4=atA c i∧st.sl 21=c∧st.sl 22=i64 (T.length:Nat)∧st.sl 23=i64 (j:Int)∧st.sl 5=i64 (j:Int)∧st.sl 6=atA c j∧st.sl 30=i64 (T.length:Nat)∧st.sl 31=i64 (k:Int)∧(∀x,x<k→(fnd T.length fun l=>p4 T i j x l)=none)) T.length ?_ ?_ ?_
   ·simp only[↓za, ↓reduceIte,Nat.reduceEqDiff,zb,s1,r4096,s2,s13,s14,s15,s3,s4,s21,s22,s23]
    exact⟨rfl,lt0⟩
   ·rintro k sl ro gn hk ⟨s1,r4096,s2,s13,s14,s15,s3,s4,s21,s22,s23,s5,s6,s30,s31,q3⟩
    dsimp only at s1 r4096 s2 s13 s14 s15 s3 s4 s21 s22 s23 s5 s6 s30 s31
    have hk':(k:Int)<(T.length:Nat):=by omega
    simp(maxSteps:=10000000) (disch:=first|assumption|omega) only[go_sem,s1,r4096,s30,s31,hk',a0v ha]
    refine a0f (fun l st=>st.sl 1= .ptr 4096 1 [] 0∧st.ro 4096 1=some (.bx [c])∧st.sl 2=a1q∧st.sl 13=c∧st.sl 14=i64 (T.length:Nat)∧st.sl 15=i64 (i:Int)∧st.sl 3=i64 (i:Int)∧st.sl 4=atA c i∧st.sl 21=c∧st.sl 22=i64 (T.length:Nat)∧st.sl 23=i64 (j:Int)∧st.sl 5=i64 (j:Int)∧st.sl 6=atA c j∧st.sl 30=i64 (T.length:Nat)∧st.sl 31=i64 (k:Int)∧st.sl 7=i64 (k:Int)∧st.sl 36=i64 (T.length:Nat)∧st.sl 37=i64 (l:Int)∧(∀x,x<l→p4 T i j k x=none)) T.length ?_ ?_ ?_
    ·simp only[↓za, ↓reduceIte,Nat.reduceEqDiff,zb,s1,r4096,s2,s13,s14,s15,s3,s4,s21,s22,s23,s5,s6,s30,s31]
     exact⟨rfl,lt0⟩
    ·rintro l sl ro gn hl ⟨s1,r4096,s2,s13,s14,s15,s3,s4,s21,s22,s23,s5,s6,s30,s31,s7,s36,s37,q4⟩
     dsimp only at s1 r4096 s2 s13 s14 s15 s3 s4 s21 s22 s23 s5 s6 s30 s31 s7 s36 s37
     have hl':(l:Int)<(T.length:Nat):=by omega
     simp(maxSteps:=10000000) (disch:=first|assumption|omega) only[go_sem,s1,r4096,s36,s37,hl',a0v ha]
     refine a0f (fun m st=>st.sl 1= .ptr 4096 1 [] 0∧st.ro 4096 1=some (.bx [c])∧st.sl 2=a1q∧st.sl 13=c∧st.sl 14=i64 (T.length:Nat)∧st.sl 15=i64 (i:Int)∧st.sl 3=i64 (i:Int)∧st.sl 4=atA c i∧st.sl 21=c∧st.sl 22=i64 (T.length:Nat)∧st.sl 23=i64 (j:Int)∧st.sl 5=i64 (j:Int)∧st.sl 6=atA c j∧st.sl 30=i64 (T.length:Nat)∧st.sl 31=i64 (k:Int)∧st.sl 7=i64 (k:Int)∧st.sl 36=i64 (T.length:Nat)∧st.sl 37=i64 (l:Int)∧st.sl 8=i64 (l:Int)∧st.sl 9=i64 (sm (lft T i j k l) m)∧st.sl 10=i64 (sm (rgt T i j k l) m)∧st.sl 42=i64 (T.length:Nat)∧st.sl 43=i64 (m:Int)) T.length ?_ ?_ ?_
     ·simp only[↓za, ↓reduceIte,Nat.reduceEqDiff,zb,s1,r4096,s2,s13,s14,s15,s3,s4,s21,s22,s23,s5,s6,s30,s31,s7,s36,s37]
      exact⟨rfl,rfl,rfl⟩
     ·rintro m sl ro gn hm ⟨s1,r4096,s2,s13,s14,s15,s3,s4,s21,s22,s23,s5,s6,s30,s31,s7,s36,s37,s8,s9,s10,s42,s43⟩
      dsimp only at s1 r4096 s2 s13 s14 s15 s3 s4 s21 s22 s23 s5 s6 s30 s31 s7 s36 s37 s8 s9 s10 s42 s43
      have hm':(m:Int)<(T.length:Nat):=by omega
      have hC:=a0o ha hm
      have hA1:=(h3 i hi).1
      have hB1:=(h3 j hj).1
      have hC1:=(h3 m hm).1
      have hA2:=a0m hA (k:=j) (by omega)
      have hA3:=a0m hA (k:=m) (by omega)
      have hB2:=a0m hB (k:=k) (by omega)
      have hC2:=a0m hC (k:=k) (by omega)
      have hA4:=((h3 i hi).2 j hj).1
      have hA5:=((h3 i hi).2 m hm).1
      have hB4:=((h3 j hj).2 k hk).1
      have hC4:=((h3 m hm).2 k hk).1
      have b1:=a5z (a5t hc i j k l) m
      have b2:=a5z (a5q hc i j k l) m
      have b3:0≤atI (row (mat T i) j) m*atI (row (mat T m) k) l∧_:=a5t hc i j k l m
      have b4:0≤atI (row (mat T j) k) m*atI (row (mat T i) m) l∧_:=a5q hc i j k l m
      have b5:atI (row (mat T i) j) m*atI (row (mat T m) k) l≤1000000:=(a5t hc i j k l m).2
      have b6:atI (row (mat T j) k) m*atI (row (mat T i) m) l≤1000000:=(a5q hc i j k l m).2
      refine Ybl ?_
      refine a0r (by kernel_rfl) ?_
      refine Ybl ?_
      refine a0r (by kernel_rfl) ?_
      refine Ybl ?_
      exact⟨a0w rfl,a0w rfl,a0w (by omega)⟩
     ·rintro sl ro gn ⟨s1,r4096,s2,s13,s14,s15,s3,s4,s21,s22,s23,s5,s6,s30,s31,s7,s36,s37,s8,s9,s10,s42,s43⟩
      dsimp only at s1 r4096 s2 s13 s14 s15 s3 s4 s21 s22 s23 s5 s6 s30 s31 s7 s36 s37 s8 s9 s10 s42 s43
      have hm': ¬((T.length:Nat):Int)<(T.length:Nat):=by omega
      have hd:(sm (lft T i j k l) T.length=sm (rgt T i j k l) T.length→p4 T i j k l=none)∧(¬sm (lft T i j k l) T.length=sm (rgt T i j k l) T.length→F4 T=some [3,(i:Int),(j:Int),(k:Int),(l:Int)]):=
       ⟨fun h=>if_pos h,fun h=>a0U (k:=i) (a0U (k:=j) (a0U (k:=k) (a0U (k:=l) (if_neg h) q4 hl) q3 hk) qq hj) q hi⟩
      by_cases h:sm (lft T i j k l) T.length=sm (rgt T i j k l) T.length
      ·simp(maxSteps:=10000000) (disch:=first|assumption|omega) only[go_sem,s1,r4096,s2,s13,s14,s15,s3,s4,s21,s22,s23,s5,s6,s30,s31,s7,s36,s37,s9,s10,s42,s43,hm',eq_true h]
       exact⟨a0w (by omega),ltS q4 (hd.1 h)⟩
      ·simp(maxSteps:=10000000) (disch:=first|assumption|omega) only[go_sem,s3,s5,s7,s8,s9,s10,s42,s43,hm',eq_false h]
       refine Yec ?_
       rfl
    ·rintro sl ro gn ⟨s1,r4096,s2,s13,s14,s15,s3,s4,s21,s22,s23,s5,s6,s30,s31,s7,s36,s37,q4⟩
     dsimp only at s1 r4096 s2 s13 s14 s15 s3 s4 s21 s22 s23 s5 s6 s30 s31 s7 s36 s37
     have hl': ¬((T.length:Nat):Int)<(T.length:Nat):=by omega
     simp(maxSteps:=10000000) (disch:=first|assumption|omega) only[go_sem,s1,r4096,s2,s13,s14,s15,s3,s4,s21,s22,s23,s5,s6,s30,s31,s36,s37,hl']
     exact⟨a0w (by omega),ltS q3 (a0u.2 q4)⟩
   ·rintro sl ro gn ⟨s1,r4096,s2,s13,s14,s15,s3,s4,s21,s22,s23,s5,s6,s30,s31,q3⟩
    dsimp only at s1 r4096 s2 s13 s14 s15 s3 s4 s21 s22 s23 s5 s6 s30 s31
    have hk': ¬((T.length:Nat):Int)<(T.length:Nat):=by omega
    simp(maxSteps:=10000000) (disch:=first|assumption|omega) only[go_sem,s1,r4096,s2,s13,s14,s15,s3,s4,s21,s22,s23,s30,s31,hk']
    exact⟨a0w (by omega),ltS qq (a0u.2 q3)⟩
  ·rintro sl ro gn ⟨s1,r4096,s2,s13,s14,s15,s3,s4,s21,s22,s23,qq⟩
   dsimp only at s1 r4096 s2 s13 s14 s15 s3 s4 s21 s22 s23
   have hj': ¬((T.length:Nat):Int)<(T.length:Nat):=by omega
   simp(maxSteps:=10000000) (disch:=first|assumption|omega) only[go_sem,s1,r4096,s2,s13,s14,s15,s22,s23,hj']
   exact⟨a0w (by omega),ltS q (a0u.2 qq)⟩
 ·rintro sl ro gn ⟨s1,r4096,s2,s13,s14,s15,q⟩
  dsimp only at s1 r4096 s2 s13 s14 s15
  have hi': ¬((T.length:Nat):Int)<(T.length:Nat):=by omega
  have e:F4 T=none:=a0u.2 q
  simp(maxSteps:=10000000) (disch:=first|assumption|omega) only[go_sem,s14,s15,hi']
  refine Yaw ?_
  rfl
theorem a9x{p:Nat→Bool}: ∀ {m:Nat},(∃k,k<m∧p k=true)→ ∃k,k<m∧p k=true∧ ∀j,j<k→p j=false
 |0,⟨k,h,_⟩=>by omega
 |m+1,⟨k,h,h1⟩=>by
  by_cases e: ∃k,k<m∧p k=true
  ·obtain⟨k',a,b,c⟩:=a9x e
   exact⟨k',by omega,b,c⟩
  ·have hk:k=m:=by
    refine Decidable.byContradiction fun hne=>e ⟨k,by omega,h1⟩
   subst hk
   exact⟨k,h,h1,fun j hj=>by
    cases hd:p j with
    |false=>rfl
    |true=>exact absurd ⟨j,hj,hd⟩ e⟩
theorem b9x{c:AV}{T:List (List (List Int))}(ha:a0F c T)(hc:a1e T):a0d Tryz.prog 110 [.agg [c]] (b3c (RF T)):=by
 have c1:=c2t ha hc
 have c2:=c2P ha hc
 have c4:=c0J ha hc
 refine a0e (fn:=Tryz.f110) (code:=a0b Tryz.f110) Tryz.func110 rfl (by kernel_rfl) (a3r _) ?_
 intro sl hs
 have s0:sl 0= .agg [c]:=hs 0
 cases h1:F1 T with
 |some l=>
  rw[h1]at c1
  have e:=RF1 h1
  dsimp only[Tryz.f110,a0b,Option.getD]
  refine Ybc ?_
  refine a0c _ c1 PUt rfl rfl ?_
  refine Ych ?_
  exact Yam
 |none=>
  rw[h1]at c1
  cases h2:F2 T with
  |some l=>
   have e:=RF2 h1 h2
   have hl: ∃i:Nat,l=[1,(i:Int)]:=by
    refine Classical.byContradiction fun hne=>?_
    have:F2 T=none:=a0u.2 fun i hi=>by
     cases hp:p2 T i with
     |none=>rfl
     |some z=>
      exfalso
      have h0: ∃k,k<T.length∧ ∃z,p2 T k=some z∧ ∀j,j<k→p2 T j=none:=by
       have hx: ∃k,k<T.length∧(p2 T k).isSome=true:=⟨i,hi,by rw[hp];rfl⟩
       obtain⟨k,a,b,c⟩:=a9x (p:=fun k=>(p2 T k).isSome) hx
       obtain⟨z,hz⟩:=Option.isSome_iff_exists.1 b
       exact⟨k,a,z,hz,fun j hj=>by
        have:=c j hj
        cases hq:p2 T j with
        |none=>rfl
        |some y=>rw[hq]at this;cases this⟩
      obtain⟨k,hk,z,hz,hpr⟩:=h0
      have h9:=a0U hz hpr hk
      have h8:F2 T=some z:=h9
      rw[h2]at h8
      obtain rfl:=Option.some.inj h8
      unfold p2 at hz
      split at hz
      ·exact hne ⟨k,(Option.some.inj hz).symm⟩
      ·cases hz
    rw[this]at h2;cases h2
   obtain⟨i,rfl⟩:=hl
   have e2:dfI T=i:=by unfold dfI;rw[h2];rfl
   rw[e2]at c2
   have hi0:(0:Int)≤(i:Nat):=by omega
   dsimp only[Tryz.f110,a0b,Option.getD]
   refine Ybc ?_
   refine a0c _ c1 PUt rfl rfl ?_
   refine Yau ?_
   refine a0c _ c2 PUt rfl rfl ?_
   simp(maxSteps:=10000000) (disch:=first|assumption|omega) only[go_sem]
   refine Yaw ?_
   rfl
  |none=>
   have e2:dfI T= -1:=by unfold dfI;rw[h2]
   rw[e2]at c2
   have c3:=c1H ha hc h2
   cases h3:F3 T with
   |some l=>
    rw[h3]at c3
    have e:=RF3 h1 h2 h3
    dsimp only[Tryz.f110,a0b,Option.getD]
    refine Ybc ?_
    refine a0c _ c1 PUt rfl rfl ?_
    refine Yau ?_
    refine a0c _ c2 PUt rfl rfl ?_
    refine Ydd ?_
    refine a0c _ c3 PUt rfl rfl ?_
    refine Ych ?_
    exact Yam
   |none=>
    rw[h3]at c3
    have e:=RF4 h1 h2 h3
    rw[e]
    cases h4:F4 T with
    |none=>
     rw[h4]at c4
     dsimp only[Tryz.f110,a0b,Option.getD]
     refine Ybc ?_
     refine a0c _ c1 PUt rfl rfl ?_
     refine Yau ?_
     refine a0c _ c2 PUt rfl rfl ?_
     refine Ydd ?_
     refine a0c _ c3 PUt rfl rfl ?_
     refine Yau ?_
     refine a0c _ c4 PUt rfl rfl ?_
     refine Yau ?_
     exact Yaa
    |some l=>
     rw[h4]at c4
     dsimp only[Tryz.f110,a0b,Option.getD]
     refine Ybc ?_
     refine a0c _ c1 PUt rfl rfl ?_
     refine Yau ?_
     refine a0c _ c2 PUt rfl rfl ?_
     refine Ydd ?_
     refine a0c _ c3 PUt rfl rfl ?_
     refine Yau ?_
     refine a0c _ c4 PUt rfl rfl ?_
     refine Ych ?_
     exact Yaa
def PlP(T:List (List (List Int)))(i:Nat):Prop:=(mat T i).length=T.length∧ ∀j,j<T.length→(row (mat T i) j).length=T.length∧ ∀k,k<T.length→0≤at3 T i j k∧at3 T i j k≤1000
theorem b4G{c:AV}{T:List (List (List Int))}(ha:a0F c T)(hz:SzP T){t:Bool}(ht:t=true↔a1e T):a0d Tryz.prog 84 [.agg [c]] (bo t):=by
 obtain⟨z1,z2⟩:=hz
 have z1':T.length≤4294967296:=z1
 refine a0e (fn:=Tryz.f84) (code:=a0b Tryz.f84) Tryz.func84 rfl (by kernel_rfl) (rfl) ?_
 intro sl hs
 have s0:sl 0= .agg [c]:=hs 0
 dsimp only[Tryz.f84,a0b,Option.getD]
 refine Yfg ?_
 refine a0f (fun i st=>st.sl 1= .ptr 4096 1 [] 0∧st.ro 4096 1=some (.bx [c])∧st.sl 3= .ptr 8240 1 [] 0∧st.ro 8240 1=some (.bx [i64 (T.length:Nat)])∧st.sl 10=c∧st.sl 11=i64 (T.length:Nat)∧st.sl 12=i64 (i:Int)∧(∀j,j<i→PlP T j)) T.length ?_ ?_ ?_
 ·refine Yaf ?_
  repeat' first|exact lt0|rfl|apply And.intro
 ·rintro i sl ro gn hi ⟨s1,r4096,s3,r8240,s10,s11,s12,q⟩
  dsimp only at s1 r4096 s3 r8240 s10 s11 s12
  have hi':(i:Int)<(T.length:Nat):=by omega
  have hm:=a0o ha hi
  by_cases hl:(mat T i).length=T.length
  ·have hl':((mat T i).length:Int)=T.length:=by omega
   have cc: ∀ {t:Bool},(t=true↔ ∃y,y<(mat T i).length∧(!(decide ((row (mat T i) y).length=T.length)&&b2M (row (mat T i) y) 0 1000))=true)→a0d Tryz.prog 73 [atA c i,.fn 115 [.iptr [i64 (T.length:Nat)]]] (bo t):=fun {t} ht=>
    c127 (t:=t) (p:=fun y=>!(decide ((row (mat T i) y).length=T.length)&&b2M (row (mat T i) y) 0 1000)) hm ((z2 i hi).1) rfl rfl (fun y hy=>c128 (a0m hm hy) ((z2 i hi).2 y hy)) ht
   by_cases hb:PlP T i
   ·have c1:=cc (t:=false) (by
     refine⟨fun h=>(nomatch h),?_⟩
     rintro⟨y,hy,h⟩
     obtain⟨h1,h2⟩:=hb.2 y (by omega)
     rw[decide_eq_true h1,a7S.2 fun k hk=>h2 k (by omega)]at h
     simp at h)
    refine Yet ?_
    refine a0z _ c1 (.cons (a2G hm (by decide)) (.cons (a4o (.cons (a2y r8240 (.cons (a1f _ _ _ (by decide)) .nil)) .nil)) .nil)) rfl rfl rfl ?_
    refine Ygd ?_
    exact⟨a0w (by omega),ltS q hb⟩
   ·have c1:=cc (t:=true) (by
     refine⟨fun _=>Classical.byContradiction fun hne=>hb ⟨hl,fun j hj=>?_⟩,fun _=>rfl⟩
     have h3:(!(decide ((row (mat T i) j).length=T.length)&&b2M (row (mat T i) j) 0 1000))≠true:=fun h=>hne ⟨j,by omega,h⟩
     have h4:(decide ((row (mat T i) j).length=T.length)&&b2M (row (mat T i) j) 0 1000)=true:=by
      cases h:(decide ((row (mat T i) j).length=T.length)&&b2M (row (mat T i) j) 0 1000)with
      |true=>rfl
      |false=>rw[h]at h3;exact absurd rfl h3
     rw[Bool.and_eq_true]at h4
     have h5:=of_decide_eq_true h4.1
     exact⟨h5,fun k hk=>a7S.1 h4.2 k (by omega)⟩)
    have ht':t=false:=by
     cases t with
     |false=>rfl
     |true=>exact absurd ((ht.1 rfl).2.2 i hi) hb
    refine Yet ?_
    refine a0z _ c1 (.cons (a2G hm (by decide)) (.cons (a4o (.cons (a2y r8240 (.cons (a1f _ _ _ (by decide)) .nil)) .nil)) .nil)) rfl rfl rfl ?_
    refine Ygd ?_
    exact Yag
  ·have hl': ¬((mat T i).length:Int)=T.length:=by omega
   have ht':t=false:=by
    cases t with
    |false=>rfl
    |true=>exact absurd ((ht.1 rfl).2.2 i hi).1 hl
   simp(disch:=first|assumption|omega) only[go_sem,s3,r8240,s10,s11,s12,hi',eq_false hl',undef]
   exact Yag
 ·rintro sl ro gn ⟨s1,r4096,s3,r8240,s10,s11,s12,q⟩
  dsimp only at s1 r4096 s3 r8240 s10 s11 s12
  have hi': ¬((T.length:Nat):Int)<(T.length:Nat):=by omega
  by_cases h1:1≤T.length
  ·have h1':(1:Int)≤T.length:=by omega
   by_cases h16:T.length≤16
   ·have h16':(T.length:Int)≤16:=by omega
    simp(disch:=first|assumption|omega) only[go_sem,s3,r8240,s11,s12,hi']
    refine Yab ?_
    exact(ht.2 ⟨h1,h16,q⟩).symm
   ·have h16': ¬(T.length:Int)≤16:=by omega
    have ht':t=false:=by
     cases t with
     |false=>rfl
     |true=>exact absurd (ht.1 rfl).2.1 h16
    simp(disch:=first|assumption|omega) only[go_sem,s3,r8240,s11,s12,hi']
    exact Yag
  ·have h1': ¬(1:Int)≤T.length:=by omega
   have ht':t=false:=by
    cases t with
    |false=>rfl
    |true=>exact absurd (ht.1 rfl).1 h1
   simp(disch:=first|assumption|omega) only[go_sem,s3,r8240,s11,s12,hi',undef]
   exact Yag
def a2j(T:List (List (List Int))):Prop:=a1e T∧RF T=none
theorem a2n{c:AV}{T:List (List (List Int))}(ha:a0F c T)(hz:SzP T){t:Bool}(ht:t=true↔a2j T):a0d Tryz.prog 77 [.agg [c]] (bo t):=by
 refine a0e (fn:=Tryz.f77) (code:=a0b Tryz.f77) Tryz.func77 rfl (by kernel_rfl) (rfl) ?_
 intro sl hs
 have s0:sl 0= .agg [c]:=hs 0
 by_cases hc:a1e T
 ·have cc:=b4G ha hz (t:=true) ⟨fun _=>hc,fun _=>rfl⟩
  have cf:=b9x ha hc
  cases hr:RF T with
  |none=>
   rw[hr]at cf
   have ht':t=true:=ht.2 ⟨hc,hr⟩
   dsimp only[Tryz.f77,a0b,Option.getD]
   refine Yan ?_
   refine a0c _ cc PUt rfl rfl ?_
   refine Yae ?_
   refine a0c _ cf PUt rfl rfl ?_
   simp(disch:=first|assumption|omega) only[go_sem,b3c]
   exact Yag
  |some l=>
   have ht':t=false:=by
    cases t with
    |false=>rfl
    |true=>have:=(ht.1 rfl).2;rw[hr]at this;cases this
   rw[hr]at cf
   dsimp only[Tryz.f77,a0b,Option.getD]
   refine Yan ?_
   refine a0c _ cc PUt rfl rfl ?_
   refine Yae ?_
   refine a0c _ cf PUt rfl rfl ?_
   simp(disch:=first|assumption|omega) only[go_sem,b3c,a0H,a0i,List.length_map]
   exact Yag
 ·have cc:=b4G ha hz (t:=false) ⟨fun h=>(nomatch h),fun h=>absurd h hc⟩
  have ht':t=false:=by
   cases t with
   |false=>rfl
   |true=>exact absurd (ht.1 rfl).1 hc
  dsimp only[Tryz.f77,a0b,Option.getD]
  refine Yan ?_
  refine a0c _ cc PUt rfl rfl ?_
  simp(disch:=first|assumption|omega) only[go_sem,undef]
  exact Yag
theorem c4B{a b:AV}{xs ys:List (List Int)}(ha:a2t a xs)(hb:a2t b ys)(hx:xs.length≤a0G)(hr: ∀i,i<xs.length→(row xs i).length≤a0G):a0d Tryz.prog 136 [a,b] (bo (decide (xs=ys))):=by
 refine a0e (fn:=Tryz.f136) (code:=a0b Tryz.f136) Tryz.func136 rfl (by kernel_rfl) (rfl) ?_
 intro sl hs
 have s0:sl 0=a:=hs 0
 have s1:sl 1=b:=hs 1
 dsimp only[Tryz.f136,a0b,Option.getD]
 refine Yah ?_
 refine a0c _ (c158 ha hb hx hr) PUt rfl rfl ?_
 refine Yah ?_
 exact Yaa
theorem cEqF{a b:AV}{X Y:List (List (List Int))}(ha:a0F a X)(hb:a0F b Y)(hz:SzP X):a0d Tryz.prog 135 [a,b,.fn 136 []] (bo (decide (X=Y))):=by
 obtain⟨z1,z2⟩:=hz
 have hx':X.length≤4294967296:=z1
 refine a0e (fn:=Tryz.f135) (code:=a0b Tryz.f135) Tryz.func135 rfl (by kernel_rfl) (rfl) ?_
 intro sl hs
 have s0:sl 0=a:=hs 0
 have s1:sl 1=b:=hs 1
 have s2:sl 2= .fn 136 []:=hs 2
 by_cases hl:X.length=Y.length
 ·dsimp only[Tryz.f135,a0b,Option.getD]
  simp(disch:=first|assumption|omega) only[go_sem,s0,s1,a3i]
  refine a0f (fun i st=>st.sl 0=a∧st.sl 1=b∧st.sl 2= .fn 136 []∧st.sl 15=a∧st.sl 16=i64 (X.length:Int)∧st.sl 17=i64 (i:Int)∧(∀x,x<i→mat X x=mat Y x)) X.length ?_ ?_ ?_
  ·refine Ycz ?_
   exact⟨rfl,lt0⟩
  ·rintro i sl ro gn hi ⟨s0,s1,s2,s15,s16,s17,q⟩
   dsimp only at s0 s1 s2 s15 s16 s17
   have hi':(i:Int)<(X.length:Nat):=by omega
   have h1:=a0o ha hi
   have h2:=a0o hb (k:=i) (by omega)
   refine Ydk ?_
   refine a0c _ (c4B h1 h2 (z2 i hi).1 (z2 i hi).2) PUt rfl rfl ?_
   by_cases h:mat X i=mat Y i
   ·simp(disch:=first|assumption|omega) only[go_sem,s0,s1,s2,s15,s16,s17,decide_eq_true h]
    exact⟨a0w (by omega),ltS q h⟩
   ·simp(disch:=first|assumption|omega) only[go_sem,decide_eq_false h]
    refine Yab ?_
    exact(decide_eq_false fun e=>h (by rw[e])).symm
  ·rintro sl ro gn ⟨s0,s1,s2,s15,s16,s17,q⟩
   dsimp only at s0 s1 s2 s15 s16 s17
   have hi': ¬((X.length:Nat):Int)<(X.length:Nat):=by omega
   simp(disch:=first|assumption|omega) only[go_sem,s16,s17,hi']
   refine Yab ?_
   exact(decide_eq_true (c5k hl q)).symm
 ·have hl': ¬(X.length:Int)=Y.length:=by omega
  dsimp only[Tryz.f135,a0b,Option.getD]
  simp(disch:=first|assumption|omega) only[go_sem,s0,s1,eq_false hl']
  refine Yab ?_
  exact(decide_eq_false fun e=>hl (by rw[e])).symm
theorem c3g{a b:AV}{X Y:List (List (List Int))}(ha:a0F a X)(hb:a0F b Y)(hz:SzP X):a0d Tryz.prog 111 [a,b] (bo (decide (X=Y))):=by
 refine a0e (fn:=Tryz.f111) (code:=a0b Tryz.f111) Tryz.func111 rfl (by kernel_rfl) (rfl) ?_
 intro sl hs
 have s0:sl 0=a:=hs 0
 have s1:sl 1=b:=hs 1
 dsimp only[Tryz.f111,a0b,Option.getD]
 refine Yah ?_
 refine a0c _ (cEqF ha hb hz) PUt rfl rfl ?_
 refine Yah ?_
 exact Yaa
end Go.Proofs.YtbakhfiibjkifaaGreat
