/- Texts joined: Ci4 Ci5 Ee0 Ci6 Ch5 Ch6 O1 Y1. -/
import Derived.ChangeOld
import Derived.Below
import Derived.Carry
import Derived.Deep.Slices
import Derived.ChangeSlices
import Derived.Lib.SmallJoins
import Derived.Test.YtbakhfiibjkifaaGreatMg
import Derived.Test.YtbakhfiibjkifaaGreatCa
import Derived.Test.YtbakhfiibjkifaaGreatOb
import Derived.Test.YtbakhfiibjkifaaGreatCb
set_option linter.all false
/- Characters by the program: conditions in common. -/
namespace Go.Proofs.YtbakhfiibjkifaaGreat
open Go.RowKit
set_option maxRecDepth 1000000
theorem b7a{α:Type}(f g:Nat→α)(n m:Nat):rws f n++rws g m=rws (fun j=>if j<n then f j else g (j-n)) (n+m):=by
 apply List.ext_getElem?
 intro j
 by_cases h:j<n
 ·rw[List.getElem?_append_left (by rw[zfe];exact h),a0l _ _ _ h,a0l _ _ _ (by omega),if_pos h]
 ·rw[List.getElem?_append_right (by rw[zfe];omega),zfe]
  by_cases h2:j<n+m
  ·rw[a0l _ _ _ (by omega),a0l _ _ _ h2,if_neg h]
  ·rw[List.getElem?_eq_none (by rw[zfe];omega),List.getElem?_eq_none (by rw[zfe];omega)]
theorem a5M(r n w:Nat)(R L:Nat→Nat→Int):rws (fun i=>AV.row (rws (fun j=>i64 (R i j)) w)) r++rws (fun i=>AV.row (rws (fun j=>i64 (L i j)) w)) n=rws (fun i=>AV.row (rws (fun j=>i64 (stk r R L i j)) w)) (r+n):=by
 rw[b7a]
 refine a0g fun i _=>?_
 unfold stk
 by_cases h:i<r
 ·rw[if_pos h];simp only[if_pos h]
 ·rw[if_neg h];simp only[if_neg h]
theorem c1T{b:Nat}{gn:Nat→Nat}{cs:List AV}{v:Value}:a2k b gn (.tup [.row cs,.sc v])=⟨.tup [.ref b (gn b+1) [] 0 cs.length,.sc v],none,[],[(b,.row cs)]⟩:=nr _
theorem b8w(f:Nat→Nat→Int)(n m:Nat)(v:Int):noI (.tup [a2o f n m,i64 v])=true:=by
 have h:=a2a f n m
 show (noI (a2o f n m)&&(noI (i64 v)&&true))=true
 rw[h]
 rfl
theorem a8A{f:Nat→List AV}{n:Nat}(h:0<n):(rws (fun i=>AV.row (f i)) n).all zez=false:=by
 obtain⟨m,rfl⟩: ∃m,n=m+1:=⟨n-1,by omega⟩
 unfold rws
 rw[List.range_succ_eq_map,List.map_cons,List.all_cons]
 rfl
theorem a9t{f:Nat→List AV}{n:Nat}:((rws (fun i=>AV.row (f i)) n).all fun a=>zez a||zey a)=true:=List.all_eq_true.2 fun x hx=>by
 unfold rws at hx
 obtain⟨y, -, rfl⟩:=List.mem_map.1 hx
 rfl
theorem cHas{a b:AV}{K n:Nat}{T:Nat→Nat→Nat→Int}{vs:List Int}(ha:a0F a (rws (fun k=>a1r (T k) n n) K))(hb:isL b vs)(hK:0<K)(hv:K≤vs.length)(hKm:K≤1000)(h0:0<n)(hn:n≤1000)(hT: ∀k,a1G (T k))(nv:a2s vs):
  a0d Tryz.prog 89 [a,b] (bo (decide ((cmn n (fun k=>lsM (T k) (atI vs k)) K).2<n))):=by
 have hl:(rws (fun k=>a1r (T k) n n) K).length=K:=zfe _ _
 have nL: ∀k,a1G (lsM (T k) (atI vs k)):=fun k=>a3C (hT k) _
 refine a0e (fn:=Tryz.f89) (code:=a0b Tryz.f89) Tryz.func89 rfl (by kernel_rfl) (rfl) ?_
 intro sl hs
 have s0:sl 0=a:=hs 0
 have s1:sl 1=b:=hs 1
 dsimp only[Tryz.f89,a0b,Option.getD]
 simp(disch:=first|assumption|omega) only[go_sem,s0,hl]
 refine a0f (fun k st=>st.sl 0=a∧st.sl 1=b∧st.sl 9=a∧st.sl 10=i64 (K:Nat)∧st.sl 11=i64 (k:Int)∧(((st.sl 5= .ref 8192 (st.gn 8192) [] 0 (cmn n (fun k=>lsM (T k) (atI vs k)) k).2∧st.ro 8192 (st.gn 8192)=some (a2o (cmn n (fun k=>lsM (T k) (atI vs k)) k).1 (cmn n (fun k=>lsM (T k) (atI vs k)) k).2 n))∨(st.sl 5= .ref 28688 (st.gn 28688) [] 0 (cmn n (fun k=>lsM (T k) (atI vs k)) k).2∧st.ro 28688 (st.gn 28688)=some (a2o (cmn n (fun k=>lsM (T k) (atI vs k)) k).1 (cmn n (fun k=>lsM (T k) (atI vs k)) k).2 n))))) K ?_ ?_ ?_
 ·refine Yac ?_
  exact⟨rfl,.inl ⟨rfl,rfl⟩⟩
 ·rintro k sl ro gn hk ⟨s0,s1,s9,s10,s11,q⟩
  dsimp only at s0 s1 s9 s10 s11
  have hk':(k:Int)<(K:Nat):=by omega
  dsimp only at q
  have hm:=a0o ha (k:=k) (by rw[hl];exact hk)
  have em:mat (rws (fun k=>a1r (T k) n n) K) k=a1r (T k) n n:=by unfold mat;rw[List.getD_eq_getElem?_getD,a0l _ _ _ hk];rfl
  rw[em]at hm
  have c1:k<vs.length:=by omega
  have cl:=b3m (v:=atI vs k) hm (by omega) (hT k) (nv k)
  have hr:=b1z (n:=n) nL k
  have hrn:(cmn n (fun k=>lsM (T k) (atI vs k)) k).2+n≤4294967296:=by omega
  have hA1:=a8A (f:=fun i=>rws (fun j=>i64 (lsM (T k) (atI vs k) i j)) n) h0
  have hA2:=a9t (f:=fun i=>rws (fun j=>i64 (lsM (T k) (atI vs k) i j)) n) (n:=n)
  rcases q with⟨p5,pr⟩|⟨p5,pr⟩
  ·refine Ygm ?_
   refine a0c _ cl PUt rfl rfl ?_
   refine Ycf ?_
   rw[a5M]
   refine a0z _ (b5C (a1g (stk (cmn n (fun k=>lsM (T k) (atI vs k)) k).2 (cmn n (fun k=>lsM (T k) (atI vs k)) k).1 (lsM (T k) (atI vs k))) ((cmn n (fun k=>lsM (T k) (atI vs k)) k).2+n) n) (by omega) (by omega) h0 (by omega) (a3E (a2v nL k) (nL k))) AXt rfl rfl (b8w _ _ _ _) ?_
   refine Ygh ?_
   refine⟨a0w (by omega),.inr ⟨?_,?_⟩⟩
   ·rfl
   ·rfl
  ·refine Ygm ?_
   refine a0c _ cl PUt rfl rfl ?_
   refine Ycf ?_
   rw[a5M]
   refine a0z _ (b5C (a1g (stk (cmn n (fun k=>lsM (T k) (atI vs k)) k).2 (cmn n (fun k=>lsM (T k) (atI vs k)) k).1 (lsM (T k) (atI vs k))) ((cmn n (fun k=>lsM (T k) (atI vs k)) k).2+n) n) (by omega) (by omega) h0 (by omega) (a3E (a2v nL k) (nL k))) AXt rfl rfl (b8w _ _ _ _) ?_
   refine Ygh ?_
   refine⟨a0w (by omega),.inr ⟨?_,?_⟩⟩
   ·rfl
   ·rfl
 ·rintro sl ro gn ⟨s0,s1,s9,s10,s11,q⟩
  dsimp only at s0 s1 s9 s10 s11
  have hk': ¬((K:Nat):Int)<(K:Nat):=by omega
  dsimp only at q
  have hm:=a0o ha (k:=0) (by rw[hl];exact hK)
  have em:mat (rws (fun k=>a1r (T k) n n) K) 0=a1r (T 0) n n:=by unfold mat;rw[List.getD_eq_getElem?_getD,a0l _ _ _ hK];rfl
  rw[em]at hm
  have lm:(a1r (T 0) n n).length=n:=a0x _ _ _
  rcases q with⟨p5,pr⟩|⟨p5,pr⟩
  ·refine Ycl ?_
   refine Yab ?_
   exact decide_eq_decide.2 Int.ofNat_lt
  ·refine Ycl ?_
   refine Yab ?_
   exact decide_eq_decide.2 Int.ofNat_lt
def b8Q(T:List (List (List Int)))(xs:List Int)(i j:Nat):Prop:=sm (fun k=>at3 T i j k*atI xs k) T.length % 55441=atI xs i*atI xs j % 55441
def chP(T:List (List (List Int)))(xs:List Int):Prop:=(∀i,i<T.length→ ∀j,j<T.length→b8Q T xs i j)∧atI xs 0=1
theorem b1G{T:List (List (List Int))}(hT:a1e T)(i j:Nat):a2s (row (mat T i) j):=fun k=>by
 have h:=a5h hT i j k
 have e:atI (row (mat T i) j) k=at3 T i j k:=rfl
 unfold num
 rw[e]
 omega
theorem b2x{c a:AV}{T:List (List (List Int))}{xs:List Int}(hc:a0F c T)(hT:a1e T)(ha:isL a xs)(hl:xs.length=T.length)(nx:a2s xs){t:Bool}(ht:t=true↔chP T xs):
  a0d Tryz.prog 50 [.agg [c],a] (bo t):=by
 obtain⟨t1,t16,hcu⟩:=id hT
 refine a0e (fn:=Tryz.f50) (code:=a0b Tryz.f50) Tryz.func50 rfl (by kernel_rfl) (rfl) ?_
 intro sl hs
 have s0:sl 0= .agg [c]:=hs 0
 have s1:sl 1=a:=hs 1
 dsimp only[Tryz.f50,a0b,Option.getD]
 simp(disch:=first|assumption|omega) only[go_sem,s0,a0v hc,a1l,a3i]
 refine a0f (fun i st=>st.sl 1=a∧st.sl 2= .ptr 4096 1 [] 0∧st.ro 4096 1=some (.bx [c])∧st.sl 10=c∧st.sl 11=i64 (T.length:Nat)∧st.sl 12=i64 (i:Int)∧(∀i',i'<i→ ∀j,j<T.length→b8Q T xs i' j)) T.length ?_ ?_ ?_
 ·refine Yac ?_
  exact⟨rfl,fun i' h=>absurd h (Nat.not_lt_zero _)⟩
 ·rintro i sl ro gn hi ⟨s1,s2,r4096,s10,s11,s12,q⟩
  dsimp only at s1 s2 r4096 s10 s11 s12
  have hi':(i:Int)<(T.length:Nat):=by omega
  have hm:=a0o hc hi
  have lm:(mat T i).length=T.length:=(hcu i hi).1
  have hxi:i<xs.length:=by omega
  simp(disch:=first|assumption|omega) only[go_sem,s10,s11,s12,hi',a0R hm,lm]
  refine a0f (fun j st=>st.sl 1=a∧st.sl 2= .ptr 4096 1 [] 0∧st.ro 4096 1=some (.bx [c])∧st.sl 10=c∧st.sl 11=i64 (T.length:Nat)∧st.sl 12=i64 (i:Int)∧st.sl 5=i64 (i:Int)∧st.sl 17=atA c i∧st.sl 18=i64 (T.length:Nat)∧st.sl 19=i64 (j:Int)∧(∀j',j'<j→b8Q T xs i j')) T.length ?_ ?_ ?_
  ·simp only[↓za, ↓reduceIte,Nat.reduceEqDiff,zb,s1,s2,r4096,s10,s11,s12]
   exact⟨rfl,fun j' h=>absurd h (Nat.not_lt_zero _)⟩
  ·rintro j sl ro gn hj ⟨s1,s2,r4096,s10,s11,s12,s5,s17,s18,s19,q2⟩
   dsimp only at s1 s2 r4096 s10 s11 s12 s5 s17 s18 s19
   have hj':(j:Int)<(T.length:Nat):=by omega
   have hjm:j<(mat T i).length:=by omega
   have hr:=a0m hm hjm
   have lr:(row (mat T i) j).length=T.length:=((hcu i hi).2 j hj).1
   have hxj:j<xs.length:=by omega
   have cd:=c3M hr ha (by rw[lr];unfold a0G;omega) (by omega) (b1G hT i j) nx
   rw[lr]at cd
   have ni:=nx i
   have nj:=nx j
   unfold num at ni nj
   have hmul:=a6N ni.1 (show atI xs i≤55440 by omega) nj.1 (show atI xs j≤55440 by omega)
   have htm:Int.tmod (atI xs i*atI xs j) 55441=atI xs i*atI xs j % 55441:=Int.tmod_eq_emod_of_nonneg (by omega)
   by_cases he:sm (fun k=>at3 T i j k*atI xs k) T.length % 55441=atI xs i*atI xs j % 55441
   ·refine Yel ?_
    refine a0A _ cd PUt rfl ?_
    simp(disch:=first|assumption|omega) only[go_sem,s1,s5,a0s ha hxi,a0s ha hxj,htm,eq_true he]
    refine a0r (by kernel_rfl) ?_
    refine Yfj ?_
    refine⟨a0w (by omega),fun j' hj'=>?_⟩
    rcases Nat.lt_or_eq_of_le (Nat.le_of_lt_succ hj')with h|h
    ·exact q2 j' h
    ·rw[h];exact he
   ·have ht':t=false:=by
     cases t with
     |false=>rfl
     |true=>exact absurd ((ht.1 rfl).1 i hi j hj) he
    subst ht'
    refine Yel ?_
    refine a0A _ cd PUt rfl ?_
    simp(disch:=first|assumption|omega) only[go_sem,s1,s5,a0s ha hxi,a0s ha hxj,htm,eq_false he]
    refine a0r (by kernel_rfl) ?_
    refine Yfj ?_
    exact Yaa
  ·rintro sl ro gn ⟨s1,s2,r4096,s10,s11,s12,s5,s17,s18,s19,q2⟩
   dsimp only at s1 s2 r4096 s10 s11 s12 s5 s17 s18 s19
   have hj': ¬((T.length:Nat):Int)<(T.length:Nat):=by omega
   simp(disch:=first|assumption|omega) only[go_sem,s1,s2,r4096,s10,s11,s12,s18,s19,hj']
   refine⟨a0w (by omega),fun i' hi'=>?_⟩
   rcases Nat.lt_or_eq_of_le (Nat.le_of_lt_succ hi')with h|h
   ·exact q i' h
   ·rw[h];exact q2
 ·rintro sl ro gn ⟨s1,s2,r4096,s10,s11,s12,q⟩
  dsimp only at s1 s2 r4096 s10 s11 s12
  have hi': ¬((T.length:Nat):Int)<(T.length:Nat):=by omega
  have hx0:0<xs.length:=by omega
  by_cases h1:atI xs 0=1
  ·have ht':t=true:=ht.2 ⟨q,h1⟩
   subst ht'
   simp(disch:=first|assumption|omega) only[go_sem,s1,s11,s12,hi',a4K ha hx0,eq_true h1]
   exact Yaa
  ·have ht':t=false:=by
    cases t with
    |false=>rfl
    |true=>exact absurd (ht.1 rfl).2 h1
   subst ht'
   simp(disch:=first|assumption|omega) only[go_sem,s1,s11,s12,hi',a4K ha hx0,eq_false h1]
   exact Yaa
theorem c3B{a:AV}{n:Nat}{A:Nat→Nat→Int}(ha:a2t a (a1r A n n))(hn:n≤65536)(hA:a1G A):a0d Tryz.prog 86 [a] (a2o A n n):=by
 have hl:(a1r A n n).length=n:=a0x _ _ _
 refine a0e (fn:=Tryz.f86) (code:=a0b Tryz.f86) Tryz.func86 rfl (by kernel_rfl) (a1h _ _ _) ?_
 intro sl hs
 have s0:sl 0=a:=hs 0
 dsimp only[Tryz.f86,a0b,Option.getD]
 simp(disch:=first|assumption|omega) only[go_sem,s0,a0R ha,hl]
 refine a0f (fun i st=>st.sl 10=a∧st.sl 11=i64 (n:Nat)∧st.sl 12=i64 (i:Int)∧st.sl 3= .ref 8192 (st.gn 8192) [] 0 i∧st.ro 8192 (st.gn 8192)=some (.row (rws (fun i=> .row (rws (fun j=>i64 (A i j)) n)) i))) n ?_ ?_ ?_
 ·refine Yaf ?_
  rfl
 ·rintro i sl ro gn hi ⟨s10,s11,s12,s3,r8192⟩
  dsimp only at s10 s11 s12 s3 r8192
  have hi':(i:Int)<(n:Nat):=by omega
  have hi2:i+1≤4294967296:=by omega
  have hr:=a0m ha (k:=i) (by rw[hl];exact hi)
  have lr:(row (a1r A n n) i).length=n:=a1t hi
  have er: ∀j,j<n→atI (row (a1r A n n) i) j=A i j:=fun j hj=>a6B hi hj
  simp(disch:=first|assumption|omega) only[go_sem,s10,s11,s12,hi',a0B hr,lr]
  refine a0f (fun j st=>st.sl 10=a∧st.sl 11=i64 (n:Nat)∧st.sl 12=i64 (i:Int)∧st.sl 3= .ref 8192 (st.gn 8192) [] 0 i∧st.ro 8192 (st.gn 8192)=some (.row (rws (fun i=> .row (rws (fun j=>i64 (A i j)) n)) i))∧st.sl 17=atA a i∧st.sl 18=i64 (n:Nat)∧st.sl 19=i64 (j:Int)∧st.sl 6= .ref 24576 (st.gn 24576) [] 0 j∧st.ro 24576 (st.gn 24576)=some (.row (rws (fun j=>i64 (A i j)) j))) n ?_ ?_ ?_
  ·simp only[↓za, ↓reduceIte,Nat.reduceEqDiff,zb,a1v,s10,s11,s12,s3,r8192]
   rfl
  ·rintro j sl ro gn hj ⟨s10,s11,s12,s3,r8192,s17,s18,s19,s6,r24576⟩
   dsimp only at s10 s11 s12 s3 r8192 s17 s18 s19 s6 r24576
   have hj':(j:Int)<(n:Nat):=by omega
   have hj2:j+1≤4294967296:=by omega
   have nv:=hA i j
   have nv':=nv
   unfold num at nv'
   have cm:=b0s (x:=A i j) (by omega) (by omega)
   rw[Int.emod_eq_of_lt nv'.1 nv'.2]at cm
   simp(disch:=first|assumption|omega) only[go_sem,s17,s18,s19,s6,hj',a0s hr (show j<(row (a1r A n n) i).length by omega),er j hj]
   refine a0c _ cm PUt rfl rfl ?_
   simp(disch:=first|assumption|omega) only[go_sem,s10,s11,s12,s3,r8192,s17,s18,s19,r24576,hj2]
   exact a0w (by omega)
  ·rintro sl ro gn ⟨s10,s11,s12,s3,r8192,s17,s18,s19,s6,r24576⟩
   dsimp only at s10 s11 s12 s3 r8192 s17 s18 s19 s6 r24576
   have hj': ¬((n:Nat):Int)<(n:Nat):=by omega
   simp(disch:=first|assumption|omega) only[go_sem,s10,s11,s12,s3,r8192,s18,s19,s6,r24576,hj',hi2]
   exact a0w (by omega)
 ·rintro sl ro gn ⟨s10,s11,s12,s3,r8192⟩
  dsimp only at s10 s11 s12 s3 r8192
  have hi': ¬((n:Nat):Int)<(n:Nat):=by omega
  simp(disch:=first|assumption|omega) only[go_sem,s11,s12,s3,hi']
  exact Yak
theorem a2y{n s g:Nat}{ro:Ro}{cs cs':List AV}(h:ro s g=some (.bx cs))(hc:a8x n ro cs cs'):exq (n+1) ro (.ptr s g [] 0) (.iptr cs'):=by
 refine⟨fun j hj=>?_,fun hp=>by simp[a0W]at hp⟩
 obtain⟨j,rfl⟩: ∃i,j=i+1:=⟨j-1,by omega⟩
 show (match ro.cells s g []with|some cs=>AV.iptr ((cs.drop 0).map (ex ro j))|none=> .dead)=_
 rw[zef,h]
 simp only[zei,List.drop_zero]
 rw[hc.mapE j (by omega)]
def SzP(T:List (List (List Int))):Prop:=T.length≤a0G∧ ∀i,i<T.length→(mat T i).length≤a0G∧ ∀j,j<(mat T i).length→(row (mat T i) j).length≤a0G
theorem a1e.sz{T:List (List (List Int))}(h:a1e T):SzP T:=by
 obtain⟨h1,h2,h3⟩:=h
 refine⟨by unfold a0G;omega,fun i hi=>⟨by rw[(h3 i hi).1];unfold a0G;omega,fun j hj=>?_⟩⟩
 rw[((h3 i hi).2 j (by rw[←(h3 i hi).1];exact hj)).1];unfold a0G;omega
theorem c5k{xs ys:List (List (List Int))}(hl:xs.length=ys.length)(h: ∀i,i<xs.length→mat xs i=mat ys i):xs=ys:=by
 apply List.ext_getElem?
 intro i
 by_cases hi:i<xs.length
 ·have:=h i hi
  unfold mat at this
  rw[List.getD_eq_getElem?_getD,List.getD_eq_getElem?_getD,List.getElem?_eq_getElem hi,List.getElem?_eq_getElem (show i<ys.length by omega)]at this
  rw[List.getElem?_eq_getElem hi,List.getElem?_eq_getElem (show i<ys.length by omega)]
  exact congrArg some this
 ·rw[List.getElem?_eq_none (by omega),List.getElem?_eq_none (by omega)]
theorem a8M{T:List (List (List Int))}(hc:a1e T):T=a0L (at3 T) T.length:=by
 obtain⟨h1,h2,h3⟩:=hc
 have lr: ∀ {i j},i<T.length→j<T.length→(row (mat T i) j).length=T.length:=fun hi hj=>((h3 _ hi).2 _ hj).1
 have hl:(a0L (at3 T) T.length).length=T.length:=zfe _ _
 refine c5k hl.symm fun i hi=>?_
 rw[a1o hi]
 refine a7w (by rw[zfe];exact(h3 i hi).1) fun j hj=>?_
 rw[(h3 i hi).1]at hj
 have er:row (rws (fun j=>rws (fun k=>at3 T i j k) T.length) T.length) j=rws (fun k=>at3 T i j k) T.length:=a1A _ hj
 show row (mat T i) j=row _ j
 rw[er]
 have hs:=a4l (row (mat T i) j)
 rw[lr hi hj]at hs
 exact hs.symm
theorem c1U{c a:AV}{T:List (List (List Int))}{xs:List Int}(hc:a0F c T)(hT:a1e T)(ha:isL a xs)(hl:xs.length=T.length)(nx:a2s xs){t:Bool}(ht:t=true↔chP T xs):
  a0d Tryz.prog 91 [a,.iptr [c]] (bo (!t)):=by
 have ci:=b2x hc hT ha hl nx ht
 refine a0e (fn:=Tryz.f91) (code:=a0b Tryz.f91) Tryz.func91 rfl (by kernel_rfl) (rfl) ?_
 intro sl hs
 have s0:sl 0=a:=hs 0
 have s1:sl 1= .iptr [c]:=hs 1
 dsimp only[Tryz.f91,a0b,Option.getD]
 refine Yat ?_
 refine a0c _ ci PUt rfl rfl ?_
 cases t with
 |true=>
  refine Ybn ?_
  exact Yaa
 |false=>
  refine Ybn ?_
  exact Yaa
def kpt(dl:Nat→Bool)(j:Nat):List Nat:=(List.range j).filter fun r=>!dl r
theorem a4O(dl:Nat→Bool)(j:Nat):kpt dl (j+1)=if dl j=true then kpt dl j else kpt dl j++ [j]:=by
 unfold kpt
 rw[List.range_succ,List.filter_append]
 cases h:dl j<;>simp[h]
theorem b3K(dl:Nat→Bool)(j:Nat):(kpt dl j).length≤j:=by
 have:=List.length_filter_le (fun r=>!dl r) (List.range j)
 simpa [kpt]using this
theorem b3Y{dl:Nat→Bool}{j:Nat}(h: ∀r,r<j→dl r=false):kpt dl j=List.range j:=by
 unfold kpt
 exact List.filter_eq_self.2 fun r hr=>by rw[h r (List.mem_range.1 hr)];rfl
theorem c2O{dl:Nat→Bool}{j r:Nat}(h:r∈kpt dl j):r<j:=List.mem_range.1 (List.mem_filter.1 h).1
theorem b1v{dl:Nat→Bool}: ∀ {m:Nat},(∃k,k<m∧dl k=true)→ ∃k,k<m∧dl k=true∧ ∀j,j<k→dl j=false
 |0,⟨k,h,_⟩=>by omega
 |m+1,⟨k,h,h1⟩=>by
  by_cases e: ∃k,k<m∧dl k=true
  ·obtain⟨k',a,b,c⟩:=b1v e
   exact⟨k',by omega,b,c⟩
  ·have hk:k=m:=by
    refine Decidable.byContradiction fun hne=>e ⟨k,by omega,h1⟩
   subst hk
   exact⟨k,h,h1,fun j hj=>by
    cases hd:dl j with
    |false=>rfl
    |true=>exact absurd ⟨j,hj,hd⟩ e⟩
structure b8h(ro:Ro)(gn:Nat→Nat)(S g γ m w:Nat)(M:Nat→Nat→Int)(dl:Nat→Bool)(C:Nat→Nat)(j:Nat):Prop where
 arr:ro S g=some (.bx (rws (fun i=> .ref 5 (γ+C i) [] 0 w) m))
 rw: ∀r,r<m→ro 5 (γ+r)=some (.row (rws (fun z=>i64 (M r z)) w))
 gn5: ∀r,r<m→γ+r≤gn 5
 cl: ∀i,i<(kpt dl j).length→(kpt dl j)[i]?=some (C i)
 ch: ∀i,j≤i→C i=i
 ct: ∀i,i<m→C i<m
theorem b8h.del{ro:Ro}{gn:Nat→Nat}{S g γ m w:Nat}{M:Nat→Nat→Int}{dl:Nat→Bool}{C:Nat→Nat}{j:Nat}(p:b8h ro gn S g γ m w M dl C j)(h:kpt dl (j+1)=kpt dl j):b8h ro gn S g γ m w M dl C (j+1):=
 ⟨p.arr,p.rw,p.gn5,fun i hi=>by rw[h]at hi ⊢;exact p.cl i hi,fun i hi=>p.ch i (by omega),p.ct⟩
theorem b8h.kp{ro:Ro}{gn:Nat→Nat}{S g γ m w:Nat}{M:Nat→Nat→Int}{dl:Nat→Bool}{C:Nat→Nat}{j:Nat}(hS:S≠5)(p:b8h ro gn S g γ m w M dl C j)(hj:j<m)(hl:(kpt dl j).length≤j)(h:kpt dl (j+1)=kpt dl j++ [j]):
  b8h (upr ro S g (.bx ((rws (fun i=>AV.ref 5 (γ+C i) [] 0 w) m).set (kpt dl j).length (.ref 5 (γ+j) [] 0 w)))) gn S g γ m w M dl (fun i=>if i=(kpt dl j).length then j else C i) (j+1):=by
 refine⟨?_,fun r hr=>?_,p.gn5,fun i hi=>?_,fun i hi=>?_,fun i hi=>?_⟩
 ·rw[a3J,a0X]
  congr 2
  refine a0g fun i _=>?_
  split<;>rfl
 ·rw[a1Y (fun e=>hS e.symm)];exact p.rw r hr
 ·rw[h]at hi ⊢
  rw[List.length_append,List.length_singleton]at hi
  by_cases e:i=(kpt dl j).length
  ·rw[if_pos e,e,List.getElem?_append_right (Nat.le_refl _),Nat.sub_self];rfl
  ·rw[if_neg e,List.getElem?_append_left (by omega)];exact p.cl i (by omega)
 ·rw[if_neg (by omega)];exact p.ch i (by omega)
 ·split
  ·exact hj
  ·exact p.ct i hi
theorem b4h(dl:Nat→Bool)(j:Nat):(kpt dl j).Nodup:=List.Nodup.sublist List.filter_sublist List.nodup_range
theorem b0W(dl:Nat→Bool)(j:Nat): ∀m,(kpt dl (j+m)).length≤(kpt dl j).length+m
 |0=>Nat.le_refl _
 |m+1=>by
  have:=b0W dl j m
  rw[←Nat.add_assoc,a4O]
  split
  ·omega
  ·rw[List.length_append,List.length_singleton];omega
theorem b5B{dl:Nat→Bool}{m k:Nat}(hk:k<m)(h:dl k=true):(kpt dl m).length<m:=by
 have h1:=b0W dl (k+1) (m-(k+1))
 rw[show k+1+(m-(k+1))=m from by omega,a4O,if_pos h]at h1
 have:=b3K dl k
 omega
theorem b8h.out{ro:Ro}{gn:Nat→Nat}{S g γ m w:Nat}{M:Nat→Nat→Int}{dl:Nat→Bool}{C:Nat→Nat}{cs:List AV}(hS:S≠5)(p:b8h ro gn S g γ m w M dl C m)(hc: ∀i,i<(kpt dl m).length→cs[i]?=some (.ref 5 (γ+C i) [] 0 w))(hl:cs.length=m)(hk:(kpt dl m).length<m):
  ∃dls,zhk (upr ro S g (.bx cs)) (.ref S g [] 0 (kpt dl m).length)=some (.row ((kpt dl m).map fun i=> .row (rws (fun z=>i64 (M i z)) w)),dls):=by
 have e:cs.take (kpt dl m).length=(kpt dl m).map fun i=>AV.ref 5 (γ+i) [] 0 w:=by
  apply List.ext_getElem?
  intro i
  rw[List.getElem?_take,List.getElem?_map]
  split
  ·rename_i hi
   rw[hc i hi,p.cl i hi];rfl
  ·rename_i hi
   rw[List.getElem?_eq_none (by omega)];rfl
 have key:=a7U (w:=w) (σ:=fun i=>(5,γ+i)) (R:=fun i=>rws (fun j=>i64 (M i j)) w) (kpt dl m) (ro:=upr (upr ro S g (.bx cs)) S g .dead) (b4h dl m) (fun i j _ _ e=>by simp only[Prod.mk.injEq,true_and]at e;omega) (fun i hi=>by
  refine⟨?_,zfe _ _⟩
  rw[a1Y (fun e=>hS e.symm),a1Y (fun e=>hS e.symm)]
  exact p.rw i (c2O hi))
 refine⟨(S,g)::(kpt dl m).map fun i=>(5,γ+i),?_⟩
 simp only[zhk,a3J,hl]
 rw[if_neg (by omega),if_pos (Nat.le_of_lt hk),e,key]
theorem c4J{ro:Ro}{gn:Nat→Nat}{S g m w:Nat}{c:AV}{T:List (List (List Int))}{M:Nat→Nat→Int}{dl:Nat→Bool}(hS:S≠5)(hS4:S≠4096)(hm0:ro S g=some (a2o M m w))(hbx:ro 4096 1=some (.bx [c]))(hc:a0F c T)(hm:m≤4000000000)
  (hd: ∀a k,k<m→isL a (rws (fun j=>M k j) w)→a0d Tryz.prog 91 [a,.iptr [c]] (bo (dl k))):
  InS Tryz.prog 90 [.ref S g [] 0 m,.fn 91 [.ptr 4096 1 [] 0]] ro gn
   (fun r ro' gn'=> ∃dls,r= .ref S g [] 0 (kpt dl m).length∧zhk ro' (.ref S g [] 0 (kpt dl m).length)=some (.row ((kpt dl m).map fun i=> .row (rws (fun z=>i64 (M i z)) w)),dls)):=by
 have hl:(a1r M m w).length=m:=a0x _ _ _
 have hI: ∀ {z:Int},((∀k,k<m→dl k=false)→z= -1)→(∀k,k<m→dl k=true→(∀j,j<k→dl j=false)→z=k)→a0d Tryz.prog 108 [a2x (a1r M m w),.fn 91 [.iptr [c]]] (i64 z):=fun {z} h1 h2=>
  c3U (a1g M m w) (by rw[hl];unfold a0G;omega) rfl PUt (p:=dl) (fun k hk=>by
   rw[hl]at hk
   have:=a0m (a1g M m w) (k:=k) (by rw[hl];exact hk)
   rw[a2V hk]at this
   exact hd _ k hk this) (fun h=>h1 fun k hk=>h k (by rw[hl];exact hk)) (fun k hk h3 h4=>h2 k (by rw[hl]at hk;exact hk) h3 h4)
 refine a1U (fn:=Tryz.f90) (code:=a0b Tryz.f90) Tryz.func90 rfl (by kernel_rfl) ?_
 intro sl hs
 have s0:sl 0= .ref S g [] 0 m:=hs 0
 have s1:sl 1= .fn 91 [.ptr 4096 1 [] 0]:=hs 1
 dsimp only[Tryz.f90,a0b,Option.getD]
 by_cases hex: ∃k,k<m∧dl k=true
 ·obtain⟨k0,hk0,hd0,hf0⟩:=b1v hex
  have ci:=hI (z:=(k0:Nat)) (fun h=>by rw[h k0 hk0]at hd0;cases hd0) (fun k hk h1 h2=>by
   rcases Nat.lt_trichotomy k k0 with h|h|h
   ·rw[hf0 k h]at h1;cases h1
   ·rw[h]
   ·rw[h2 k0 h]at hd0;cases hd0)
  have hne: ¬((k0:Nat):Int)= -1:=by omega
  simp only[go_sem,s0,s1]
  refine a0z _ ci (.cons (a3c hm0 (by decide)) (.cons (a4o (.cons (a2y hbx (.cons (a4A hc (by decide)) .nil)) .nil)) .nil)) rfl rfl rfl ?_
  simp(disch:=first|assumption|omega) only[go_sem,eq_false hne]
  refine a6y (fun k st=>st.sl 0= .ref S g [] 0 m∧st.sl 1= .fn 91 [.ptr 4096 1 [] 0]∧st.sl 5=i64 ((kpt dl (k0+1+k)).length:Nat)∧st.sl 6=i64 ((k0+1+k:Nat):Int)∧st.ro 4096 1=some (.bx [c])∧ ∃C,b8h st.ro st.gn S g (gn 5+1) m w M dl C (k0+1+k)) (m-k0-1) (Arr.unp (S:=S) (g:=g) (b:=5) (n:=m) (w:=w) (M:=M) hS (Ue hm0)).1 ?_ ?_ ?_
  ·have A:=(Arr.unp (st:=⟨sl,ro,gn⟩) (S:=S) (g:=g) (b:=5) (n:=m) (w:=w) (M:=M) hS hm0).2
   have k1:kpt dl (k0+1)=List.range k0:=by rw[a4O,if_pos hd0,b3Y hf0]
   have e4:(unp ⟨sl,ro,gn⟩ S g 5 m fun i=>rws (fun j=>i64 (M i j)) w).ro 4096 1=some (.bx [c]):=(a9a (fun e=>hS4 e.symm) (by decide)).trans hbx
   simp only[b1i, ↓za, ↓reduceIte,Nat.reduceEqDiff,zb,reduceCtorEq,s0,s1]
   refine⟨?_,?_,?_,fun i=>i,?_,?_,?_,?_,?_,?_⟩
   ·rw[Nat.add_zero,k1,List.length_range]
   ·exact a0w (by omega)
   ·exact e4
   ·exact A.arr
   ·exact A.rw
   ·exact A.gnn
   ·intro i hi
    rw[Nat.add_zero,k1]at hi ⊢
    rw[List.length_range]at hi
    rw[List.getElem?_range hi]
   ·exact fun i _=>rfl
   ·exact fun i h=>h
  ·rintro k sl ro gn hk ⟨s0,s1,s5,s6,h4,C,p⟩
   dsimp only at s0 s1 s5 s6 h4 p
   have hj:k0+1+k<m:=by omega
   have hj':((k0+1+k:Nat):Int)<(m:Nat):=by omega
   have hC:=p.ch (k0+1+k) (Nat.le_refl _)
   have pa:=p.arr
   have pr:=p.rw (k0+1+k) hj
   have hkl:=b3K dl (k0+1+k)
   have cd:=hd _ (k0+1+k) hj (a0n (rws (fun j=>M (k0+1+k) j) w))
   generalize hJ:k0+1+k=J at*
   simp only[go_sem,s0,s1,s6,pa,a0l,hj,hj',hC]
   refine a0z _ cd (.cons (a0q (by rw[pr,a0H,a0y]) (zfe _ _).symm (by decide)) (.cons (a2y h4 (.cons (a4A hc (by decide)) .nil)) .nil)) rfl rfl rfl ?_
   cases hdj:dl J with
   |true=>
    have ek:kpt dl (J+1)=kpt dl J:=by rw[a4O,if_pos hdj]
    simp(disch:=first|assumption|omega) only[go_sem,s0,s1,s5,s6]
    have eJ:k0+1+(k+1)=J+1:=by omega
    rw[eJ,ek]
    exact⟨rfl,a0w (by omega),h4,C,p.del ek⟩
   |false=>
    have ek:kpt dl (J+1)=kpt dl J++ [J]:=by rw[a4O,hdj];rfl
    have hlm:(kpt dl J).length<m:=by omega
    have hlm':((kpt dl J).length:Int)<(m:Nat):=by omega
    have hlm2:(kpt dl J).length+1≤m:=hlm
    simp(disch:=first|assumption|omega) only[go_sem,s0,s1,s5,s6,pa,pr,zfe,hlm,hlm2]
    have eJ:k0+1+(k+1)=J+1:=by omega
    rw[eJ,ek,List.length_append,List.length_singleton]
    have q:=p.kp hS hj hkl ek
    exact⟨a0w (by omega),a0w (by omega),(if_neg fun e=>hS4 e.1.symm).trans h4,_,q⟩
  ·generalize gn 5=gn5
   rintro sl ro gn ⟨s0,s1,s5,s6,h4,C,p⟩
   dsimp only at s0 s1 s5 s6 h4 p
   have eJ:k0+1+(m-k0-1)=m:=by omega
   rw[eJ]at s5 s6 p
   have hj': ¬((m:Nat):Int)<(m:Nat):=by omega
   have pa:=p.arr
   have hks:=b5B hk0 hd0
   have hks1:(kpt dl m).length≤m:=by omega
   have hks2:(kpt dl m).length+(m-(kpt dl m).length)≤m:=by omega
   have hks3:0<m-(kpt dl m).length:=by omega
   simp only[go_sem,s0,s5,s6,pa,zfe,hj',hks1,hks2,hks3,c0Q,List.getD_cons_zero,Option.map_some,Option.map_none,a4P,a3p]
   refine a0Y (.ref S g [] 0 (kpt dl m).length) Ur ?_
   obtain⟨dls,h⟩:=p.out hS (cs:=setL (kpt dl m).length (List.replicate (m-(kpt dl m).length) (AV.sc (Value.slice none 0 0))) (rws (fun i=>AV.ref 5 (gn5+1+C i) [] 0 w) m)) (fun i hi=>by
    rw[getElem?_setL,if_pos hi,a0l _ _ _ (by omega)]) (by rw[a1u,zfe]) hks
   exact⟨dls,rfl,h⟩
 ·have hf: ∀k,k<m→dl k=false:=fun k hk=>by
   cases h:dl k with
   |false=>rfl
   |true=>exact absurd ⟨k,hk,h⟩ hex
  have ci:=hI (z:= -1) (fun _=>rfl) (fun k hk h1 _=>by rw[hf k hk]at h1;cases h1)
  simp only[go_sem,s0,s1]
  refine a0z _ ci (.cons (a3c hm0 (by decide)) (.cons (a4o (.cons (a2y hbx (.cons (a4A hc (by decide)) .nil)) .nil)) .nil)) rfl rfl rfl ?_
  refine Ybn ?_
  rw[b3Y hf,List.length_range]
  refine a0Y (.ref S g [] 0 m) Ur ⟨[(S,g)],rfl,?_⟩
  simp only[zhk,hm0,zes]
  rw[zfe,if_pos rfl]
  rfl
end Go.Proofs.YtbakhfiibjkifaaGreat
/- Lists that grow number by number, in lexicographic order: which lists there are at the end, in which order. -/
namespace Go.Proofs.YtbakhfiibjkifaaGreat
def c0W(x y:List Int):Prop:= ∃k,(∀j,j<k→atI x j=atI y j)∧atI x k<atI y k
theorem a8X{x y:List Int}(h1:c0W x y)(h2:c0W y x):False:=by
 obtain⟨k,a1,a2⟩:=h1
 obtain⟨l,b1,b2⟩:=h2
 rcases Nat.lt_trichotomy k l with h|h|h
 ·have:=b1 k h;omega
 ·subst h;omega
 ·have:=a1 l h;omega
theorem b4T{α:Type}{R:α→α→Prop}(asym: ∀ {a b},R a b→R b a→False): ∀ {L1 L2:List α},L1.Pairwise R→L2.Pairwise R→(∀x,x∈L1↔x∈L2)→L1=L2
 | [],[],_,_,_=>rfl
 | [],b::L2,_,_,h=>by have:=(h b).2 (by simp);cases this
 |a::L1,[],_,_,h=>by have:=(h a).1 (by simp);cases this
 |a::L1,b::L2,h1,h2,h=>by
  obtain⟨a1,a2⟩:=List.pairwise_cons.1 h1
  obtain⟨b1,b2⟩:=List.pairwise_cons.1 h2
  have e:a=b:=by
   rcases List.mem_cons.1 ((h a).1 (by simp))with e|e
   ·exact e
   ·rcases List.mem_cons.1 ((h b).2 (by simp))with e'|e'
    ·exact e'.symm
    ·exact(asym (a1 b e') (b1 a e)).elim
  subst e
  congr 1
  refine b4T asym a2 b2 fun x=>⟨fun hx=>?_,fun hx=>?_⟩
  ·rcases List.mem_cons.1 ((h x).1 (by simp[hx]))with e|e
   ·subst e;exact(asym (a1 _ hx) (a1 _ hx)).elim
   ·exact e
  ·rcases List.mem_cons.1 ((h x).2 (by simp[hx]))with e|e
   ·subst e;exact(asym (b1 _ hx) (b1 _ hx)).elim
   ·exact e
theorem a1s{x t:List Int}{j:Nat}(h:j<x.length):atI (x++t) j=atI x j:=by
 unfold atI
 rw[List.getD_eq_getElem?_getD,List.getD_eq_getElem?_getD,List.getElem?_append_left h]
theorem a2B(x:List Int)(v:Int)(t:List Int):atI (x++v::t) x.length=v:=by
 unfold atI
 rw[List.getD_eq_getElem?_getD,List.getElem?_append_right (Nat.le_refl _),Nat.sub_self]
 rfl
section
variable (vals:Nat→List Int)(ok chr:List Int→Bool)
def grw:Nat→List Int→List (List Int)
 |0,x=>if chr x=true then [x]else []
 |m+1,x=>(vals x.length).flatMap fun v=>if ok (x++ [v])=true then grw m (x++ [v])else []
def lvl(x0:List Int):Nat→List (List Int)
 |0=>[x0]
 |m+1=>(lvl x0 m).flatMap fun x=>(vals (x0.length+m)).flatMap fun v=>if ok (x++ [v])=true then [x++ [v]]else []
variable{vals ok chr}
theorem b0c: ∀ {m:Nat} {x z:List Int},z∈grw vals ok chr m x→chr z=true∧z.length=x.length+m∧ ∀j,j<x.length→atI z j=atI x j
 |0,x,z,h=>by
  unfold grw at h
  split at h
  ·rename_i hc
   simp at h
   subst h
   exact⟨hc,rfl,fun _ _=>rfl⟩
  ·cases h
 |m+1,x,z,h=>by
  unfold grw at h
  obtain⟨v,hv,h⟩:=List.mem_flatMap.1 h
  split at h
  ·obtain⟨h1,h2,h3⟩:=b0c h
   refine⟨h1,by rw[h2];simp;omega,fun j hj=>?_⟩
   rw[h3 j (by simp;omega),a1s hj]
  ·cases h
theorem b4x{m:Nat}{x z:List Int}{v:Int}(h:z∈grw vals ok chr m (x++ [v])):(∀j,j<x.length→atI z j=atI x j)∧atI z x.length=v:=by
 obtain⟨_,_,h3⟩:=b0c h
 refine⟨fun j hj=>?_,?_⟩
 ·rw[h3 j (by simp;omega),a1s hj]
 ·rw[h3 x.length (by simp),a2B]
theorem b8D(hv: ∀k,(vals k).Pairwise (· <·)): ∀(m:Nat) (x:List Int),(grw vals ok chr m x).Pairwise c0W
 |0,x=>by
  unfold grw
  split
  ·exact List.pairwise_singleton _ _
  ·exact List.Pairwise.nil
 |m+1,x=>by
  unfold grw
  rw[List.pairwise_flatMap]
  refine⟨fun v _=>?_,(hv x.length).imp fun {a b} hab y hy z hz=>?_⟩
  ·split
   ·exact b8D hv m _
   ·exact List.Pairwise.nil
  ·split at hy
   ·split at hz
    ·obtain⟨a1,a2⟩:=b4x hy
     obtain⟨b1,b2⟩:=b4x hz
     exact⟨x.length,fun j hj=>by rw[a1 j hj,b1 j hj],by rw[a2,b2];exact hab⟩
    ·cases hz
   ·cases hy
theorem b8A: ∀(m:Nat) (x t:List Int),t.length=m→(∀j,x.length≤j→j<x.length+m→atI (x++t) j∈vals j∧ok ((x++t).take (j+1))=true)→chr (x++t)=true→x++t∈grw vals ok chr m x
 |0,x,t,ht,_,hc=>by
  have:t=[]:=List.length_eq_zero_iff.1 ht
  subst this
  rw[List.append_nil]at hc ⊢
  unfold grw
  rw[if_pos hc]
  simp
 |m+1,x,t,ht,h,hc=>by
  cases t with
  |nil=>simp at ht
  |cons v t=>
   have e:x++v::t=(x++ [v])++t:=by simp
   obtain⟨h1,h2⟩:=h x.length (Nat.le_refl _) (by omega)
   rw[a2B]at h1
   have e2:(x++v::t).take (x.length+1)=x++ [v]:=by rw[e];exact List.take_left' (by simp)
   rw[e2]at h2
   unfold grw
   refine List.mem_flatMap.2 ⟨v,h1,?_⟩
   rw[if_pos h2,e]
   refine b8A m (x++ [v]) t (by simpa using ht) (fun j a b=>?_) (by rw[←e];exact hc)
   rw[←e]
   exact h j (by simp at a;omega) (by simp at b;omega)
theorem a2P{x0:List Int}: ∀ {m:Nat} {x:List Int},x∈lvl vals ok x0 m→x.length=x0.length+m
 |0,x,h=>by simp[lvl]at h;subst h;rfl
 |m+1,x,h=>by
  unfold lvl at h
  obtain⟨y,hy,h⟩:=List.mem_flatMap.1 h
  obtain⟨v,hv,h⟩:=List.mem_flatMap.1 h
  have:=a2P hy
  split at h
  ·simp at h
   subst h
   simp
   omega
  ·cases h
theorem b2r{x0:List Int}(hv: ∀k,(vals k).Pairwise (· <·)): ∀(m:Nat),(lvl vals ok x0 m).Pairwise c0W
 |0=>List.pairwise_singleton _ _
 |m+1=>by
  unfold lvl
  rw[List.pairwise_flatMap]
  refine⟨fun x hx=>?_,(b2r hv m).imp_of_mem fun {a b} ha hb hab y hy z hz=>?_⟩
  ·rw[List.pairwise_flatMap]
   refine⟨fun v _=>?_,(hv _).imp fun {a b} hab y hy z hz=>?_⟩
   ·split
    ·exact List.pairwise_singleton _ _
    ·exact List.Pairwise.nil
   ·split at hy
    ·split at hz
     ·simp at hy hz
      subst hy;subst hz
      exact⟨x.length,fun j hj=>by rw[a1s hj,a1s hj],by rw[a2B,a2B];exact hab⟩
     ·cases hz
    ·cases hy
  ·obtain⟨v,hv1,hy⟩:=List.mem_flatMap.1 hy
   obtain⟨u,hu1,hz⟩:=List.mem_flatMap.1 hz
   have la:=a2P ha
   have lb:=a2P hb
   split at hy
   ·split at hz
    ·simp at hy hz
     subst hy;subst hz
     obtain⟨k,c1,c2⟩:=hab
     have hk:k<x0.length+m:=by
      refine Decidable.byContradiction fun hge=>?_
      have z1:atI a k=0:=by unfold atI;rw[List.getD_eq_getElem?_getD,List.getElem?_eq_none (by omega)];rfl
      have z2:atI b k=0:=by unfold atI;rw[List.getD_eq_getElem?_getD,List.getElem?_eq_none (by omega)];rfl
      omega
     exact⟨k,fun j hj=>by rw[a1s (by omega),a1s (by omega)];exact c1 j hj,by rw[a1s (by omega),a1s (by omega)];exact c2⟩
    ·cases hz
   ·cases hy
theorem b9n{x0:List Int}{z:List Int}(h0:z.take x0.length=x0): ∀(m:Nat),x0.length+m≤z.length→(∀j,x0.length≤j→j<x0.length+m→atI z j∈vals j∧ok (z.take (j+1))=true)→z.take (x0.length+m)∈lvl vals ok x0 m
 |0,_,_=>by simp[lvl,h0]
 |m+1,hl,h=>by
  have ih:=b9n h0 m (by omega) fun j a b=>h j a (by omega)
  obtain⟨h1,h2⟩:=h (x0.length+m) (by omega) (by omega)
  have hlt:x0.length+m<z.length:=by omega
  have e:z.take (x0.length+m+1)=z.take (x0.length+m)++ [atI z (x0.length+m)]:=by
   rw[List.take_add_one,List.getElem?_eq_getElem hlt]
   unfold atI
   rw[List.getD_eq_getElem?_getD,List.getElem?_eq_getElem hlt]
   rfl
  unfold lvl
  refine List.mem_flatMap.2 ⟨_,ih,List.mem_flatMap.2 ⟨_,h1,?_⟩⟩
  rw[←e,if_pos h2]
  simp
  rfl
end
end Go.Proofs.YtbakhfiibjkifaaGreat
/- Vectors with different values in common are few: no more than they have places. -/
namespace Go.Proofs.YtbakhfiibjkifaaGreat
theorem a9D{G:Nat→Nat→Int}{n w f d k:Nat}{x:Nat→Int}(hG:a1G G)(hf:f<n)(hd:d<n)(h0:G f k≠0)(h:a6W (elm (swp G f d) d k) n w x):a6W G n w x:=by
 have hp:swp G f d d k≠0:=by unfold swp;rw[if_pos rfl];exact h0
 have hn:MM (sm (fun j=>nrm (swp G f d) d k j*x j) w) 0:=by
  have e1:sm (fun j=>elm (swp G f d) d k d j*x j) w=sm (fun j=>nrm (swp G f d) d k j*x j) w:=a0k fun j _=>by
   unfold elm
   rw[if_pos rfl]
  rw[←e1]
  exact h d hd
 have hs: ∀i,i<n→MM (sm (fun j=>swp G f d i j*x j) w) 0:=fun i hi=>by
  by_cases e:i=d
  ·subst e
   have e1:MM (sm (fun j=>nrm (swp G f i) i k j*x j) w) (sm (fun j=>pw (swp G f i i k) 55439*(swp G f i i j*x j)) w):=a1P fun j _=>by
    unfold nrm
    refine(MM.mul (MM.mod _) MM.rfl).trans (MM.of_eq ?_)
    rw[Int.mul_comm (swp G f i i j),Int.mul_assoc]
   rw[a0T]at e1
   have h1:=e1.symm.trans hn
   have h2:=MM.mul (MM.rfl (a:=swp G f i i k)) h1
   have h3:=MM.mul (a4y (a2M hG f i i k) hp) (MM.rfl (a:=sm (fun j=>swp G f i i j*x j) w))
   rw[Int.mul_zero]at h2
   rw[Int.one_mul]at h3
   refine h3.symm.trans ((MM.of_eq ?_).trans h2)
   rw[←Int.mul_assoc,Int.mul_comm (swp G f i i k)]
  ·have e1:MM (sm (fun j=>elm (swp G f d) d k i j*x j) w) (sm (fun j=>swp G f d i j*x j-swp G f d i k*(nrm (swp G f d) d k j*x j)) w):=a1P fun j _=>by
    unfold elm
    rw[if_neg e]
    refine(MM.mul (MM.mod _) MM.rfl).trans (MM.of_eq ?_)
    rw[Int.sub_mul,Int.mul_assoc (swp G f d i k)]
   rw[a6e,a0T]at e1
   have h1:=e1.symm.trans (h i hi)
   have h2:=MM.add h1 (MM.mul (MM.rfl (a:=swp G f d i k)) hn)
   refine(MM.of_eq ?_).trans (h2.trans (MM.of_eq (by rw[Int.mul_zero];rfl)))
   omega
 intro i hi
 by_cases e:i=f
 ·subst e
  have:=hs d hd
  unfold swp at this
  rw[if_pos rfl]at this
  exact this
 ·by_cases e2:i=d
  ·subst e2
   have:=hs f hf
   unfold swp at this
   rw[if_neg (fun e'=>e e'.symm),if_pos rfl]at this
   exact this
  ·have:=hs i hi
   unfold swp at this
   rw[if_neg e2,if_neg e]at this
   exact this
theorem a4j{M:Nat→Nat→Int}{n w:Nat}{x:Nat→Int}(hM:a1G M): ∀k,a6W (gj n M k).1 n w x→a6W M n w x
 |0,h=>h
 |k+1,h=>by
  obtain⟨h1,h2,h3⟩:=a3o (n:=n) hM k
  obtain⟨f1,f2,f3,f4⟩:=a2z (gj n M k).1 (k:=k) h2
  simp only[gj,gst]at h
  split at h
  ·exact a4j hM k h
  ·exact a4j hM k (a9D h1 (by omega) (by omega) (f4 (by omega)) h)
theorem b4X{R:Nat→Nat→Int}{n w r:Nat}(h:Piv n w r R)(hr:r<w)(hn:r≤n): ∃x:Nat→Int,(∃j,j<w∧ ¬MM (x j) 0)∧a6W R n w x:=by
 obtain⟨p,hp⟩: ∃p:Nat→Nat, ∀i,i<r→p i<w∧ ∀a,a<n→R a (p i)=if a=i then 1 else 0:=⟨fun i=>if hi:i<r then(h.pc i hi).choose else 0,fun i hi=>by
  simp only[dif_pos hi]
  exact(h.pc i hi).choose_spec⟩
 obtain⟨k,hk,hkp⟩:=b1D (p:=p) hr
 refine⟨fun j=>(if j=k then 1 else 0)-sm (fun i=>if j=p i then R i k else 0) r,⟨k,hk,?_⟩,fun a ha=>?_⟩
 ·have e:sm (fun i=>if k=p i then R i k else 0) r=0:=a1M fun i hi=>if_neg fun e=>hkp i hi e.symm
  simp only[e]
  rw[if_pos trivial]
  intro hc
  unfold MM at hc
  omega
 ·have e1:sm (fun j=>R a j*((if j=k then 1 else 0)-sm (fun i=>if j=p i then R i k else 0) r)) w=sm (fun j=>(if j=k then R a k else 0)-sm (fun i=>if j=p i then R a (p i)*R i k else 0) r) w:=a0k fun j _=>by
   rw[Int.mul_sub, ←a0T]
   congr 1
   ·split
    ·rename_i e;rw[e,Int.mul_one]
    ·exact Int.mul_zero _
   ·refine a0k fun i _=>?_
    split
    ·rename_i e;rw[e]
    ·exact Int.mul_zero _
  have e2:sm (fun j=>sm (fun i=>if j=p i then R a (p i)*R i k else 0) r) w=sm (fun i=>R a (p i)*R i k) r:=by
   rw[a3b]
   exact a0k fun i hi=>a5p (hp i hi).1 _
  rw[e1,a6e,a5p hk,e2]
  by_cases har:a<r
  ·have e3:sm (fun i=>R a (p i)*R i k) r=R a k:=a4t har fun i hi=>by
    rw[(hp i hi).2 a ha]
    by_cases e:a=i
    ·rw[if_pos e,if_pos e.symm,Int.one_mul,e]
    ·rw[if_neg e,if_neg (fun h=>e h.symm),Int.zero_mul]
   rw[e3,Int.sub_self]
   exact MM.rfl
  ·have e3:sm (fun i=>R a (p i)*R i k) r=0:=a1M fun i hi=>by
    rw[(hp i hi).2 a ha,if_neg (by omega),Int.zero_mul]
   rw[e3,h.zr a (by omega) ha k hk]
   exact MM.rfl
theorem b3F{M:Nat→Nat→Int}{n w:Nat}(hM:a1G M)(h:(gj n M w).2.1<w): ∃x:Nat→Int,(∃j,j<w∧ ¬MM (x j) 0)∧a6W M n w x:=by
 obtain⟨x,h1,h2⟩:=b4X (a6E (n:=n) hM w) h (a3o (n:=n) hM w).2.1
 exact⟨x,h1,a4j hM w h2⟩
theorem b5V{A:Nat→Nat→Nat→Int}{n K:Nat}{x y:Nat→Nat→Int}: ∀ {m:Nat},(∀i,i<m→ ∀t,t<K→ ∀l,l<n→MM (sm (fun j=>A t l j*y i j) n) (x i t*y i l))→
  (∀i,i<m→ ∃l,l<n∧ ¬MM (y i l) 0)→(∀i i',i<i'→i'<m→ ∃t,t<K∧(x i t-x i' t) % 55441≠0)→
  ∀c:Nat→Int,(∀l,l<n→MM (sm (fun i=>c i*y i l) m) 0)→ ∀i,i<m→MM (c i) 0
 |0,_,_,_,_,_,i,hi=>absurd hi (Nat.not_lt_zero _)
 |m+1,hA,h0,hd,c,hc,i,hi=>by
  have key: ∀t,t<K→ ∀l,l<n→MM (sm (fun i=>(c i*(x i t-x m t))*y i l) m) 0:=fun t ht l hl=>by
   have s1:MM (sm (fun i=>c i*(x i t*y i l)) (m+1)) 0:=by
    have e1:MM (sm (fun i=>c i*(x i t*y i l)) (m+1)) (sm (fun i=>sm (fun j=>A t l j*(c i*y i j)) n) (m+1)):=a1P fun i hi=>by
     refine(MM.mul MM.rfl (hA i hi t ht l hl).symm).trans (MM.of_eq ?_)
     rw[←a0T]
     refine a0k fun j _=>?_
     rw[←Int.mul_assoc,Int.mul_comm (c i),Int.mul_assoc]
    rw[a3b]at e1
    refine e1.trans ?_
    have e2:MM (sm (fun j=>sm (fun i=>A t l j*(c i*y i j)) (m+1)) n) (sm (fun _=>(0:Int)) n):=a1P fun j hj=>by
     rw[a0T]
     exact(MM.mul MM.rfl (hc j hj)).trans (MM.of_eq (Int.mul_zero _))
    exact e2.trans (MM.of_eq (a1M fun _ _=>Eq.refl _))
   have s2:MM (sm (fun i=>x m t*(c i*y i l)) (m+1)) 0:=by
    rw[a0T]
    exact(MM.mul MM.rfl (hc l hl)).trans (MM.of_eq (Int.mul_zero _))
   have s3:=MM.sub s1 s2
   rw[←a6e]at s3
   refine(MM.of_eq ?_).trans (s3.trans (MM.of_eq (Int.sub_self 0)))
   rw[a2e]
   have e0:c m*(x m t*y m l)-x m t*(c m*y m l)=0:=by
    rw[←Int.mul_assoc, ←Int.mul_assoc,Int.mul_comm (c m),Int.sub_self]
   rw[e0,Int.add_zero]
   refine a0k fun i _=>?_
   rw[Int.mul_sub,Int.sub_mul,Int.mul_assoc,Int.mul_comm (c i) (x m t),Int.mul_assoc]
  have ih: ∀i,i<m→MM (c i) 0:=fun i hi=>by
   obtain⟨t,ht,hx⟩:=hd i m hi (Nat.lt_succ_self _)
   have h1:=b5V (m:=m) (fun i hi=>hA i (by omega)) (fun i hi=>h0 i (by omega)) (fun i i' h1 h2=>hd i i' h1 (by omega)) (fun i=>c i*(x i t-x m t)) (key t ht) i hi
   rw[Int.mul_comm]at h1
   exact a3O hx h1
  rcases Nat.lt_or_eq_of_le (Nat.le_of_lt_succ hi)with e|e
  ·exact ih i e
  ·subst e
   obtain⟨l,hl,hy⟩:=h0 i (Nat.lt_succ_self _)
   have h1:=hc l hl
   rw[a2e]at h1
   have h2:MM (sm (fun i=>c i*y i l) i) 0:=by
    have:MM (sm (fun i=>c i*y i l) i) (sm (fun _=>(0:Int)) i):=a1P fun j hj=>(MM.mul (ih j hj) MM.rfl).trans (MM.of_eq (Int.zero_mul _))
    exact this.trans (MM.of_eq (a1M fun _ _=>Eq.refl _))
   have h3:=MM.sub h1 h2
   have h4:MM (y i l*c i) 0:=(MM.of_eq (by rw[Int.mul_comm];omega)).trans (h3.trans (MM.of_eq (Int.sub_self 0)))
   refine a3O (fun e=>hy ?_) h4
   exact e
theorem b6d{A:Nat→Nat→Nat→Int}{n K m:Nat}{x y:Nat→Nat→Int}(hA: ∀i,i<m→ ∀t,t<K→ ∀l,l<n→MM (sm (fun j=>A t l j*y i j) n) (x i t*y i l))
  (h0: ∀i,i<m→ ∃l,l<n∧ ¬MM (y i l) 0) (hd: ∀i i',i<i'→i'<m→ ∃t,t<K∧(x i t-x i' t) % 55441≠0):m≤n:=by
 refine Nat.le_of_not_lt fun hlt=>?_
 have hM:a1G fun l i=>y i l % 55441:=fun _ _=>a0E _
 obtain⟨c,⟨i,hi,hc⟩,h⟩:=b3F (n:=n) (w:=m) hM (by have:=(a3o (n:=n) hM m).2.1;omega)
 refine hc (b5V hA h0 hd c (fun l hl=>?_) i hi)
 refine MM.trans (a1P fun i _=>?_) (h l hl)
 rw[Int.mul_comm]
 exact MM.mul (MM.mod _).symm MM.rfl
theorem a6z{n:Nat}{L:Nat→Nat→Nat→Int}{x:Nat→Int}(hL: ∀k,a1G (L k)): ∀ {K:Nat},a6W (cmn n L K).1 (cmn n L K).2 n x→ ∀k,k<K→a6W (L k) n n x
 |0,_,k,hk=>absurd hk (Nat.not_lt_zero _)
 |K+1,h,k,hk=>by
  have hn:=a3E (a2v (n:=n) hL K) (hL K) (r:=(cmn n L K).2)
  have hp:=a6E (n:=(cmn n L K).2+n) hn n
  have h1:a6W (gj ((cmn n L K).2+n) (stk (cmn n L K).2 (cmn n L K).1 (L K)) n).1 ((cmn n L K).2+n) n x:=fun i hi=>by
   by_cases hir:i<(cmn n L (K+1)).2
   ·exact h i hir
   ·have e:sm (fun j=>(gj ((cmn n L K).2+n) (stk (cmn n L K).2 (cmn n L K).1 (L K)) n).1 i j*x j) n=0:=a1M fun j hj=>by
     rw[hp.zr i (Nat.le_of_not_lt hir) hi j hj,Int.zero_mul]
    exact MM.of_eq e
  have h2:=a4j hn n h1
  rcases Nat.lt_or_eq_of_le (Nat.le_of_lt_succ hk)with e|e
  ·refine a6z hL (K:=K) (fun i hi=>?_) k e
   have:=h2 i (by omega)
   unfold stk at this
   simp only[if_pos hi]at this
   exact this
  ·subst e
   intro i hi
   have:=h2 ((cmn n L k).2+i) (by omega)
   unfold stk at this
   simp only[if_neg (show ¬(cmn n L k).2+i<(cmn n L k).2 by omega),show (cmn n L k).2+i-(cmn n L k).2=i from by omega]at this
   exact this
theorem c0r{n:Nat}{L:Nat→Nat→Nat→Int}(hL: ∀k,a1G (L k)){K:Nat}(hK:0<K)(h:(cmn n L K).2<n): ∃x:Nat→Int,(∃j,j<n∧ ¬MM (x j) 0)∧ ∀k,k<K→a6W (L k) n n x:=by
 obtain⟨K,rfl⟩: ∃k,K=k+1:=⟨K-1,by omega⟩
 have hn:=a3E (a2v (n:=n) hL K) (hL K) (r:=(cmn n L K).2)
 obtain⟨x,h1,h2⟩:=b4X (a6E (n:=(cmn n L K).2+n) hn n) h (a3o (n:=(cmn n L K).2+n) hn n).2.1
 refine⟨x,h1,a6z hL fun i hi=>h2 i ?_⟩
 have:=(a3o (n:=(cmn n L K).2+n) hn n).2.1
 exact Nat.lt_of_lt_of_le hi this
theorem b9H{T:Nat→Nat→Int}{n:Nat}{v:Int}{x:Nat→Int}(h:a6W (lsM T v) n n x): ∀i,i<n→MM (sm (fun j=>T i j*x j) n) (v*x i):=fun i hi=>by
 have e1:MM (sm (fun j=>lsM T v i j*x j) n) (sm (fun j=>T i j*x j+(if j=i then-(v*x i)else 0)) n):=a1P fun j _=>by
  unfold lsM
  by_cases e:j=i
  ·subst e
   rw[if_pos rfl,if_pos rfl]
   refine(MM.mul (MM.mod _) MM.rfl).trans (MM.of_eq ?_)
   rw[Int.sub_mul]
   omega
  ·rw[if_neg e,if_neg e,Int.add_zero]
   exact MM.rfl
 rw[a2p,a5p hi]at e1
 have h1:=MM.add (e1.symm.trans (h i hi)) (MM.rfl (a:=v*x i))
 refine(MM.of_eq ?_).trans (h1.trans (MM.of_eq (Int.zero_add _)))
 omega
theorem a7G{vals:Nat→List Int}{ok:List Int→Bool}{x0:List Int}: ∀ {m:Nat} {x:List Int},x∈lvl vals ok x0 m→(∀j,j<x0.length→atI x j=atI x0 j)∧(∀j,x0.length≤j→j<x0.length+m→atI x j∈vals j)∧(0<m→ok x=true)
 |0,x,h=>by
  simp[lvl]at h
  subst h
  exact⟨fun _ _=>rfl,fun j h1 h2=>by omega,fun h=>absurd h (Nat.lt_irrefl _)⟩
 |m+1,x,h=>by
  unfold lvl at h
  obtain⟨y,hy,h⟩:=List.mem_flatMap.1 h
  obtain⟨v,hv,h⟩:=List.mem_flatMap.1 h
  have hl:=a2P hy
  obtain⟨h1,h2, -⟩:=a7G hy
  split at h
  ·rename_i hok
   simp at h
   subst h
   refine⟨fun j hj=>?_,fun j a b=>?_,fun _=>hok⟩
   ·rw[a1s (by omega)];exact h1 j hj
   ·by_cases e:j<x0.length+m
    ·rw[a1s (by omega)];exact h2 j a e
    ·have e2:j=y.length:=by omega
     subst e2
     rw[a2B,hl]
     exact hv
  ·cases h
theorem c3h{L:List (List Int)}(h:L.Pairwise c0W){i j:Nat}(hi:i<j)(hj:j<L.length):c0W (L.getD i []) (L.getD j []):=by
 rw[List.getD_eq_getElem?_getD,List.getD_eq_getElem?_getD,List.getElem?_eq_getElem (by omega),List.getElem?_eq_getElem hj]
 exact List.pairwise_iff_getElem.1 h i j (by omega) hj hi
theorem a2X{L:List (List Int)}{i:Nat}(hi:i<L.length):L.getD i []∈L:=by
 rw[List.getD_eq_getElem?_getD,List.getElem?_eq_getElem hi]
 exact List.getElem_mem hi
end Go.Proofs.YtbakhfiibjkifaaGreat
/- What a statement hands in, read by the machine. -/
namespace Go.Proofs.YtbakhfiibjkifaaGreat
open Go.RowKit Go.ChangeShapes Go.WideShapes Go.Deep Go.Joins
theorem b2t{P:Program}{f:Nat}{args:List AV}{b:Bool}(h:a0d P f args (bo b)){w:World}{vs:List Value}(hv:a0h (cx0 w (fun _=>False)) args vs [])(hg:Gd w):
  Calls P f vs.toArray w fun e w'=>e= .returned (.bool b)∧Below w.heap.size w w':=by
 refine(h.2.2 w (fun _=>False) vs hv (fun _ h=>h.elim) hg).mono ?_
 rintro e w' ⟨v,A',F',rfl,h1,_,_,h4⟩
 obtain⟨h2,_⟩:=Rel.sc_inv h1
 exact⟨by rw[h2],⟨h4.os,h4.tape,h4.output.1,h4.size,fun k hk=>h4.block k hk (by simp)⟩⟩
theorem b4P{w:World}{a:Addr}{v:Value}(h:w.cell? a=some v):a.spot=none∧a.block<w.heap.size:=by
 unfold World.cell? at h
 split at h
 ·rename_i c E fr hb
  split at h
  ·cases h
  ·rename_i hs
   refine⟨by cases hsp:a.spot<;>simp_all,?_⟩
   exact(Array.getElem?_eq_some_iff.1 hb).1
 ·cases h
theorem b5T{a:Addr}(h:a.spot=none)(i:Nat):a.add i=⟨a.block,a.off+i,none⟩:=by
 unfold Addr.add
 split
 ·rename_i hi;subst hi;cases a;simp_all
 ·rfl
section
variable{H:Type}{enc:TypeId×Value→H}{P:Program}{w:World}{held:Bool}
end
end Go.Proofs.YtbakhfiibjkifaaGreat
/- Three levels of lists as a statement hands them in: readings, sizes, copies, equality. -/
namespace Go.Proofs.YtbakhfiibjkifaaGreat
open Go.RowKit Go.ChangeShapes Go.WideShapes Go.Deep Go.Joins
set_option maxRecDepth 1000000
def b8F:List AV→List (List (List Int))→Prop
 | [],[]=>True
 |a::bs,x::xs=>c5g a x∧b8F bs xs
 |_,_=>False
def isLLLw(a:AV)(xss:List (List (List Int))):Prop:=(∃cs,a= .imm cs∧b8F cs xss)∨(xss=[]∧ ∃o c,a= .sc (.slice o 0 c))
section
variable{H:Type}{enc:TypeId×Value→H}{P:Program}{w:World}{held:Bool}
end
def szT(T:List (List (List Int)))(l:Int):Nat→Int
 |0=>l
 |i+1=>szA (mat T i) (szT T l i-(mat T i).length) (mat T i).length
abbrev rowLLL(T:List (List (List Int))):AV:= .row (T.map a0I)
abbrev b4c(T:List (List (List Int))):AV:= .imm (T.map a2x)
theorem a9p: ∀T:List (List (List Int)),a6k (T.map a2x) T
 | []=>trivial
 |x::T=>⟨a1d x,a9p T⟩
theorem b4b(T:List (List (List Int))):a0F (b4c T) T:= .inl ⟨_,rfl,a9p T⟩
end Go.Proofs.YtbakhfiibjkifaaGreat
