/- Texts joined: Cj1c Cs5c Cs6 Cy1 Cy2 Cx0 Cx7 Cy3 Cm1 Cy4 Cn1 Cy6 Cy7 Cy8. -/
import Derived.Shelf.Spec.SlicesGrow
import Derived.Test.YtbakhfiibjkifaaGreatMh
import Derived.Test.YtbakhfiibjkifaaGreatMg
import Derived.Test.YtbakhfiibjkifaaGreatOb
import Derived.Test.YtbakhfiibjkifaaGreatCe
import Derived.Test.YtbakhfiibjkifaaGreatCf
set_option linter.all false
/- The codes of rings. -/
namespace Go.Proofs.YtbakhfiibjkifaaGreat
open Go.RowKit
set_option maxRecDepth 1000000
theorem b2n{c:AV}{T:List (List (List Int))}(ha:a0F c T)(hz:SzP T){z:Int}(h:CodP T z):a0d Tryz.prog 44 [.agg [c]] (i64 z):=by
 refine a0e (fn:=Tryz.f44) (code:=a0b Tryz.f44) Tryz.func44 rfl (by kernel_rfl) (rfl) ?_
 intro sl hs
 have s0:sl 0= .agg [c]:=hs 0
 rcases h with⟨hr,hm,rfl⟩|⟨hr,hm,rfl⟩|⟨hr,rfl⟩
 ·have c1:=a2n ha hz (t:=true) ⟨fun _=>hr,fun _=>rfl⟩
  have c2:=a5B ha hr.1 (t:=true) ⟨fun _=>hm,fun _=>rfl⟩
  dsimp only[Tryz.f44,a0b,Option.getD]
  refine Yan ?_
  refine a0c _ c1 PUt rfl rfl ?_
  refine Yae ?_
  refine a0c _ c2 PUt rfl rfl ?_
  refine Ybm ?_
  exact Yaa
 ·have c1:=a2n ha hz (t:=true) ⟨fun _=>hr,fun _=>rfl⟩
  have c2:=a5B ha hr.1 (t:=false) ⟨fun h=>(nomatch h),fun h=>absurd h hm⟩
  dsimp only[Tryz.f44,a0b,Option.getD]
  refine Yan ?_
  refine a0c _ c1 PUt rfl rfl ?_
  refine Yae ?_
  refine a0c _ c2 PUt rfl rfl ?_
  refine Ybm ?_
  exact Yaa
 ·have c1:=a2n ha hz (t:=false) ⟨fun h=>(nomatch h),fun h=>absurd h hr⟩
  dsimp only[Tryz.f44,a0b,Option.getD]
  refine Yan ?_
  refine a0c _ c1 PUt rfl rfl ?_
  refine Ybm ?_
  exact Yaa
theorem b8n{a b:AV}{d:Nat→Nat}{x:List Int}{n:Nat}(ha:isL a (rws (fun i=>((d i:Nat):Int)) n))(hb:isL b x)(hn:n≤65536)(hd: ∀i,i<n→d i<x.length):a0d Tryz.prog 52 [a,b] (a0H (rws (fun i=>atI x (d i)) n)):=by
 have hl:(rws (fun i=>((d i:Nat):Int)) n).length=n:=zfe _ _
 refine a0e (fn:=Tryz.f52) (code:=a0b Tryz.f52) Tryz.func52 rfl (by kernel_rfl) (a1b _) ?_
 intro sl hs
 have s0:sl 0=a:=hs 0
 have s1:sl 1=b:=hs 1
 dsimp only[Tryz.f52,a0b,Option.getD]
 simp(disch:=first|assumption|omega) only[go_sem,s0,a0B ha,hl]
 refine a0f (fun i st=>st.sl 1=b∧st.sl 9=a∧st.sl 10=i64 (n:Nat)∧st.sl 11=i64 (i:Int)∧st.sl 5= .ref 8192 (st.gn 8192) [] 0 i∧st.ro 8192 (st.gn 8192)=some (.row (rws (fun i=>i64 (atI x (d i))) i))) n ?_ ?_ ?_
 ·refine Yac ?_
  repeat' first|rfl|apply And.intro
 ·rintro i sl ro gn hi ⟨s1,s9,s10,s11,s5,r8192⟩
  dsimp only at s1 s9 s10 s11 s5 r8192
  have hi':(i:Int)<(n:Nat):=by omega
  have hi2:i+1≤4294967296:=by omega
  have hai:i<(rws (fun i=>((d i:Nat):Int)) n).length:=by omega
  have hdi:=hd i hi
  have ea:atI (rws (fun i=>((d i:Nat):Int)) n) i=(d i:Nat):=a0P _ hi
  simp(maxSteps:=10000000) (disch:=first|assumption|omega) only[go_sem,s1,s9,s10,s11,s5,r8192,hi',a0s ha hai,ea,a0s hb hdi,hi2]
  exact a0w (by omega)
 ·rintro sl ro gn ⟨s1,s9,s10,s11,s5,r8192⟩
  dsimp only at s1 s9 s10 s11 s5 r8192
  have hi': ¬((n:Nat):Int)<(n:Nat):=by omega
  simp only[go_sem,s10,s11,s5,hi']
  simp only[zr,a1Z,a1H,a2g,zes,zhk, ↓za, ↓reduceIte,r8192,a0H,a0y]
theorem b3q{b:Nat}{gn:Nat→Nat}{X:List (List Int)}{v:Value}:a2k b gn (.tup [a0I X,.sc v])=⟨.tup [.ref b (gn b+1) [] 0 X.length,.sc v],none,[],[(b,a0I X)]⟩:=by
 show (⟨.tup [.ref b (gn b+1) [] 0 (X.map a0H).length,.sc v],none,[],[(b,.row (X.map a0H))]⟩:Eff)=_
 rw[List.length_map]
theorem a9m(X:List (List Int))(v:Value):a0C (.tup [a0I X,.sc v])=true:=by
 have h:=a2m X
 show (a0C (a0I X)&&(a0C (.sc v)&&true))=true
 rw[h];rfl
theorem c0U(X:List (List Int))(v:Value):noI (.tup [a0I X,.sc v])=true:=by
 have h:=a3V X
 show (noI (a0I X)&&(noI (.sc v)&&true))=true
 rw[h];rfl
section
variable{c:AV}{T:List (List (List Int))}
theorem c4c(hc:a0F c T)(hR:a2j T)(hm:CmP T):a0d Tryz.prog 8 [.agg [c]] (.tup [a0I (b2T T),i64 0]):=by
 have c1:=b2n hc hR.1.sz (z:=0) (.inl ⟨hR,hm,rfl⟩)
 have c2:a0d Tryz.prog 45 [.agg [c]] (a0I (b2T T)):=c1S hc hR.1
 refine a0e (fn:=Tryz.f8) (code:=a0b Tryz.f8) Tryz.func8 rfl (by kernel_rfl) (a9m _ _) ?_
 intro sl hs
 have s0:sl 0= .agg [c]:=hs 0
 dsimp only[Tryz.f8,a0b,Option.getD]
 simp(disch:=first|assumption|omega) only[go_sem,s0,a1l]
 refine a0c _ c1 PUt rfl rfl ?_
 simp(disch:=first|assumption|omega) only[go_sem]
 refine a0c _ c2 PUt rfl rfl ?_
 simp only[go_sem,a0I,a0i,List.length_map]
 exact Yaa
theorem c5n(hc:a0F c T)(hR:a2j T)(hm:CmP T)(hl:(b2T T).length=T.length):a0d Tryz.prog 37 [.agg [c]] (.tup [a0I (b2T T),i64 0]):=by
 have c1:=c4c hc hR hm
 have hl': ¬((b2T T).length:Int)<T.length:=by omega
 refine a0e (fn:=Tryz.f37) (code:=a0b Tryz.f37) Tryz.func37 rfl (by kernel_rfl) (a9m _ _) ?_
 intro sl hs
 have s0:sl 0= .agg [c]:=hs 0
 dsimp only[Tryz.f37,a0b,Option.getD]
 simp(disch:=first|assumption|omega) only[go_sem,s0,a1l]
 refine a0c _ c1 PUt rfl rfl ?_
 simp(disch:=first|assumption|omega) only[go_sem,b3q,a0v hc,hl',a0I]
 exact Yaa
end
def LC(T:List (List (List Int)))(x:List Int):Prop:=x.length=T.length∧NL x
open Classical in
noncomputable def icV(T:List (List (List Int)))(x:List Int):Bool×Int:=
 if a2j T then if CmP T then if LC T x then(chB T x,0)else(false,2)else(false,5)else(false,1)
section
variable{T:List (List (List Int))}{x:List Int}
theorem c4W(h: ¬a2j T):icV T x=(false,1):=if_neg h
theorem c4x(h:a2j T)(h2: ¬CmP T):icV T x=(false,5):=by unfold icV;rw[if_pos h,if_neg h2]
theorem c4O(h:a2j T)(h2:CmP T)(h3: ¬LC T x):icV T x=(false,2):=by unfold icV;rw[if_pos h,if_pos h2,if_neg h3]
theorem b9V(h:a2j T)(h2:CmP T)(h3:LC T x):icV T x=(chB T x,0):=by unfold icV;rw[if_pos h,if_pos h2,if_pos h3]
variable{c a l:AV}
theorem b2L(hc:a0F c T)(ha:isL a x)(hx:x.length≤a0G){t:Bool}(ht:t=true↔LC T x):a0d Tryz.prog 49 [.agg [c],a] (bo t):=by
 by_cases h:x.length=T.length
 ·have h':(x.length:Int)=T.length:=by omega
  have e:b2M x 0 55440=t:=by
   rw[Bool.eq_iff_iff,ht,b8Y]
   exact⟨fun k=>⟨h,k⟩,fun k=>k.2⟩
  have c1:=c115 ha hx
  rw[e]at c1
  refine a0e (fn:=Tryz.f49) (code:=a0b Tryz.f49) Tryz.func49 rfl (by kernel_rfl) (rfl) ?_
  intro sl hs
  have s0:sl 0= .agg [c]:=hs 0
  have s1:sl 1=a:=hs 1
  dsimp only[Tryz.f49,a0b,Option.getD]
  simp(disch:=first|assumption|omega) only[go_sem,s0,s1,a1l,a3i,a0v hc,a0B ha,eq_true h']
  refine a0c _ c1 PUt rfl rfl ?_
  refine Yah ?_
  exact Yaa
 ·have h': ¬(x.length:Int)=T.length:=by omega
  refine a0e (fn:=Tryz.f49) (code:=a0b Tryz.f49) Tryz.func49 rfl (by kernel_rfl) (rfl) ?_
  intro sl hs
  have s0:sl 0= .agg [c]:=hs 0
  have s1:sl 1=a:=hs 1
  dsimp only[Tryz.f49,a0b,Option.getD]
  simp(disch:=first|assumption|omega) only[go_sem,s0,s1,a1l,a3i,a0v hc,a0B ha,eq_false h']
  refine Yab ?_
  exact a0N ht fun k=>h k.1
theorem c4w(hc:a0F c T)(hz:SzP T)(ha:isL a x)(hx:x.length≤a0G):a0d Tryz.prog 16 [.agg [c],a] (.tup [bo (icV T x).1,i64 (icV T x).2]):=by
 by_cases hR:a2j T
 ·by_cases hC:CmP T
  ·have c1:=b2n hc hz (z:=0) (.inl ⟨hR,hC,rfl⟩)
   by_cases hL:LC T x
   ·have c2:=b2L hc ha hx (t:=true) ⟨fun _=>hL,fun _=>rfl⟩
    have c3:=b2x hc hR.1 ha hL.1 (a2O hL.2) (a3B T x)
    rw[b9V hR hC hL]
    refine a0e (fn:=Tryz.f16) (code:=a0b Tryz.f16) Tryz.func16 rfl (by kernel_rfl) (rfl) ?_
    intro sl hs
    have s0:sl 0= .agg [c]:=hs 0
    have s1:sl 1=a:=hs 1
    dsimp only[Tryz.f16,a0b,Option.getD]
    refine Yat ?_
    refine a0c _ c1 PUt rfl rfl ?_
    refine Yah ?_
    refine a0c _ c2 PUt rfl rfl ?_
    refine Yah ?_
    refine a0c _ c3 PUt rfl rfl ?_
    refine Yah ?_
    exact Yaa
   ·have c2:=b2L hc ha hx (t:=false) ⟨fun h=>Bool.noConfusion h,fun h=>absurd h hL⟩
    rw[c4O hR hC hL]
    refine a0e (fn:=Tryz.f16) (code:=a0b Tryz.f16) Tryz.func16 rfl (by kernel_rfl) (rfl) ?_
    intro sl hs
    have s0:sl 0= .agg [c]:=hs 0
    have s1:sl 1=a:=hs 1
    dsimp only[Tryz.f16,a0b,Option.getD]
    refine Yat ?_
    refine a0c _ c1 PUt rfl rfl ?_
    refine Yah ?_
    refine a0c _ c2 PUt rfl rfl ?_
    refine Yah ?_
    exact Yaa
  ·have c1:=b2n hc hz (z:=5) (.inr (.inl ⟨hR,hC,rfl⟩))
   rw[c4x hR hC]
   refine a0e (fn:=Tryz.f16) (code:=a0b Tryz.f16) Tryz.func16 rfl (by kernel_rfl) (rfl) ?_
   intro sl hs
   have s0:sl 0= .agg [c]:=hs 0
   have s1:sl 1=a:=hs 1
   dsimp only[Tryz.f16,a0b,Option.getD]
   refine Yat ?_
   refine a0c _ c1 PUt rfl rfl ?_
   refine Yah ?_
   exact Yaa
 ·have c1:=b2n hc hz (z:=1) (.inr (.inr ⟨hR,rfl⟩))
  rw[c4W hR]
  refine a0e (fn:=Tryz.f16) (code:=a0b Tryz.f16) Tryz.func16 rfl (by kernel_rfl) (rfl) ?_
  intro sl hs
  have s0:sl 0= .agg [c]:=hs 0
  have s1:sl 1=a:=hs 1
  dsimp only[Tryz.f16,a0b,Option.getD]
  refine Yat ?_
  refine a0c _ c1 PUt rfl rfl ?_
  refine Yah ?_
  exact Yaa
end
end Go.Proofs.YtbakhfiibjkifaaGreat
/- Characters: the reference's list of one list; its IsCharacter. -/
namespace Go.Proofs.YtbakhfiibjkifaaGreat
open Go.RowKit
set_option maxRecDepth 1000000
def cd2:Nat→Int
 |0=>0
 |_=>2
section
variable{T:List (List (List Int))}{x:List Int}{c a l:AV}
end
def b9E:Go.Shelf.Ren:=⟨fun|4=>125|n=>n,fun|22=>28|25=>37|3=>3|4=>4|9=>9|20=>20|0=>0|n=>n,fun n=>n⟩
def szC(k:Nat):Nat→Nat
 |0=>0
 |1=>1
 |_=>1+k
def prC(x:AV)(ys:List AV):Nat→List AV
 |0=>[]
 |1=>[x]
 |_=>x::ys
def szP:Nat→Nat
 |0=>0
 |_=>2
def prP(x y:AV):Nat→List AV
 |0=>[]
 |_=>[x,y]
section
variable{T:List (List (List Int))}{x y:List Int}{c:AV}
end
section
variable{T:List (List (List Int))}
theorem a8o(hR:a2j T){i j k:Nat}(hi:i<T.length)(hj:j<T.length)(hk:k<T.length):at3 T i j k=at3 T (dd T i) k j∧at3 T i j k=at3 T k (dd T j) i:=by
 have h:=a0u.1 (a0u.1 (a0u.1 (a6j hR.2).2.2.1 i hi) j hj) k hk
 unfold p3 at h
 split at h
 ·rename_i e;exact e
 ·cases h
theorem b9f(hR:a2j T){i:Nat}(hi:i<T.length):dd T (dd T i)=i:=by
 have h:=a0u.1 (a6j hR.2).2.1 i hi
 unfold p2 at h
 split at h
 ·cases h
 ·rename_i e
  have e2:dlT T (dd T i)=i:=Classical.not_not.1 fun h=>e (.inr h)
  unfold dd at e2 ⊢
  rw[e2]
  exact Int.toNat_natCast i
theorem b9G(hR:a2j T){i k:Nat}(hi:i<T.length)(hk:k<T.length):at3 T 0 i k=dlt i k:=by
 have h:=a0u.1 (a0u.1 (a6j hR.2).1 i hi) k hk
 unfold p1 at h
 split at h
 ·rename_i e;exact e.1
 ·cases h
theorem c2L(hC:CmP T){i j k:Nat}(hi:i<T.length)(hj:j<T.length):at3 T i j k=at3 T j i k:=by
 have h:row (mat T i) j=row (mat T j) i:=by
  rcases Nat.lt_trichotomy i j with h|h|h
  ·exact(hC j hj i h).symm
  ·rw[h]
  ·exact hC i hi j h
 unfold at3
 rw[h]
noncomputable def dlC(T:List (List (List Int)))(x:List Int):List Int:=rws (fun i=>atI x (dd T i)) T.length
end
section
variable{T:List (List (List Int))}{x y:List Int}{c:AV}
theorem b4A{b:Nat}{gn:Nat→Nat}{X:List Int}{v:Value}:a2k b gn (.tup [a0H X,.sc v])=⟨.tup [.ref b (gn b+1) [] 0 X.length,.sc v],none,[],[(b,a0H X)]⟩:=by
 show (⟨.tup [.ref b (gn b+1) [] 0 (X.map i64).length,.sc v],none,[],[(b,.row (X.map i64))]⟩:Eff)=_
 rw[List.length_map]
theorem b0M(X:List Int)(v:Value):noI (.tup [a0H X,.sc v])=true:=by
 have h:=a1j X
 show (noI (a0H X)&&(noI (.sc v)&&true))=true
 rw[h];rfl
def vlC(x y:List Int):Int:=sm (fun j=>atI x j*atI y j) x.length % 55441
end
theorem b7Z{n:Nat}{y:Nat→Nat→Int}(hind: ∀c:Nat→Int,(∀l,l<n→MM (sm (fun i=>c i*y i l) n) 0)→ ∀i,i<n→MM (c i) 0){v:Nat→Int}(hv: ∀i,i<n→MM (sm (fun l=>y i l*v l) n) 0): ∀l,l<n→MM (v l) 0:=fun l0 hl0=>by
 refine Classical.byContradiction fun hne=>?_
 have hM:a1G fun l i=>y i (if l<l0 then l else l+1) % 55441:=fun _ _=>a0E _
 obtain⟨c,⟨i,hi,hc⟩,h⟩:=b3F (n:=n-1) (w:=n) hM (by have:=(a3o (n:=n-1) hM n).2.1;omega)
 have h1: ∀l,l<n→l≠l0→MM (sm (fun i=>c i*y i l) n) 0:=fun l hl hn=>by
  obtain⟨l',hl',e⟩: ∃l',l'<n-1∧(if l'<l0 then l' else l'+1)=l:=by
   by_cases hlt:l<l0
   ·exact⟨l,by omega,if_pos hlt⟩
   ·exact⟨l-1,by omega,by rw[if_neg (by omega)];omega⟩
  have h2:=h l' hl'
  dsimp only at h2
  rw[e]at h2
  refine MM.trans (a1P fun i _=>?_) h2
  rw[Int.mul_comm]
  exact MM.mul (MM.mod _).symm MM.rfl
 have s1:MM (sm (fun l=>v l*sm (fun i=>c i*y i l) n) n) (v l0*sm (fun i=>c i*y i l0) n):=by
  have e1:MM (sm (fun l=>v l*sm (fun i=>c i*y i l) n) n) (sm (fun l=>if l=l0 then v l0*sm (fun i=>c i*y i l0) n else 0) n):=a1P fun l hl=>by
   by_cases e:l=l0
   ·rw[if_pos e,e];exact MM.rfl
   ·rw[if_neg e];exact(MM.mul MM.rfl (h1 l hl e)).trans (MM.of_eq (Int.mul_zero _))
  rwa [a5p hl0]at e1
 have s2:MM (sm (fun l=>v l*sm (fun i=>c i*y i l) n) n) 0:=by
  have e1:sm (fun l=>v l*sm (fun i=>c i*y i l) n) n=sm (fun i=>c i*sm (fun l=>y i l*v l) n) n:=by
   have e2:sm (fun l=>v l*sm (fun i=>c i*y i l) n) n=sm (fun l=>sm (fun i=>c i*(y i l*v l)) n) n:=a0k fun l _=>by
    rw[←a0T]
    refine a0k fun i _=>?_
    rw[Int.mul_comm (v l),Int.mul_assoc]
   rw[e2,a3b]
   exact a0k fun i _=>a0T _ _ _
  rw[e1]
  refine(a1P (g:=fun _=>0) fun i hi=>?_).trans (MM.of_eq (a1M fun _ _=>Eq.refl _))
  exact(MM.mul MM.rfl (hv i hi)).trans (MM.of_eq (Int.mul_zero _))
 have h3:MM (sm (fun i=>c i*y i l0) n) 0:=a3O (fun e=>hne e) (s1.symm.trans s2)
 refine hc (hind c (fun l hl=>?_) i hi)
 by_cases e:l=l0
 ·rw[e];exact h3
 ·exact h1 l hl e
noncomputable def pgC(T:List (List (List Int)))(x y:List Int):Int:=sm (fun j=>atI x j*atI y (dd T j)) T.length % 55441
section
variable{T:List (List (List Int))}{x y:List Int}
theorem b9y(hx:a2s x)(hy:a2s y)(lx:x.length=T.length)(ly:y.length=T.length)(h:x≠y): ∃i,i<T.length∧(atI x i-atI y i) % 55441≠0:=by
 refine Classical.byContradiction fun hn=>h ?_
 refine List.ext_getElem (by omega) fun i h1 h2=>?_
 have e:(atI x i-atI y i) % 55441=0:=Classical.byContradiction fun he=>hn ⟨i,by omega,he⟩
 have a:=hx i
 have b:=hy i
 unfold num at a b
 have e2:atI x i=atI y i:=by omega
 unfold atI at e2
 rwa [List.getD_eq_getElem?_getD,List.getElem?_eq_getElem h1,List.getD_eq_getElem?_getD,List.getElem?_eq_getElem h2]at e2
noncomputable def idC(T:List (List (List Int)))(x:List Int):List Int:=rws (fun i=>atI x (dd T i)*pw (cdg T x) 55439 % 55441) T.length
theorem b9B(T:List (List (List Int))):(b2T T).Pairwise c0W:=List.Pairwise.filter _ (b2r (fun k=>(a5m 55441 0 _).1) _)
end
open Classical in
noncomputable def ccV(T:List (List (List Int)))(x y:List Int):Int:=
 if a2j T then if CmP T then if(LC T x∧LC T y)∧chP T x∧chP T y then 0 else 2 else 5 else 1
section
variable{T:List (List (List Int))}{x y:List Int}{c:AV}
def PQ2(p r:Prop)(i:Nat):Prop:=(0<i→p)∧(1<i→r)
end
end Go.Proofs.YtbakhfiibjkifaaGreat
/- Characters: the reference's code of characters. -/
namespace Go.Proofs.YtbakhfiibjkifaaGreat
open Go.RowKit
set_option maxRecDepth 1000000
def cdF(f:Nat)(i:Nat):Int:=if i≤f then 0 else 2
section
variable{T:List (List (List Int))}{x y:List Int}{c a b:AV}
end
section
variable{T:List (List (List Int))}{x y:List Int}{c a b d:AV}
end
end Go.Proofs.YtbakhfiibjkifaaGreat
