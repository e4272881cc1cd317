/- Texts joined: Vm18 Vm18b Vm19 Vm20 Vm21 Vm22 Vm23 Vm24 Vmz. -/
import Derived.ProofKit
import Derived.Test.YtbakhfiibjkifaaGreatMa
import Derived.Test.YtbakhfiibjkifaaGreatMb
set_option linter.all false
/- The abstract machine: code, and functions. -/
namespace Go.Proofs.YtbakhfiibjkifaaGreat
open Go.RowKit
section
variable{C:Cfg}{w0:World}{A0:Nat→Prop}{F0:List Nat}{cS:Cx}{n:Nat}
theorem b1m(T:TOK C.P C.ti)(hI:a4w C)(hm:C.P.follows .mixedOrders=true): ∀(code:Code) {Q:Exit→St→Prop} {st:St} {a:Act} {c:Cx} {Φ:Nat→Nat→List Nat},SR w0 A0 F0 cS n st a c Φ→a1z n code=true→a4I C code Q st→
  code.wp C.P (b5R w0 A0 F0 cS n Q) a c.w:=by
 intro code
 induction code with
 |skip=>intro Q st a c Φ h _ hq;exact wp_skip ⟨st,c,Φ,rfl,h,hq⟩
 |region id ops d=>
  intro Q st a c Φ h hd hq
  have hdst: ∀o,o∈ops.toList→ ∀t,o.dst=some t→t<n:=by
   intro o ho t ht
   simp only[a1z]at hd
   have:=List.all_eq_true.1 hd o ho
   simpa [ht]using this
  cases d with
  |false=>exact wp_region_list (a9W T hI id ops ops.toList 0 h hdst hq fun st' a' c' Φ' h' hq'=>⟨st',c',Φ',rfl,h',hq'⟩)
  |true=>
   rcases hq with hq|⟨_,fin,hl,hok,hq⟩|⟨Q0,h1,h2⟩
   ·exact c0T T hm h hdst hq fun st' a' c' Φ' h' hq'=>⟨st',c',Φ',rfl,h',hq'⟩
   ·exact c1s T hI hm h hdst hl hok hq fun st' a' c' Φ' h' hq'=>⟨st',c',Φ',rfl,h',hq'⟩
   ·exact wp_mono (hI.2.1 _ _ _ h1 _ _ _ _ _ _ _ _ h hd) fun e a w ⟨st',c',Φ',e1,e2,e3⟩=>⟨st',c',Φ',e1,e2,h2 _ _ e3⟩
 |seq x y ihx ihy=>
  intro Q st a c Φ h hd hq
  simp only[a1z,Bool.and_eq_true]at hd
  refine wp_seq (wp_mono (ihx h hd.1 hq) ?_)
  rintro e a' w' ⟨st',c',Φ',rfl,h',hq'⟩
  cases e with
  |normal=>exact ihy h' hd.2 hq'
  |exit _=>exact⟨st',c',Φ',rfl,h',hq'⟩
  |goto _=>exact⟨st',c',Φ',rfl,h',hq'⟩
  |ret=>exact⟨st',c',Φ',rfl,h',hq'⟩
  |panic _=>exact⟨st',c',Φ',rfl,h',hq'⟩
  |outgrown=>exact⟨st',c',Φ',rfl,h',hq'⟩
 |cond x t e iht ihe=>
  intro Q st a c Φ h hd hq
  simp only[a1z,Bool.and_eq_true]at hd
  obtain⟨b,hb,h1,h2⟩:=hq
  have hv:=h.ev x
  rw[hb]at hv
  obtain⟨hv,_⟩:=Rel.sc_inv hv
  refine wp_cond_split hv ?_ ?_
  ·intro ht;exact iht h hd.1 (h1 ht)
  ·intro ht;exact ihe h hd.2 (h2 ht)
 |block id x ih=>
  intro Q st a c Φ h hd hq
  simp only[a1z]at hd
  refine wp_block (wp_mono (ih h hd hq) ?_)
  rintro e a' w' ⟨st',c',Φ',rfl,h',hq'⟩
  cases e with
  |exit j=>
   simp only at hq'
   simp only[Exit.inBlock]
   split
   ·rename_i hj;rw[if_pos hj]at hq';exact⟨st',c',Φ',rfl,h',hq'⟩
   ·rename_i hj;rw[if_neg hj]at hq';exact⟨st',c',Φ',rfl,h',hq'⟩
  |normal=>exact⟨st',c',Φ',rfl,h',hq'⟩
  |goto _=>exact⟨st',c',Φ',rfl,h',hq'⟩
  |ret=>exact⟨st',c',Φ',rfl,h',hq'⟩
  |panic _=>exact⟨st',c',Φ',rfl,h',hq'⟩
  |outgrown=>exact⟨st',c',Φ',rfl,h',hq'⟩
 |loop x ih=>
  intro Q st a c Φ h hd hq
  simp only[a1z]at hd
  obtain⟨st0,hG,I,m,hI,hround⟩:=hq
  obtain⟨c0,Φ0,e0,h⟩:=h.ghost hG
  rw[←e0]
  refine wp_loop_ghost (fun k a w=> ∃st c Φ,c.w=w∧SR w0 A0 F0 cS n st a c Φ∧I k st) m ⟨st0,c0,Φ0,rfl,h,hI⟩ ?_
  rintro k a' w' ⟨st',c',Φ',rfl,h',hI'⟩
  refine wp_mono (ih h' hd (hround k st' hI')) ?_
  rintro e a2 w2 ⟨st2,c2,Φ2,rfl,h2,hq2⟩
  cases e with
  |normal=>obtain⟨j,hj,hIj⟩:=hq2;exact⟨j,hj,st2,c2,Φ2,rfl,h2,hIj⟩
  |exit _=>exact⟨st2,c2,Φ2,rfl,h2,hq2⟩
  |goto _=>exact⟨st2,c2,Φ2,rfl,h2,hq2⟩
  |ret=>exact⟨st2,c2,Φ2,rfl,h2,hq2⟩
  |panic _=>exact⟨st2,c2,Φ2,rfl,h2,hq2⟩
  |outgrown=>exact⟨st2,c2,Φ2,rfl,h2,hq2⟩
 |exit id=>intro Q st a c Φ h _ hq;exact wp_exit ⟨st,c,Φ,rfl,h,hq⟩
 |ret=>intro Q st a c Φ h _ hq;exact wp_ret ⟨st,c,Φ,rfl,h,hq⟩
 |rangeFunc g ps x y=>
  intro Q st a c Φ h hd hq
  obtain⟨Q0,h1,h2⟩:=hq
  exact wp_mono (hI.2.1 _ _ _ h1 _ _ _ _ _ _ _ _ h hd) fun e a w ⟨st',c',Φ',e1,e2,e3⟩=>⟨st',c',Φ',e1,e2,h2 _ _ e3⟩
 |scope=>intro Q st a c Φ h _ hq;exact hq.elim
 |label=>intro Q st a c Φ h _ hq;exact hq.elim
 |goto=>intro Q st a c Φ h _ hq;exact hq.elim
 |refuse=>intro Q st a c Φ h _ hq;exact hq.elim
end
section
variable{P:Program}{ti:Nat→Option TI}{w0:World}{A0:Nat→Prop}{F0:List Nat}{c:Cx}{Φ:Nat→Nat→List Nat}{st:St}{ρ:Operand→Value}{e:Eff}{b:Nat}
theorem b7W(T:TOK P ti)(hs:Sim w0 A0 F0 c Φ [])(hro:c.ro=st.ro)(hev: ∀x,Rel c (st.ev x) (ρ x) []){t:Nat}{x:Operand}
  (h:opC ti b st.ro st.gn st.ev (.load t x)=some e): ∃ad u,ρ x= .pointer (some ad)∧(Instr.loadAt t (ρ x)).run P c.w= .ok u c.w∧Rel c e.v u []:=by
 simp only[opC]at h
 cases hi:ti t with
 |none=>simp[hi]at h
 |some inf=>
  simp only[hi]at h
  have hx:=hev x
  cases hxe:st.ev x<;>simp only[hxe,reduceCtorEq]at h hx
  case ptr s g p i=>
   cases hcs:st.ro.cells s g p with
   |none=>simp[hcs]at h
   |some cs=>
    simp only[hcs]at h
    rw[←hro]at hcs
    obtain⟨y,hy,hv⟩:=a5r hx hcs
    obtain⟨hg,_⟩:=Rel.ptr_inv hx
    obtain⟨y',us,F,cap,q0,q1,q2,q3,q4,q5,q6⟩:=hs.place hcs
    rw[hy]at q0
    simp only[Option.some.injEq]at q0
    subst q0
    split at h
    ·rename_i hag
     split at h
     ·rename_i hle
      simp only[Option.some.injEq]at h
      subst h
      have hlift: ∀(m j:Nat),j+m≤cs.length→a0h c (zfi s g p j ((cs.drop j).take m)) ((us.drop j).take m) []:=by
       intro m
       induction m with
       |zero=>intro j _;simpa [zfi]using a0h.nil
       |succ m ih=>
        intro j hj
        have hlt:j<cs.length:=by omega
        have hlt':j<us.length:=by rw[←q1.len];exact hlt
        rw[List.drop_eq_getElem_cons hlt,List.drop_eq_getElem_cons hlt',List.take_succ_cons,List.take_succ_cons]
        simp only[zfi]
        obtain⟨z,u,Fz,z1,z2,z3,z4⟩:=hs.cell hcs (List.getElem?_eq_getElem hlt)
        rw[hy]at z1
        simp only[Option.some.injEq]at z1
        subst z1
        have hu:u=us[j]:=by
         have:=q2.cell (List.getElem?_eq_getElem hlt')
         rw[this]at z2
         simpa using z2.symm
        rw[←hu]
        exact a0h.cons (hs.lift hg hcs (List.getElem?_eq_getElem hlt) hy z2 z3) (ih (j+1) (by omega)) (by simp)
      refine⟨_,.agg ((us.drop i).take inf.size).toArray,hv,?_,?_⟩
      ·have hl:((us.drop i).take inf.size).length=inf.size:=by rw[List.length_take,List.length_drop, ←q1.len];omega
       have hr:=a2Y T hi hag c.w y.1 (y.2+i) ((us.drop i).take inf.size) hl (fun j u hu=>by
        have:us[i+j]?=some u:=by
         rw[List.getElem?_take]at hu
         split at hu
         ·rw[List.getElem?_drop]at hu;exact hu
         ·cases hu
        have:=q2.cell this
        rwa [←Nat.add_assoc]at this)
       rw[hv];exact hr
      ·have:=a0h.agg (hlift inf.size i hle) (by simp) a0h.nil
       simpa using this
     ·cases h
    ·rename_i hag
     cases hi':cs[i]? with
     |none=>simp[hi']at h
     |some a=>
      simp only[hi',Option.some.injEq]at h
      subst h
      obtain⟨z,u,Fz,z1,z2,z3,z4⟩:=hs.cell hcs hi'
      rw[hy]at z1
      simp only[Option.some.injEq]at z1
      subst z1
      refine⟨_,u,hv,?_,(hs.lift hg hcs hi' hy z2 z3)⟩
      have hr:=a2A T hi (by simpa using hag) c.w ⟨y.1,y.2+i,none⟩ u z2
      rw[hv];exact hr
  case iptr cs=>
   obtain⟨g1,b1,us,hv,h1,h2,_⟩:=Rel.iptr_inv hx
   split at h
   ·rename_i hag
    split at h
    ·rename_i hle
     simp only[Option.some.injEq]at h
     subst h
     refine⟨_,.agg (us.take inf.size).toArray,hv,?_,?_⟩
     ·have hl:(us.take inf.size).length=inf.size:=by rw[List.length_take, ←h1.len];omega
      have hr:=a2Y T hi hag c.w g1 b1 (us.take inf.size) hl (fun j u hu=>by
       rw[List.getElem?_take]at hu
       split at hu
       ·exact h2.2.2 j u hu
       ·cases hu)
      rw[hv];exact hr
     ·have:=a0h.agg (by simpa using h1.cut0 0 inf.size) (by simp) (a0h.nil (c:=c))
      simpa using this
    ·cases h
   ·rename_i hag
    cases cs with
    |nil=>simp at h
    |cons a cs=>
     simp only[Option.some.injEq]at h
     subst h
     obtain⟨u,hu,ha⟩:=h1.nth0 (i:=0) (a:=a) rfl
     refine⟨_,u,hv,?_,ha⟩
     have hr:=a2A T hi (by simpa using hag) c.w ⟨g1,b1,none⟩ u (by have:=h2.2.2 0 u hu;simpa using this)
     rw[hv];exact hr
end
def a2S:Ro→List AV→Option (List AV×List (Nat×Nat))
 |_,[]=>some ([],[])
 |ro,a::as=>match zes ro a with
  |some (a',w)=>match a2S (ro.dl w) as with
   |some (as',ws)=>some (a'::as',w++ws)
   |none=>none
  |none=>none
def zhk(ro:Ro):AV→Option (AV×List (Nat×Nat))
 | .ref s g [] 0 n=>match ro s g with
  |some (.bx cs)=>if n=cs.length then match a2S (upr ro s g .dead) cs with
    |some (as',ws)=>some (.row as',(s,g)::ws)
    |none=>none
   else if n≤cs.length then match a2S (upr ro s g .dead) (cs.take n)with
    |some (as',ws)=>some (.row as',(s,g)::ws)
    |none=>none
   else none
  |_=>zes ro (.ref s g [] 0 n)
 |a=>zes ro a
def a2g:Ro→List AV→Option (List AV×List (Nat×Nat))
 |_,[]=>some ([],[])
 |ro,.agg cs::as=>match a2S ro cs with
  |some (cs',w)=>match a2g (ro.dl w) as with
   |some (as',ws)=>some (.agg cs'::as',w++ws)
   |none=>none
  |none=>none
 |ro,a::as=>match zhk ro a with
  |some (a',w)=>match a2g (ro.dl w) as with
   |some (as',ws)=>some (a'::as',w++ws)
   |none=>none
  |none=>none
def a1H(ti:Nat→Option TI)(st:St):List ResultVar→Option (List AV)
 | []=>some []
 | .tmp t::r=>match a1H ti st r with
  |some as=>some (st.sl t::as)
  |none=>none
 | .cell a t::r=>match opC ti 0 st.ro st.gn st.ev (.load t (.tmp a))with
  |some e=>match a1H ti st r with
   |some as=>some (e.v::as)
   |none=>none
  |none=>none
def a1Z(ti:Nat→Option TI)(rs:List ResultVar)(st:St):Option AV:=match a1H ti st rs with
 |some as=>match a2g st.ro as with
  |some ([a],_)=>some a
  |some (as,_)=>some (.tup as)
  |none=>none
 |none=>none
def st0(args:List AV):St:=⟨fun k=>args.getD k (.sc undef),fun _ _=>none,fun _=>0⟩
section
variable{C:Cfg}{w0:World}{A0:Nat→Prop}{F0:List Nat}{cS:Cx}{n:Nat}
theorem a0h.uncons0{c:Cx}{a as vs}(h:a0h c (a::as) vs []): ∃v vs',vs=v::vs'∧Rel c a v []∧a0h c as vs' []:=by
 obtain⟨v,us,F1,F2,h1,h2,h3,h4,h5⟩:=h.uncons
 have h6:=List.append_eq_nil_iff.1 h2.symm
 exact⟨v,us,h1,by rw[←h6.1];exact h3,by rw[←h6.2];exact h4⟩
theorem a0h.nthZ{c:Cx}: ∀ {as:List AV} {vs:List Value},a0h c as vs []→ ∀ {k:Nat} (ha:k<as.length) (hv:k<vs.length),Rel c as[k] vs[k] []
 | [],_,_,_,ha,_=>by simp at ha
 |a::as,vs,h,k,ha,hv=>by
  obtain⟨v,vs',rfl,h1,h2⟩:=a0h.uncons0 h
  cases k with
  |zero=>exact h1
  |succ k=>exact a0h.nthZ h2 (by simpa using ha) (by simpa using hv)
theorem a5k: ∀(a b:List (Nat×Nat)) (ro:Ro),ro.dl (a++b)=(ro.dl a).dl b
 | [],_,_=>rfl
 |(_,_)::a,b,ro=>a5k a b _
theorem b0p: ∀(as:List AV) {c:Cx} {Φ:Nat→Nat→List Nat} {R:List Nat} {vs:List Value},Sim w0 A0 F0 c Φ R→a0h c as vs []→ ∀ {as' dl},a2S c.ro as=some (as',dl)→
  ∃c' Φ' F,c'.w=c.w∧c'.ro=c.ro.dl dl∧c'.A=c.A∧a1y c c'∧Sim w0 A0 F0 c' Φ' (R++F)∧a0h c' as' vs F∧(∀x,x∈R→x∉F)
 | [],c,Φ,R,vs,hs,hr,as',dl,h=>by
  simp only[a2S,Option.some.injEq,Prod.mk.injEq]at h
  obtain⟨rfl,rfl⟩:=h
  exact⟨c,Φ,[],rfl,rfl,rfl,a1y.refl c,by simpa using hs,hr,by simp⟩
 |a::as,c,Φ,R,vs,hs,hr,as',dl,h=>by
  obtain⟨v,vs',rfl,hv,hvs⟩:=a0h.uncons0 hr
  simp only[a2S]at h
  cases hm:zes c.ro a with
  |none=>simp[hm]at h
  |some q=>
   obtain⟨a',w⟩:=q
   simp only[hm]at h
   obtain⟨c1,Φ1,F1,e1,e2,e3,e4,e5,e6,e7,e8,e9,e10⟩:=a4M hs hv hm
   cases ho:a2S (c.ro.dl w) as with
   |none=>simp[ho]at h
   |some q=>
    obtain⟨as2,ws⟩:=q
    simp only[ho,Option.some.injEq,Prod.mk.injEq]at h
    obtain⟨rfl,rfl⟩:=h
    obtain⟨c2,Φ2,F2,f1,f2,f3,f4,f5,f6,f7⟩:=b0p as e7 (hvs.mono e6 (by simp)) (by rw[e2];exact ho)
    refine⟨c2,Φ2,F1++F2,f1.trans e1,?_,f3.trans e5,e6.trans f4,by rw[←List.append_assoc];exact f5,?_,?_⟩
    ·rw[f2,e2,a5k]
    ·exact a0h.cons (e8.mono f4 (fun b _=>by rw[f1])) f6 (fun x hx hx'=>f7 x (by simp[hx]) hx')
    ·intro x hx hx'
     rcases List.mem_append.1 hx' with h|h
     ·exact e10 x hx h
     ·exact f7 x (by simp[hx]) h
theorem a8B{c:Cx}: ∀(as:List AV) {ro:Ro} {vs:List Value} {F:List Nat},a0h c as vs F→ ∀ {as' dl},a2S ro as=some (as',dl)→F=[]
 | [],ro,vs,F,hr,as',dl,h=>(a0h.nilF hr).2
 |a::as,ro,vs,F,hr,as',dl,h=>by
  obtain⟨v,vs',Fa,G',rfl,rfl,hv,hvs,_⟩:=a0h.uncons hr
  simp only[a2S]at h
  cases hm:zes ro a with
  |none=>simp[hm]at h
  |some q=>
   obtain⟨a',w⟩:=q
   simp only[hm]at h
   cases ho:a2S (ro.dl w) as with
   |none=>simp[ho]at h
   |some q=>
    obtain⟨as2,ws⟩:=q
    have h2:=a8B as hvs ho
    have hown:b5x a=true:=by
     cases a<;>first|rfl|(simp[zes,zez]at hm)
    have h1:=a0h.own0 hv (by simp[a5F,hown])
    rw[h1,h2];rfl
theorem b7H{c:Cx}{Φ:Nat→Nat→List Nat}{R:List Nat}(hs:Sim w0 A0 F0 c Φ R){a:AV}{u:Value}(hr:Rel c a u []){a':AV}{dl:List (Nat×Nat)}(h:zhk c.ro a=some (a',dl)):
  ∃c' Φ' F,c'.w=c.w∧c'.ro=c.ro.dl dl∧c'.A=c.A∧a1y c c'∧Sim w0 A0 F0 c' Φ' (R++F)∧Rel c' a' u F∧(∀x,x∈R→x∉F):=by
 have hplain:zes c.ro a=some (a',dl)→ ∃c' Φ' F,c'.w=c.w∧c'.ro=c.ro.dl dl∧c'.A=c.A∧a1y c c'∧Sim w0 A0 F0 c' Φ' (R++F)∧Rel c' a' u F∧(∀x,x∈R→x∉F):=by
  intro hm
  obtain⟨c1,Φ1,F1,e1,e2,e3,e4,e5,e6,e7,e8,e9,e10⟩:=a4M hs hr hm
  exact⟨c1,Φ1,F1,e1,e2,e5,e6,e7,e8,e10⟩
 have main: ∀(s g n:Nat) (cs:List AV),a= .ref s g [] 0 n→c.ro s g=some (.bx cs)→n≤cs.length→ ∀as' ws,a2S (upr c.ro s g .dead) (cs.take n)=some (as',ws)→
   ∃c' Φ' F,c'.w=c.w∧c'.ro=c.ro.dl ((s,g)::ws)∧c'.A=c.A∧a1y c c'∧Sim w0 A0 F0 c' Φ' (R++F)∧Rel c' (.row as') u F∧(∀x,x∈R→x∉F):=by
  rintro s g n cs rfl hro hn as' ws hm
  have hl:c.ro.cells s g []=some cs:=by simp[Ro.cells,hro,blk]
  obtain⟨x,cs',h1,h2,h3,h4⟩:=a2w hr (by rw[hl];rfl)
  rw[hl]at h1
  simp only[Option.some.injEq]at h1
  subst h1
  simp only[locp,Option.some.injEq]at h2
  subst h2
  obtain⟨b',cap,arr,E,e1,e2,e3,e4,e5,e6⟩:=h3
  obtain⟨c',Φ',v,rfl,k1,k2,k3,k4⟩:=hs.takeG hro
  obtain⟨g1,b1,cap1,us,F',q1,q2,q3,q4,q5⟩:=Rel.bx_inv k3
  have q6:v= .pointer (some ⟨(c.L s g).1,(c.L s g).2,none⟩):=k4
  rw[q1]at q6
  simp only[Value.pointer.injEq,Option.some.injEq,Addr.mk.injEq]at q6
  obtain⟨q7,q8,_⟩:=q6
  obtain⟨F1,q3',hF1⟩:=a0h.cut q3 0 n
  simp only[List.drop_zero]at q3'
  have hF':=a8B (cs.take n) q3' hm
  subst hF'
  have k2':Sim w0 A0 F0 _ Φ' (R++ [g1]):=Sim.sub k2 fun y hy=>by
   rcases List.mem_append.1 hy with hy|hy
   ·first|exact List.mem_append.2 (.inl hy)|exact List.mem_append.2 (.inr hy)
   ·simp only[List.mem_singleton]at hy;subst hy
    first|exact List.mem_append.2 (.inr (by rw[q2];simp))|exact List.mem_append.2 (.inl (by rw[q2];simp))
  obtain⟨c2,Φ2,F2,f1,f2,f3,f4,f5,f6,f7⟩:=b0p (cs.take n) k2' q3' hm
  have hg1:g1∉F2:=fun hx=>f7 g1 (by simp) hx
  have hul:us.length=cs.length:=q3.len.symm
  have hul':(us.take n).length=n:=by simp[hul,hn]
  have hal:as'.length=(us.take n).length:=f6.len
  refine⟨c2,Φ2,g1::F2,f1,?_,f3,k1.trans f4,?_,?_,?_⟩
  ·rw[f2];rfl
  ·simpa using f5
  ·have hb:ownB c2.w g1 b' (us.take n) cap:=by
    rw[f1]
    obtain⟨arr1,E1,p1,p2,p3,p4,p5⟩:=q4
    have p1':c.w.heap[g1]?=some (.cells arr1 E1 (0,0)):=p1
    rw[q7,e3]at p1'
    simp only[Option.some.injEq,Obj.cells.injEq]at p1'
    obtain⟨rfl,rfl,_⟩:=p1'
    refine⟨arr,E,by rw[q7];exact e3,e4,by rw[hul'];exact e5,e6,fun i u hu=>?_⟩
    have hi:i<n:=by have:=(List.getElem?_eq_some_iff.1 hu).1;rw[hul']at this;exact this
    rcases e2 with e2|e2
    ·have:=p5 i u (by rw[List.getElem?_take,if_pos hi]at hu;exact hu)
     rw[e2,Nat.add_zero, ←q8];exact this
    ·omega
   have:=Rel.mk_row (c:=c2) g1 b' cap f6 hb hg1
   rw[e1, ←q7]
   rw[hul']at this
   exact this
  ·intro y hy hy'
   rcases List.mem_cons.1 hy' with rfl|hy'
   ·exact hs.rd s g _ (by rw[q2];simp) hy
   ·exact f7 y (by simp[hy]) hy'
 unfold zhk at h
 split at h
 ·rename_i s g n
  split at h
  ·rename_i cs hro
   split at h
   ·rename_i hn
    cases hm:a2S (upr c.ro s g .dead) cs with
    |none=>simp[hm]at h
    |some q=>
     obtain⟨as',ws⟩:=q
     simp only[hm,Option.some.injEq,Prod.mk.injEq]at h
     obtain⟨rfl,rfl⟩:=h
     exact main s g n cs rfl hro (by omega) as' ws (by rw[List.take_of_length_le (by omega)];exact hm)
   ·split at h
    ·rename_i hn
     cases hm:a2S (upr c.ro s g .dead) (cs.take n)with
     |none=>simp[hm]at h
     |some q=>
      obtain⟨as',ws⟩:=q
      simp only[hm,Option.some.injEq,Prod.mk.injEq]at h
      obtain⟨rfl,rfl⟩:=h
      exact main s g n cs rfl hro hn as' ws hm
    ·cases h
  ·exact hplain h
 ·exact hplain h
theorem b5g: ∀(as:List AV) {c:Cx} {Φ:Nat→Nat→List Nat} {R:List Nat} {vs:List Value},Sim w0 A0 F0 c Φ R→a0h c as vs []→ ∀ {as' dl},a2g c.ro as=some (as',dl)→
  ∃c' Φ' F,c'.w=c.w∧c'.ro=c.ro.dl dl∧c'.A=c.A∧a1y c c'∧Sim w0 A0 F0 c' Φ' (R++F)∧a0h c' as' vs F∧(∀x,x∈R→x∉F)
 | [],c,Φ,R,vs,hs,hr,as',dl,h=>by
  simp only[a2g,Option.some.injEq,Prod.mk.injEq]at h
  obtain⟨rfl,rfl⟩:=h
  exact⟨c,Φ,[],rfl,rfl,rfl,a1y.refl c,by simpa using hs,hr,by simp⟩
 |a::as,c,Φ,R,vs,hs,hr,as',dl,h=>by
  obtain⟨v,vs',rfl,hv,hvs⟩:=a0h.uncons0 hr
  have main: ∀a' w,(∃c' Φ' F,c'.w=c.w∧c'.ro=c.ro.dl w∧c'.A=c.A∧a1y c c'∧Sim w0 A0 F0 c' Φ' (R++F)∧Rel c' a' v F∧(∀x,x∈R→x∉F))→
    (match a2g (c.ro.dl w) as with|some (as',ws)=>some (a'::as',w++ws)|none=>none)=some (as',dl)→
    ∃c' Φ' F,c'.w=c.w∧c'.ro=c.ro.dl dl∧c'.A=c.A∧a1y c c'∧Sim w0 A0 F0 c' Φ' (R++F)∧a0h c' as' (v::vs') F∧(∀x,x∈R→x∉F):=by
   rintro a' w ⟨c1,Φ1,F1,e1,e2,e5,e6,e7,e8,e10⟩ h
   cases ho:a2g (c.ro.dl w) as with
   |none=>simp[ho]at h
   |some q=>
    obtain⟨as2,ws⟩:=q
    simp only[ho,Option.some.injEq,Prod.mk.injEq]at h
    obtain⟨rfl,rfl⟩:=h
    obtain⟨c2,Φ2,F2,f1,f2,f3,f4,f5,f6,f7⟩:=b5g as e7 (hvs.mono e6 (by simp)) (by rw[e2];exact ho)
    refine⟨c2,Φ2,F1++F2,f1.trans e1,?_,f3.trans e5,e6.trans f4,by rw[←List.append_assoc];exact f5,?_,?_⟩
    ·rw[f2,e2,a5k]
    ·exact a0h.cons (e8.mono f4 (fun b _=>by rw[f1])) f6 (fun x hx hx'=>f7 x (by simp[hx]) hx')
    ·intro x hx hx'
     rcases List.mem_append.1 hx' with h|h
     ·exact e10 x hx h
     ·exact f7 x (by simp[hx]) h
  by_cases hag: ∃cs,a= .agg cs
  ·obtain⟨cs,rfl⟩:=hag
   simp only[a2g]at h
   cases hm:a2S c.ro cs with
   |none=>simp[hm]at h
   |some q=>
    obtain⟨cs',w⟩:=q
    simp only[hm]at h
    obtain⟨us,rfl,hus⟩:=Rel.agg_inv hv
    obtain⟨c1,Φ1,F1,e1,e2,e3,e4,e5,e6,e7⟩:=b0p cs hs hus hm
    exact main (.agg cs') w ⟨c1,Φ1,F1,e1,e2,e3,e4,e5,by simpa using a0h.agg e6 (by simp) a0h.nil,e7⟩ h
  ·cases hm:zhk c.ro a with
   |none=>
    exfalso
    cases a<;>simp_all [a2g]
   |some q=>
    obtain⟨a',w⟩:=q
    refine main a' w (b7H hs hv hm) ?_
    rw[←h]
    cases a<;>first|(exact absurd ⟨_,rfl⟩ hag)|(simp only[a2g,hm])
def a9S:List Value→Value
 | [v]=>v
 |vs=> .tuple vs.toArray
def c2q(tmps:Array Value):ResultVar→Sem Value
 | .tmp t=>pure (tmps.getD t undef)
 | .cell a t=>do loadVar t (←asAddr (tmps.getD a undef))
theorem b2G(fn:Func)(tmps:Array Value):results fn tmps=(do
  let vs ←fn.results.mapM (c2q tmps)
  pure (if h:vs.size=1 then vs[0]else .tuple vs)):=by
 unfold results
 congr 1
theorem a6J{ti:Nat→Option TI}{P:Program}(T:TOK P ti){fn:Func}{a:Act}{st:St}{c:Cx}{Φ:Nat→Nat→List Nat}(hs:SR w0 A0 F0 cS n st a c Φ){as:List AV}(h:a1H ti st fn.results.toList=some as):
  ∃vs,a0h c as vs []∧(results fn a.tmps).run P c.w= .ok (a9S vs) c.w:=by
 have key: ∀(rs:List ResultVar) {as:List AV},a1H ti st rs=some as→ ∃vs,a0h c as vs []∧(rs.mapM (m:=Sem) (c2q a.tmps)).run P c.w= .ok vs c.w:=by
  intro rs
  induction rs with
  |nil=>intro as h;simp only[a1H,Option.some.injEq]at h;subst h;exact⟨[],.nil,by simp⟩
  |cons r rs ih=>
   intro as h
   cases r with
   |cell p t=>
    simp only[a1H]at h
    cases hl:opC ti 0 st.ro st.gn st.ev (.load t (.tmp p))with
    |none=>simp[hl]at h
    |some e=>
     simp only[hl]at h
     cases hr:a1H ti st rs with
     |none=>simp[hr]at h
     |some as'=>
      simp only[hr,Option.some.injEq]at h
      subst h
      obtain⟨vs,h1,h2⟩:=ih hr
      obtain⟨ad,u,g1,g2,g3⟩:=b7W T hs.sim hs.ro hs.ev hl
      refine⟨u::vs,a0h.cons g3 h1 (by simp),?_⟩
      have g1':a.tmps.getD p undef= .pointer (some ad):=g1
      rw[g1]at g2
      have g4:(c2q a.tmps (.cell p t)).run P c.w= .ok u c.w:=by
       simp only[c2q,g1',asAddr,pure_bind]
       exact g2
      rw[List.mapM_cons]
      simp[g4,h2]
   |tmp t=>
    simp only[a1H]at h
    cases hr:a1H ti st rs with
    |none=>simp[hr]at h
    |some as'=>
     simp only[hr,Option.some.injEq]at h
     subst h
     obtain⟨vs,h1,h2⟩:=ih hr
     refine⟨a.tmps.getD t undef::vs,a0h.cons (hs.sl t) h1 (by simp),?_⟩
     rw[List.mapM_cons]
     simp[c2q,h2]
 obtain⟨vs,h1,h2⟩:=key _ h
 refine⟨vs,h1,?_⟩
 rw[b2G,Array.mapM_eq_mapM_toList]
 simp only[map_eq_pure_bind,bind_assoc,pure_bind,Sem.run_bind,h2,Result.andThen_ok]
 rw[Sem.run_pure]
 congr 1
 match vs with
 | []=>rfl
 | [v]=>rfl
 |v::u::vs=>rfl
theorem SR.start(w:World)(A:Nat→Prop){args:List AV}{vs:List Value}(hA: ∀x,A x→x<w.heap.size)(hG:Gd w)(hv:a0h (cx0 w A) args vs [])(hn:vs.length≤n):
  SR w A [] (cx0 w A) n (st0 args) {tmps:=vs.toArray++Array.replicate (n-vs.length) undef,defers:=[]} (cx0 w A) (fun _ _=>[]):=by
 refine⟨⟨by simp[cx0],by simp,by simp,by simp,by simp,by simp,fun _ h=>h,hA,⟨rfl,rfl,Ou.refl _,Nat.le_refl _,fun _ _ _=>rfl⟩,hG.nilF⟩,a1y.refl _,rfl,rfl,fun k=>?_,trivial,by simp;omega⟩
 simp only[st0]
 rcases Nat.lt_or_ge k vs.length with h|h
 ·have ha:k<args.length:=by rw[hv.len];exact h
  have e1:args.getD k (.sc undef)=args[k]:=by simp[List.getD_eq_getElem?_getD,ha]
  have e2:(vs.toArray++Array.replicate (n-vs.length) undef).getD k undef=vs[k]:=by
   simp[Array.getD_eq_getD_getElem?,Array.getElem?_append,h]
  rw[e1,e2]
  exact a0h.nthZ hv ha h
 ·have ha:args.length≤k:=by rw[hv.len];exact h
  have e1:args.getD k (.sc undef)= .sc undef:=by simp[List.getD_eq_getElem?_getD,ha]
  have e2:(vs.toArray++Array.replicate (n-vs.length) undef).getD k undef=undef:=by
   rw[Array.getD_eq_getD_getElem?,Array.getElem?_append]
   simp only[List.size_toArray,Nat.not_lt.2 h,if_false,Array.getElem?_replicate]
   split<;>rfl
  rw[e1,e2]
  exact .sc undef .nil
theorem a7g {f : Nat} {fn : Func} {code : Code} {args : List AV} {r : AV} (T : TOK C.P C.ti) (hI : a4w C) (hm : C.P.follows .mixedOrders = true) (hf : C.P.funcs[f]? = some fn) (hb : fn.body = some code) (hname : (fn.name == "runtime.NumGoroutine") = false)
  (hd:a1z fn.ntmps code=true) (hp:args.length≤fn.ntmps) (hn:a0C r=true)
  (h:a4I C code (fun e st=>(e= .normal∨e= .ret)∧a1Z C.ti fn.results.toList st=some r) (st0 args)):a0d C.P f args r:=by
 refine⟨⟨fn,hf,by simp[hb],hname⟩,hn,?_⟩
 intro w A vs hv hA hG
 have hlen:=hv.len
 refine callsIn_wide.1 (callsIn_of_wp_marks (n:=0) hf hb trivial (wpIn_wide.2 ?_) rfl)
 have hs:=SR.start (n:=fn.ntmps) w A hA hG hv (by omega)
 have:=b1m T hI hm code hs hd h
 rw[List.size_toArray]
 refine wp_mono this ?_
 rintro e a' w' ⟨st,c,Φ,rfl,h',he,hr⟩
 have fin: ∀(c:Cx) (a':Act),SR w A [] (cx0 w A) fn.ntmps st a' c Φ→ ∃v,(results fn a'.tmps).run C.P c.w= .ok v c.w∧ ∃u A' F',Ending.returned v= .returned u∧Rel (cx0 c.w A') r u F'∧(∀x,A x→A' x)∧(∀x,x∈F'→A' x∧w.heap.size≤x)∧Blw w c.w []:=by
  intro c a' h'
  unfold a1Z at hr
  cases hl:a1H C.ti st fn.results.toList with
  |none=>simp[hl]at hr
  |some as=>
   simp only[hl]at hr
   obtain⟨us,h1,h2⟩:=a6J T h' hl
   cases ho:a2g st.ro as with
   |none=>simp[ho]at hr
   |some q=>
    obtain⟨as',dl⟩:=q
    obtain⟨c2,Φ2,F2,f1,f2,f3,f4,f5,f6,f7⟩:=b5g as h'.sim h1 (by rw[h'.ro];exact ho)
    have hrel:Rel c2 r (a9S us) F2:=by
     simp only[ho]at hr
     have hl2:=f6.len
     match as',us,hl2,f6,hr with
     | [a],[u],_,f6,hr=>simp only[Option.some.injEq]at hr;subst hr;exact f6
     | [],[],_,f6,hr=>simp only[Option.some.injEq]at hr;subst hr;simpa [a9S]using a0h.tup f6 (by simp) a0h.nil
     |a::b::l,u::v::l',_,f6,hr=>simp only[Option.some.injEq]at hr;subst hr;simpa [a9S]using a0h.tup f6 (by simp) a0h.nil
    refine⟨_,h2,_,c.A,F2,rfl,?_,h'.sim.a0,?_,h'.sim.bw⟩
    ·exact hrel.ctx (c':=cx0 c.w c.A) f1.symm (fun x hx=>by rw[f3];exact hx) (by simp[a0j,hn])
    ·intro x hx
     have:=f5.rown x (by simp[hx])
     refine⟨by rw[←f3];exact this.1,?_⟩
     rcases this.2.2 with h|h
     ·exact h
     ·cases h
 rcases he with rfl|rfl
 ·exact a3P h' fin rfl
 ·exact a3P h' fin rfl
def a3a:List AV→AV
 | [a]=>a
 |as=> .tup as
theorem b0d{c:Cx}{args:List AV}{vs:List Value}(hv:a0h c args vs [])(k:Nat):Rel c (args.getD k (.sc undef)) ((vs.toArray++Array.replicate (n-vs.length) undef).getD k undef) []:=by
 rcases Nat.lt_or_ge k vs.length with h|h
 ·have ha:k<args.length:=by rw[hv.len];exact h
  have e1:args.getD k (.sc undef)=args[k]:=by simp[List.getD_eq_getElem?_getD,ha]
  have e2:(vs.toArray++Array.replicate (n-vs.length) undef).getD k undef=vs[k]:=by
   simp[Array.getD_eq_getD_getElem?,Array.getElem?_append,h]
  rw[e1,e2]
  exact a0h.nthZ hv ha h
 ·have ha:args.length≤k:=by rw[hv.len];exact h
  have e1:args.getD k (.sc undef)= .sc undef:=by simp[List.getD_eq_getElem?_getD,ha]
  have e2:(vs.toArray++Array.replicate (n-vs.length) undef).getD k undef=undef:=by
   rw[Array.getD_eq_getD_getElem?,Array.getElem?_append]
   simp only[List.size_toArray,Nat.not_lt.2 h,if_false,Array.getElem?_replicate]
   split<;>rfl
  rw[e1,e2]
  exact .sc undef .nil
theorem a9u {f : Nat} {fn : Func} {code : Code} {args : List AV} {ro : Ro} {gn : Nat → Nat} {Po : AV → Ro → (Nat → Nat) → Prop} (T : TOK C.P C.ti) (hI : a4w C) (hm : C.P.follows .mixedOrders = true) (hf : C.P.funcs[f]? = some fn) (hb : fn.body = some code) (hname : (fn.name == "runtime.NumGoroutine") = false)
  (hd:a1z fn.ntmps code=true) (hp:args.length≤fn.ntmps)
  (h:a4I C code (fun e st=>(e= .normal∨e= .ret)∧ ∃xs,a1H C.ti st fn.results.toList=some xs∧Po (a3a xs) st.ro st.gn) ⟨fun k=>args.getD k (.sc undef),ro,gn⟩):InS C.P f args ro gn Po:=by
 refine⟨⟨fn,hf,by simp[hb],hname⟩,?_⟩
 intro w0 A0 F0 c Φ vs hsim hro hgn hv
 have hlen:=hv.len
 refine callsIn_wide.1 (callsIn_of_wp_marks (n:=0) hf hb trivial (wpIn_wide.2 ?_) rfl)
 have hs:SR w0 A0 F0 c fn.ntmps ⟨fun k=>args.getD k (.sc undef),ro,gn⟩ {tmps:=vs.toArray++Array.replicate (fn.ntmps-vs.length) undef,defers:=[]} c Φ:=
  ⟨hsim,a1y.refl c,hro,hgn,b0d hv,trivial,by simp;omega⟩
 have:=b1m T hI hm code hs hd h
 rw[List.size_toArray]
 refine wp_mono this ?_
 rintro e a' w' ⟨st,c',Φ',rfl,h',he,xs,hxs,hPo⟩
 have fin: ∀(c':Cx) (a':Act),SR w0 A0 F0 c fn.ntmps st a' c' Φ'→ ∃v,(results fn a'.tmps).run C.P c'.w= .ok v c'.w∧ ∃v1 c1 Φ1 r1,Ending.returned v= .returned v1∧c1.w=c'.w∧Po r1 c1.ro c1.gn∧Sim w0 A0 F0 c1 Φ1 []∧a1y c c1∧Rel c1 r1 v1 []:=by
  intro c' a' h'
  obtain⟨us,h1,h2⟩:=a6J (P:=C.P) T h' hxs
  have hrel:Rel c' (a3a xs) (a9S us) []:=by
   have hl2:=h1.len
   match xs,us,hl2,h1 with
   | [a],[u],_,f6=>exact f6
   | [],[],_,f6=>simpa [a9S,a3a]using a0h.tup f6 (by simp) a0h.nil
   |a::b::l,u::v::l',_,f6=>simpa [a9S,a3a]using a0h.tup f6 (by simp) a0h.nil
  exact⟨_,h2,_,c',Φ',_,rfl,rfl,by rw[h'.ro,h'.gn];exact hPo,h'.sim,h'.kp,hrel⟩
 rcases he with rfl|rfl
 ·exact a3P h' fin rfl
 ·exact a3P h' fin rfl
end
def a9O:Int→Bool
 | .ofNat m=>Nat.ble m 9223372036854775807
 | .negSucc m=>Nat.ble m 9223372036854775807
def wrF(n:Int):Int:=cond (a9O n) n (IntKind.wrap .i64 n)
theorem b0Y(n:Int):wrF n=IntKind.wrap .i64 n:=by
 unfold wrF
 cases h:a9O n with
 |false=>rfl
 |true=>
  simp only[cond_true]
  have h1: -9223372036854775808≤n∧n≤9223372036854775807:=by
   cases n with
   |ofNat m=>simp only[a9O]at h;have:=Nat.le_of_ble_eq_true h;simp only[Int.ofNat_eq_natCast];omega
   |negSucc m=>simp only[a9O]at h;have:=Nat.le_of_ble_eq_true h;omega
  have e:IntKind.bits .i64=64:=rfl
  have s:IntKind.signed .i64=true:=rfl
  simp only[IntKind.wrap,e,s,Bool.true_and,decide_eq_true_eq]
  split<;>omega
def ltI(a b:Int):Bool:=match Int.sub a b with
 | .negSucc _=>true
 | .ofNat _=>false
theorem zea(a b:Int):ltI a b=decide (a<b):=by
 unfold ltI
 have:Int.sub a b=a-b:=rfl
 rw[this]
 cases h:a-b with
 |ofNat m=>simp only;symm;rw[decide_eq_false_iff_not];simp only[Int.ofNat_eq_natCast]at h;omega
 |negSucc m=>simp only;symm;rw[decide_eq_true_eq];omega
def eqI(a b:Int):Bool:=match a,b with
 | .ofNat m,.ofNat n=>Nat.beq m n
 | .negSucc m,.negSucc n=>Nat.beq m n
 |_,_=>false
theorem zeb(a b:Int):eqI a b=decide (a=b):=by
 have nb: ∀m n:Nat,Nat.beq m n=decide (m=n):=by
  intro m n
  cases h:Nat.beq m n with
  |true=>have:=Nat.eq_of_beq_eq_true h;simp[this]
  |false=>have:m≠n:=Nat.ne_of_beq_eq_false h;simp[this]
 cases a<;>cases b<;>simp[eqI,nb]<;>omega
def isZ:Int→Bool
 | .ofNat m=>Nat.beq m 0
 | .negSucc _=>false
def b3J(op:BinOp)(a b:Int):Option Value:=match op with
 | .add=>some (.int .i64 (wrF (Int.add a b)))
 | .sub=>some (.int .i64 (wrF (Int.sub a b)))
 | .mul=>some (.int .i64 (wrF (Int.mul a b)))
 | .quo=>cond (isZ b) none (some (.int .i64 (wrF (Int.tdiv a b))))
 | .rem=>cond (isZ b) none (some (.int .i64 (Int.tmod a b)))
 | .eql=>some (.bool (eqI a b))
 | .neq=>some (.bool (not (eqI a b)))
 | .lss=>some (.bool (ltI a b))
 | .leq=>some (.bool (not (ltI b a)))
 | .gtr=>some (.bool (ltI b a))
 | .geq=>some (.bool (not (ltI a b)))
 |_=>none
theorem c0o{op:BinOp}{a b:Int}{v:Value}(h:b3J op a b=some v):a2i (binOp op 0 (.int .i64 a) (.int .i64 b))=some v:=by
 have hz:isZ b=false→b≠0:=by rintro h rfl;exact absurd h (by decide)
 have hle: ∀x y:Int,(!decide (y<x))=decide (x≤y):=by intro x y;rw[←decide_not];exact decide_eq_decide.2 (by omega)
 cases op<;>simp only[b3J,reduceCtorEq,Option.some.injEq,b0Y,zea,zeb]at h
 case quo=>
  cases h0:isZ b with
  |true=>rw[h0]at h;cases h
  |false=>
   rw[h0]at h
   simp only[cond_false,Option.some.injEq]at h
   subst h
   simp[binOp,Op.intDiv,hz h0,a2i];rfl
 case rem=>
  cases h0:isZ b with
  |true=>rw[h0]at h;cases h
  |false=>
   rw[h0]at h
   simp only[cond_false,Option.some.injEq]at h
   subst h
   simp[binOp,Op.intDiv,hz h0,a2i];rfl
 all_goals
  subst h
  simp only[binOp,ne_eq,not_true_eq_false,if_false,Op.intArith,Op.intCmp,hle]
  first|rfl|(simp[a2i,pure];done)|skip
def a6P(a:AV):Option Eff:=some ⟨a,none,[],[]⟩
def zcm(c x y:AV):Option Eff:=match c with
 | .sc (.bool t)=>some ⟨if t then x else y,none,[],[]⟩
 |_=>none
def a3G(i:Option TI)(ro:Ro)(op:BinOp)(x y:AV):Option Eff:=match i with
 |some inf=>if zee ro x then(match b1w inf op x y with
  |some v=>some ⟨.sc v,none,[],[]⟩
  |none=>none)else none
 |none=>none
def zco(i:Option TI)(ro:Ro)(op:BinOp)(a b:Int):Option Eff:=match b3J op a b with
 |some v=>match i with
  |some _=>some ⟨.sc v,none,[],[]⟩
  |none=>none
 |none=>a3G i ro op (.sc (.int .i64 a)) (.sc (.int .i64 b))
def zcn(i:Option TI)(ro:Ro)(op:BinOp)(x y:Value):Option Eff:=match x with
 | .int .i64 a=>match y with
  | .int .i64 b=>zco i ro op a b
  |y=>a3G i ro op (.sc (.int .i64 a)) (.sc y)
 |x=>a3G i ro op (.sc x) (.sc y)
def b3l(i:Option TI)(ro:Ro)(op:BinOp)(x y:AV):Option Eff:=match x with
 | .sc a=>match y with
  | .sc b=>zcn i ro op a b
  |y=>a3G i ro op (.sc a) y
 |x=>a3G i ro op x y
theorem c1y(i:Option TI)(ro:Ro)(op:BinOp)(x y:AV):b3l i ro op x y=a3G i ro op x y:=by
 have h1: ∀a b,zco i ro op a b=a3G i ro op (.sc (.int .i64 a)) (.sc (.int .i64 b)):=by
  intro a b
  unfold zco
  cases hk:b3J op a b with
  |none=>rfl
  |some v=>
   cases i with
   |none=>rfl
   |some inf=>simp only[a3G,zee,if_true,b1w,c0o hk]
 have h2: ∀a b,zcn i ro op a b=a3G i ro op (.sc a) (.sc b):=by
  intro a b
  unfold zcn
  split
  ·split
   ·exact h1 _ _
   ·rfl
  ·rfl
 unfold b3l
 split
 ·split
  ·exact h2 _ _
  ·rfl
 ·rfl
def zed(ro:Ro)(inf:TI)(s g:Nat)(p:List Nat)(i:Nat):Option Eff:=match ro.cells s g p with
 |some cs=>if inf.isAgg then
   (if i+inf.size≤cs.length then some ⟨.agg (zfi s g p i ((cs.drop i).take inf.size)),none,[],[]⟩else none)
  else match cs[i]? with
   |some c=>some ⟨lift s g (p++ [i]) c,none,[],[]⟩
   |none=>none
 |none=>none
def zcq(inf:TI)(cs:List AV):Option Eff:=if inf.isAgg then
  (if inf.size≤cs.length then some ⟨.agg (cs.take inf.size),none,[],[]⟩else none)
 else match cs with
  |c::_=>some ⟨c,none,[],[]⟩
  | []=>none
def zcp(i:Option TI)(ro:Ro)(x:AV):Option Eff:=match i with
 |some inf=>match x with
  | .ptr s g p i=>zed ro inf s g p i
  | .iptr cs=>zcq inf cs
  |_=>none
 |none=>none
def zeo(i:Option TI)(ro:Ro)(x y:AV):Option Eff:=match i with
 |some inf=>match x with
  | .ptr s g p i=>match ro.cells s g p with
   |some cs=>
    if i+inf.size≤cs.length∧(zem y).length=inf.size∧(zem y).all (if a1L ro s g p then a1n ro else zez)then
     some ⟨.sc undef,some ⟨s,g,p,i,zem y⟩,[],[]⟩
    else none
   |none=>none
  |_=>none
 |none=>none
def zec(i:Option TI)(ro:Ro)(x:AV)(f:Nat):Option Eff:=match i with
 |some inf=>match inf.flds[f]? with
  |some (off,_)=>if inf.isAgg∧zee ro x then match x with
   | .ptr s g p i=>some ⟨.ptr s g p (i+off),none,[],[]⟩
   | .iptr cs=>if off≤cs.length then some ⟨.iptr (cs.drop off),none,[],[]⟩else none
   |_=>none
   else none
  |none=>none
 |none=>none
def a5J(i:Option TI)(ro:Ro)(x ix:AV):Option Eff:=match i with
 |some inf=>match inf.elem,ix with
  |some _,.sc (.int _ i)=>match x with
   | .ref s g p off n=>if 0≤i∧i<n∧(ro.cells s g p).isSome then some ⟨.ptr s g p (off+i.toNat),none,[],[]⟩else none
   | .imm cs=>if 0≤i then(match cs[i.toNat]? with
     |some c=>some ⟨.iptr [c],none,[],[]⟩
     |none=>none)else none
   |_=>none
  |none,.sc (.int _ i)=>match x with
   | .refk k s g n=>(match inf.elk with
    |some (_,k')=>if k'=k∧0≤i∧i<n∧(ro.cells s g []).isSome then some ⟨.ptr s g [] (i.toNat*k),none,[],[]⟩else none
    |none=>none)
   | .immk k n cs=>(match inf.elk with
    |some (_,k')=>if k'=k∧0≤i∧i<n then some ⟨.iptr (cs.drop (i.toNat*k)),none,[],[]⟩else none
    |none=>none)
   | .ptr s g p j=>(match inf.arr with
    |some (n,_)=>if 0≤i∧i<n∧(ro.cells s g p).isSome then some ⟨.ptr s g p (j+i.toNat),none,[],[]⟩else none
    |none=>none)
   | .iptr cs=>(match inf.arr with
    |some (n,_)=>if 0≤i∧i<n∧i≤cs.length then some ⟨.iptr (cs.drop i.toNat),none,[],[]⟩else none
    |none=>none)
   |_=>none
  |_,_=>none
 |none=>none
def c3y(ti:Nat→Option TI)(ro:Ro)(ev:Operand→AV):List Operand→List TypeId→Option Eff
 | [x],[t]=>match ti t with
  |some inf=>match ev x with
   | .ref s g p _ n=>if inf.elem.isSome∧(ro.cells s g p).isSome then some ⟨.sc (.int .i64 n),none,[],[]⟩else none
   | .imm cs=>if inf.elem.isSome then some ⟨.sc (.int .i64 cs.length),none,[],[]⟩else none
   | .sc (.string s)=>if inf.str then some ⟨.sc (.int .i64 s.size),none,[],[]⟩else none
   | .sc (.slice _ n _)=>if inf.elem.isSome then some ⟨.sc (.int .i64 n),none,[],[]⟩else none
   | .refk _ s g n=>if inf.elk.isSome∧(ro.cells s g []).isSome then some ⟨.sc (.int .i64 n),none,[],[]⟩else none
   | .immk _ n _=>if inf.elk.isSome then some ⟨.sc (.int .i64 n),none,[],[]⟩else none
   |_=>none
  |none=>none
 |_,_=>none
def a7a(ti:Nat→Option TI)(ro:Ro)(ev:Operand→AV):List Operand→List TypeId→Option Eff
 | [x],[t]=>match ti t with
  |some inf=>match inf.elem with
   |some el=>match ti el with
    |some ie=>match ev x with
     | .ref s g p off n=>match ro.cells s g p with
      |some cs=>if off+n≤cs.length∧0<n∧a1O (ie.zero.getD 0 undef)=true then some ⟨.tup [],some ⟨s,g,p,off,List.replicate n (.sc (ie.zero.getD 0 undef))⟩,[],[]⟩else none
      |none=>none
     |_=>none
    |none=>none
   |none=>none
  |none=>none
 |_,_=>none
def a6M(ti:Nat→Option TI)(b:Nat)(ro:Ro)(gn:Nat→Nat)(ev:Operand→AV)(c:Call):Option Eff:=match c.callee with
 | .builtin .len=>c3y ti ro ev c.args.toList c.argTypes.toList
 | .builtin .clear=>a7a ti ro ev c.args.toList c.argTypes.toList
 |_=>opC ti b ro gn ev (.call c)
def opK(ti:Nat→Option TI)(b:Nat)(ro:Ro)(gn:Nat→Nat)(ev:Operand→AV)(op:Op):Option Eff:=match op with
 | .move x=>a6P (ev x)
 | .assign x=>a6P (ev x)
 | .pick c x y=>zcm (ev c) (ev x) (ev y)
 | .binOp op t x y _=>b3l (ti t) ro op (ev x) (ev y)
 | .load t x=>zcp (ti t) ro (ev x)
 | .store t x y=>zeo (ti t) ro (ev x) (ev y)
 | .fieldAddr t x f=>zec (ti t) ro (ev x) f
 | .indexAddr t x ix=>a5J (ti t) ro (ev x) (ev ix)
 | .call c=>a6M ti b ro gn ev c
 |op=>opC ti b ro gn ev op
theorem b6g(ti:Nat→Option TI)(b:Nat)(ro:Ro)(gn:Nat→Nat)(ev:Operand→AV)(op:Op):opK ti b ro gn ev op=opC ti b ro gn ev op:=by
 cases op
 case binOp op t x y z=>exact c1y _ _ _ _ _
 case call c=>
  simp only[opK,a6M]
  split
  ·rename_i hc
   simp only[opC,hc]
   match h1:c.args.toList,h2:c.argTypes.toList with
   | [],_=>simp[c3y]
   | [x],[]=>simp[c3y]
   | [x],[t]=>rfl
   | [x],_::_::_=>simp[c3y]
   |_::_::_,_=>simp[c3y]
  ·rename_i hc
   simp only[opC,hc]
   match h1:c.args.toList,h2:c.argTypes.toList with
   | [],_=>simp[a7a]
   | [x],[]=>simp[a7a]
   | [x],[t]=>rfl
   | [x],_::_::_=>simp[a7a]
   |_::_::_,_=>simp[a7a]
  ·rfl
 all_goals rfl
structure HS where
 sl:List AV
 hp:List (Nat×Nat×AV)
 gn:List (Nat×Nat)
def a3N:List (Nat×Nat×AV)→Ro
 | [],_,_=>none
 |(s,g,a)::r,s',g'=>cond (Nat.beq s s') (cond (Nat.beq g g') (some a) (a3N r s' g')) (a3N r s' g')
def a4C:List (Nat×Nat)→Nat→Nat
 | [],_=>0
 |(s,g)::r,s'=>cond (Nat.beq s s') g (a4C r s')
def a3t:List AV→Nat→AV
 | [],_=> .sc undef
 |a::_,0=>a
 |_::r,k+1=>a3t r k
def HS.st(h:HS):St:=⟨a3t h.sl,a3N h.hp,a4C h.gn⟩
def a3A:List AV→Nat→AV→List AV
 | [],0,v=>[v]
 | [],k+1,v=> .sc undef::a3A [] k v
 |_::r,0,v=>v::r
 |a::r,k+1,v=>a::a3A r k v
def b0u:List (Nat×Nat×AV)→Nat→Nat→AV→List (Nat×Nat×AV)
 | [],s,g,a=>[(s,g,a)]
 |(s',g',a')::r,s,g,a=>cond (Nat.beq s s') (cond (Nat.beq g g') ((s',g',a)::r) ((s',g',a')::b0u r s g a)) ((s',g',a')::b0u r s g a)
def b6p:List (Nat×Nat)→Nat→Nat→List (Nat×Nat)
 | [],s,g=>[(s,g)]
 |(s',g')::r,s,g=>cond (Nat.beq s s') ((s',g)::r) ((s',g')::b6p r s g)
theorem a1B{a b:Nat}:Nat.beq a b=true↔a=b:=⟨Nat.eq_of_beq_eq_true,fun h=>by subst h;exact Nat.beq_refl _⟩
theorem a5N: ∀(l:List AV) (k:Nat) (v:AV),a3t (a3A l k v)=upd (a3t l) k v
 | [],0,v=>by funext j;cases j<;>simp[a3A,a3t,upd]
 | [],k+1,v=>by
   funext j
   cases j with
   |zero=>simp[a3A,a3t,upd]
   |succ j=>
     simp only[a3A,a3t,a5N [] k v,upd]
     by_cases e:j=k<;>simp[e]
 |a::r,0,v=>by funext j;cases j<;>simp[a3A,a3t,upd]
 |a::r,k+1,v=>by
   funext j
   cases j with
   |zero=>simp[a3A,a3t,upd]
   |succ j=>
     simp only[a3A,a3t,a5N r k v,upd]
     by_cases e:j=k<;>simp[e]
theorem a8p: ∀(l:List (Nat×Nat×AV)) (s g:Nat) (a:AV),a3N (b0u l s g a)=upr (a3N l) s g a
 | [],s,g,a=>by
   funext s' g'
   simp only[b0u,a3N,upr]
   by_cases h1:s=s'
   · by_cases h2:g=g'
     · simp[h1,h2]
     · have:Nat.beq g g'=false:=by cases h:Nat.beq g g' with|false=>rfl|true=>exact absurd (a1B.1 h) h2
       simp[h1,this,Ne.symm h2]
   · have:Nat.beq s s'=false:=by cases h:Nat.beq s s' with|false=>rfl|true=>exact absurd (a1B.1 h) h1
     simp[this,Ne.symm h1]
 |(s1,g1,a1)::r,s,g,a=>by
   funext s' g'
   have ih:=congrFun (congrFun (a8p r s g a) s') g'
   simp only[b0u]
   cases h1:Nat.beq s s1 with
   |true=>
     have:=a1B.1 h1;subst this
     cases h2:Nat.beq g g1 with
     |true=>
       have:=a1B.1 h2;subst this
       simp only[cond_true,a3N,upr]
       cases h3:Nat.beq s s' with
       |true=>
         have:=a1B.1 h3;subst this
         cases h4:Nat.beq g g' with
         |true=>have:=a1B.1 h4;subst this;simp
         |false=>
           have:g'≠g:=fun e=>by rw[e,Nat.beq_refl]at h4;cases h4
           simp[this]
       |false=>
         have:s'≠s:=fun e=>by rw[e,Nat.beq_refl]at h3;cases h3
         simp[this]
     |false=>
       simp only[cond_true,cond_false,a3N,ih,upr]
       cases h3:Nat.beq s s' with
       |true=>
         have:=a1B.1 h3;subst this
         cases h4:Nat.beq g1 g' with
         |true=>
           have:=a1B.1 h4;subst this
           have:g1≠g:=fun e=>by rw[e,Nat.beq_refl]at h2;cases h2
           simp[this]
         |false=>simp
       |false=>simp
   |false=>
     simp only[cond_false,a3N,ih,upr]
     cases h3:Nat.beq s1 s' with
     |true=>
       have:=a1B.1 h3;subst this
       have:s1≠s:=fun e=>by rw[e,Nat.beq_refl]at h1;cases h1
       cases h4:Nat.beq g1 g'<;>simp[this]
     |false=>simp
theorem b2q: ∀(l:List (Nat×Nat)) (s g:Nat),a4C (b6p l s g)=upg (a4C l) s g
 | [],s,g=>by
   funext s'
   simp only[b6p,a4C,upg]
   by_cases h1:s=s'
   · simp[h1]
   · have:Nat.beq s s'=false:=by cases h:Nat.beq s s' with|false=>rfl|true=>exact absurd (a1B.1 h) h1
     simp[this,Ne.symm h1]
 |(s1,g1)::r,s,g=>by
   funext s'
   have ih:=congrFun (b2q r s g) s'
   simp only[b6p]
   cases h1:Nat.beq s s1 with
   |true=>
     have:=a1B.1 h1;subst this
     simp only[cond_true,a4C,upg]
     cases h3:Nat.beq s s' with
     |true=>have:=a1B.1 h3;subst this;simp
     |false=>
       have:s'≠s:=fun e=>by rw[e,Nat.beq_refl]at h3;cases h3
       simp[this]
   |false=>
     simp only[cond_false,a4C,ih,upg]
     cases h3:Nat.beq s1 s' with
     |true=>
       have:=a1B.1 h3;subst this
       have:s1≠s:=fun e=>by rw[e,Nat.beq_refl]at h1;cases h1
       simp[this]
     |false=>simp
def wrH(hp:List (Nat×Nat×AV))(x:Wr):List (Nat×Nat×AV):=match a3N hp x.s x.g with
 |some a=>b0u hp x.s x.g (a3H (setL x.i x.as) x.p a)
 |none=>hp
def b6A(hp:List (Nat×Nat×AV)):Option Wr→List (Nat×Nat×AV)
 |none=>hp
 |some x=>wrH hp x
def dlH:List (Nat×Nat×AV)→List (Nat×Nat)→List (Nat×Nat×AV)
 |hp,[]=>hp
 |hp,(s,g)::r=>dlH (b0u hp s g .dead) r
def alH:HS→List (Nat×AV)→HS
 |h,[]=>h
 |h,(s,a)::r=>alH {h with hp:=(s,a4C h.gn s+1,a)::h.hp,gn:=b6p h.gn s (a4C h.gn s+1)} r
def HS.eff(h:HS)(e:Eff):HS:=alH {h with hp:=dlH (b6A h.hp e.wr) e.dl} e.al
def HS.put(h:HS)(d:Option Tmp)(v:AV):HS:=match d with
 |some d=>{h with sl:=a3A h.sl d v}
 |none=>h
theorem c3k(hp:List (Nat×Nat×AV))(x:Wr):a3N (wrH hp x)=(a3N hp).wr x:=by
 unfold wrH Ro.wr
 cases a3N hp x.s x.g with
 |none=>rfl
 |some a=>exact a8p _ _ _ _
theorem b8L: ∀(l:List (Nat×Nat)) (hp:List (Nat×Nat×AV)),a3N (dlH hp l)=(a3N hp).dl l
 | [],_=>rfl
 |(s,g)::r,hp=>by simp only[dlH,Ro.dl];rw[b8L r,a8p]
theorem b9k: ∀(l:List (Nat×AV)) (h:HS),(alH h l).st=h.st.al l
 | [],_=>rfl
 |(s,a)::r,h=>by
   simp only[alH,St.al]
   rw[b9k r]
   congr 1
   simp only[HS.st,b2q]
   congr 1
   funext s' g'
   simp only[a3N,upr]
   cases h1:Nat.beq s s' with
   |true=>
     have:=a1B.1 h1;subst this
     cases h2:Nat.beq (a4C h.gn s+1) g' with
     |true=>have:=a1B.1 h2;subst this;simp
     |false=>
       have:g'≠a4C h.gn s+1:=fun e=>by rw[e,Nat.beq_refl]at h2;cases h2
       simp[this]
   |false=>
     have:s'≠s:=fun e=>by rw[e,Nat.beq_refl]at h1;cases h1
     simp[this]
theorem HS.eff_ok(h:HS)(e:Eff):(h.eff e).st=h.st.eff e:=by
 unfold HS.eff St.eff
 rw[b9k]
 congr 1
 simp only[HS.st,b8L]
 congr 2
 cases e.wr with
 |none=>rfl
 |some x=>exact c3k _ _
theorem HS.put_ok(h:HS)(d:Option Tmp)(v:AV):(h.put d v).st=h.st.put d v:=by
 cases d with
 |none=>rfl
 |some d=>simp only[HS.put,HS.st,St.put,a5N]
structure EC where
 call:Nat→List AV→Option AV
 inl:Nat→List AV→List (Nat×Nat×AV)→List (Nat×Nat)→Option (AV×List (Nat×Nat×AV)×List (Nat×Nat))
 isIn:Nat→Bool
def c3G(call:Nat→List AV→Option AV)(b:Nat)(st:St)(f:Nat)(args:List AV):Option Eff:=
 if a0Q args then match call f args with
   |some r=>if a4a r then some ⟨(imp b st.gn r).1,none,[],(imp b st.gn r).2⟩else none
   |none=>none
 else match call f (args.map (ex st.ro 8))with
   |some r=>if a4a r&&noI r then some ⟨(imp b st.gn r).1,none,[],(imp b st.gn r).2⟩else none
   |none=>none
def opE(call:Nat→List AV→Option AV)(ti:Nat→Option TI)(b:Nat)(st:St)(op:Op):Option Eff:=match op with
 | .call c=>match c.callee with
   | .value f=>match st.ev f with
     | .fn f caps=>c3G call b st f (c.args.toList.map st.ev++caps)
     |_=>none
   |_=>a6M ti b st.ro st.gn st.ev c
 |op=>opK ti b st.ro st.gn st.ev op
def inF(E:EC)(h:HS)(op:Op):Option Nat:=match op with
 | .call c=>match c.callee with
   | .value f=>match h.st.ev f with
     | .fn f _=>cond (E.isIn f) (some f) none
     |_=>none
   |_=>none
 |_=>none
def inE(E:EC)(f:Nat)(h:HS)(op:Op):Option (AV×List (Nat×Nat×AV)×List (Nat×Nat)):=match op with
 | .call c=>match c.callee with
   | .value x=>match h.st.ev x with
     | .fn f' caps=>if f'=f then E.inl f' (c.args.toList.map h.st.ev++caps) h.hp h.gn else none
     |_=>none
   |_=>none
 |_=>none
def a4p(E:EC)(ti:Nat→Option TI)(rid:Nat)(ops:Array Oper):List Oper→Nat→HS→Option HS
 | [],_,h=>some h
 |o::rest,i,h=>match zbl ops o h.st with
   |some true=>match inF E h o.op with
    |some f=>match inE E f h o.op with
     |some (r,hp',gn')=>a4p E ti rid ops rest (i+1) ((⟨h.sl,hp',gn'⟩:HS).put o.dst r)
     |none=>none
    |none=>match opE E.call ti (a1F rid i) h.st o.op with
     |some e=>a4p E ti rid ops rest (i+1) ((h.eff e).put o.dst e.v)
     |none=>none
   |some false=>a4p E ti rid ops rest (i+1) (h.put o.dst (.sc undef))
   |none=>none
def a7k(E:EC)(ti:Nat→Option TI)(rid:Nat)(ops:Array Oper):List Oper→Nat→List FP→HS→Option (HS×List FP)
 | [],_,acc,h=>some (h,acc.reverse)
 |o::rest,i,acc,h=>match zbl ops o h.st with
   |some true=>match opE E.call ti (a1F rid i) h.st o.op with
     |some e=>a7k E ti rid ops rest (i+1) (⟨rdR h.st.ro h.st.ev o.op,e.sites⟩::acc) ((h.eff e).put o.dst e.v)
     |none=>none
   |some false=>a7k E ti rid ops rest (i+1) (⟨some [],[]⟩::acc) (h.put o.dst (.sc undef))
   |none=>none
def a3D(body:HS→Option (Exit×HS)):Nat→HS→Option (Exit×HS)
 |0,_=>none
 |n+1,h=>match body h with
   |some (.normal,h')=>a3D body n h'
   |r=>r
def a5V:Nat:=100000
def evC(E:EC)(ti:Nat→Option TI):Code→HS→Option (Exit×HS)
 | .skip,h=>some (.normal,h)
 | .region id ops false,h=>match a4p E ti id ops ops.toList 0 h with
   |some h'=>some (.normal,h')
   |none=>none
 | .region id ops true,h=>match a7k E ti id ops ops.toList 0 [] h with
   |some (h',fp)=>if okD ops fp then some (.normal,h')else none
   |none=>none
 | .seq a b,h=>match evC E ti a h with
   |some (.normal,h')=>evC E ti b h'
   |r=>r
 | .cond c x y,h=>match h.st.ev c with
   | .sc (.bool true)=>evC E ti x h
   | .sc (.bool false)=>evC E ti y h
   |_=>none
 | .block id c,h=>match evC E ti c h with
   |some (.exit j,h')=>if j=id then some (.normal,h')else some (.exit j,h')
   |r=>r
 | .loop c,h=>a3D (evC E ti c) a5V h
 | .exit id,h=>some (.exit id,h)
 | .ret,h=>some (.ret,h)
 |_,_=>none
def a7s(P:Program)(ti:Nat→Option TI)(E:EC)(f:Nat)(args:List AV):Option AV:=match P.funcs[f]? with
 |some fn=>match fn.body with
   | some code => if !(fn.name == "runtime.NumGoroutine") && a1z fn.ntmps code && decide (args.length ≤ fn.ntmps) then (match evC E ti code ⟨args, [], []⟩ with
     |some (.normal,h)=>match a1Z ti fn.results.toList h.st with
       |some r=>if a0C r then some r else none
       |none=>none
     |some (.ret,h)=>match a1Z ti fn.results.toList h.st with
       |some r=>if a0C r then some r else none
       |none=>none
     |_=>none)else none
   |none=>none
 |none=>none
def c0l(P:Program)(ti:Nat→Option TI)(E:EC)(f:Nat)(args:List AV)(hp:List (Nat×Nat×AV))(gn:List (Nat×Nat)):Option (AV×List (Nat×Nat×AV)×List (Nat×Nat)):=match P.funcs[f]? with
 |some fn=>match fn.body with
   | some code => if !(fn.name == "runtime.NumGoroutine") && a1z fn.ntmps code && decide (args.length ≤ fn.ntmps) then (match evC E ti code ⟨args, hp, gn⟩ with
     |some (.normal,h)=>match a1H ti h.st fn.results.toList with
       |some xs=>some (a3a xs,h.hp,h.gn)
       |none=>none
     |some (.ret,h)=>match a1H ti h.st fn.results.toList with
       |some xs=>some (a3a xs,h.hp,h.gn)
       |none=>none
     |_=>none)else none
   |none=>none
 |none=>none
def b2P(P:Program)(ti:Nat→Option TI)(K:Nat→List AV→Option AV)(isIn:Nat→Bool):Nat→EC
 |0=>⟨K,fun _ _ _ _=>none,isIn⟩
 |n+1=>⟨fun f args=>match K f args with
   |some r=>some r
   |none=>a7s P ti (b2P P ti K isIn n) f args,fun f args hp gn=>c0l P ti (b2P P ti K isIn n) f args hp gn,isIn⟩
def b9v(P:Program)(ti:Nat→Option TI)(K:Nat→List AV→Option AV)(isIn:Nat→Bool)(n:Nat):Nat→List AV→Option AV:=(b2P P ti K isIn n).call
section
variable{C:Cfg}{call:Nat→List AV→Option AV}{E:EC}
theorem b9a(hc: ∀f args r,call f args=some r→a0d C.P f args r){b:Nat}{st:St}{op:Op}{e:Eff}(h:opE call C.ti b st op=some e):opR C b st op e:=by
 unfold opE at h
 unfold opR
 split at h
 · rename_i cl
   split at h
   · rename_i f hf
     simp only[hf]
     split at h
     · rename_i f' caps hfe
       simp only[hfe]
       unfold c3G at h
       unfold b2H
       split at h
       · rename_i hp
         rw[if_pos hp]
         split at h
         · rename_i r hr
           split at h
           · rename_i hi
             exact⟨r,hc _ _ _ hr,hi,(Option.some.inj h).symm⟩
           · cases h
         · cases h
       · rename_i hp
         rw[if_neg hp]
         split at h
         · rename_i r hr
           split at h
           · rename_i hi
             simp only[Bool.and_eq_true]at hi
             exact⟨r,hc _ _ _ hr,hi.1,hi.2,(Option.some.inj h).symm⟩
           · cases h
         · cases h
     · cases h
   · rename_i hne
     simp only
     have hk:a6M C.ti b st.ro st.gn st.ev cl=opC C.ti b st.ro st.gn st.ev (.call cl):=b6g C.ti b st.ro st.gn st.ev (.call cl)
     rw[hk]at h
     cases hcl:cl.callee with
     |value f=>exact absurd hcl (hne f)
     |invoke r m=>exact h
     |builtin bi=>exact h
 · rename_i hne
   rw[b6g]at h
   split
   · rename_i cl;exact absurd rfl (hne cl)
   · exact h
theorem a5S(hc: ∀f args r,E.call f args=some r→a0d C.P f args r)(hi: ∀f args hp gn r hp' gn',E.inl f args hp gn=some (r,hp',gn')→C.inl f args (a3N hp) (a4C gn) (fun a b c=>a=r∧b=a3N hp'∧c=a4C gn'))(rid:Nat)(ops:Array Oper): ∀(l:List Oper) (i:Nat) {h h':HS} {Q:St→Prop},a4p E C.ti rid ops l i h=some h'→Q h'.st→a6T C rid ops l i Q h.st
 | [],i,h,h',Q,he,hq=>by simp only[a4p,Option.some.injEq]at he;subst he;exact hq
 |o::rest,i,h,h',Q,he,hq=>by
   simp only[a4p]at he
   simp only[a6T]
   cases hw:zbl ops o h.st with
   |none=>simp[hw]at he
   |some t=>
     cases t
     · simp only[hw]at he
       simp only
       rw[←HS.put_ok]
       exact a5S hc hi rid ops rest (i+1) he hq
     · simp only[hw]at he
       cases hif:inF E h o.op with
       |some f=>
         simp only[hif]at he
         cases hie:inE E f h o.op with
         |none=>simp[hie]at he
         |some q=>
           obtain⟨r,hp',gn'⟩:=q
           simp only[hie]at he
           refine .inr ⟨fun a b c=>a=r∧b=a3N hp'∧c=a4C gn',.inl ?_,?_⟩
           · unfold inE at hie
             unfold inR
             split at hie
             · rename_i cl hcl
               simp only[hcl]
               split at hie
               · rename_i x hx
                 simp only[hx]
                 split at hie
                 · rename_i f' caps hfe
                   simp only[hfe]
                   split at hie
                   · exact hi _ _ _ _ _ _ _ hie
                   · cases hie
                 · cases hie
               · cases hie
             · cases hie
           · rintro _ _ _ ⟨rfl,rfl,rfl⟩
             have e1:(⟨h.st.sl,a3N hp',a4C gn'⟩:St)=(⟨h.sl,hp',gn'⟩:HS).st:=rfl
             rw[e1, ←HS.put_ok]
             exact a5S hc hi rid ops rest (i+1) he hq
       |none=>
        simp only[hif]at he
        cases ho:opE E.call C.ti (a1F rid i) h.st o.op with
        |none=>simp[ho]at he
        |some e=>
          simp only[ho]at he
          refine .inl ⟨e,b9a hc ho,?_⟩
          rw[←HS.eff_ok, ←HS.put_ok]
          exact a5S hc hi rid ops rest (i+1) he hq
theorem a6r(hc: ∀f args r,E.call f args=some r→a0d C.P f args r)(hi: ∀f args hp gn r hp' gn',E.inl f args hp gn=some (r,hp',gn')→C.inl f args (a3N hp) (a4C gn) (fun a b c=>a=r∧b=a3N hp'∧c=a4C gn'))(rid:Nat)(ops:Array Oper): ∀(l:List Oper) (i:Nat) {acc fp:List FP} {h h':HS} {Q:St→List FP→Prop},a7k E C.ti rid ops l i acc h=some (h',fp)→Q h'.st fp→a7j C rid ops l i acc Q h.st
 | [],i,acc,fp,h,h',Q,he,hq=>by
   simp only[a7k,Option.some.injEq,Prod.mk.injEq]at he
   obtain⟨rfl,rfl⟩:=he
   exact hq
 |o::rest,i,acc,fp,h,h',Q,he,hq=>by
   simp only[a7k]at he
   simp only[a7j]
   cases hw:zbl ops o h.st with
   |none=>simp[hw]at he
   |some t=>
     cases t
     · simp only[hw]at he
       simp only
       rw[←HS.put_ok]
       exact a6r hc hi rid ops rest (i+1) he hq
     · simp only[hw]at he
       cases ho:opE E.call C.ti (a1F rid i) h.st o.op with
       |none=>simp[ho]at he
       |some e=>
         simp only[ho]at he
         refine⟨e,b9a hc ho,?_⟩
         rw[←HS.eff_ok, ←HS.put_ok]
         exact a6r hc hi rid ops rest (i+1) he hq
theorem a4G(rid:Nat)(ops:Array Oper)(fin:List FP): ∀(l:List Oper) (i:Nat) {Q Q':St→Prop} {st:St},(∀st,Q st→Q' st)→a9C C rid ops fin l i Q st→a9C C rid ops fin l i Q' st:=by
 intro l
 induction l with
 |nil=>intro i Q Q' st hq h;exact hq _ h
 |cons o l ih=>
   intro i Q Q' st hq h
   simp only[a9C]at h ⊢
   revert h
   cases zbl ops o st with
   |none=>exact fun h=>h
   |some t=>
     cases t
     · exact fun h=>⟨h.1,ih _ hq h.2⟩
     · rintro(⟨e,h1,h2,h3⟩|⟨Po,R,W,h1,h2,h3⟩)
       · exact .inl ⟨e,h1,h2,ih _ hq h3⟩
       · exact .inr ⟨Po,R,W,h1,h2,fun r ro' gn' hP=>ih _ hq (h3 r ro' gn' hP)⟩
theorem a7n: ∀(code:Code) {Q Q':Exit→St→Prop} {st:St},(∀e st,Q e st→Q' e st)→a4I C code Q st→a4I C code Q' st:=by
 have hops: ∀(rid:Nat) (ops:Array Oper) (l:List Oper) (i:Nat) {Q Q':St→Prop} {st:St},(∀st,Q st→Q' st)→a6T C rid ops l i Q st→a6T C rid ops l i Q' st:=by
   intro rid ops l
   induction l with
   |nil=>intro i Q Q' st hq h;exact hq _ h
   |cons o l ih=>
     intro i Q Q' st hq h
     simp only[a6T]at h ⊢
     revert h
     cases zbl ops o st with
     |none=>exact fun h=>h
     |some t=>
       cases t
       · exact fun h=>ih _ hq h
       · rintro(⟨e,h1,h2⟩|⟨Po,h1,h2⟩)
         · exact .inl ⟨e,h1,ih _ hq h2⟩
         · exact .inr ⟨Po,h1,fun r ro' gn' hP=>ih _ hq (h2 r ro' gn' hP)⟩
 have hopsD: ∀(rid:Nat) (ops:Array Oper) (l:List Oper) (i:Nat) (acc:List FP) {Q Q':St→List FP→Prop} {st:St},(∀st fp,Q st fp→Q' st fp)→a7j C rid ops l i acc Q st→a7j C rid ops l i acc Q' st:=by
   intro rid ops l
   induction l with
   |nil=>intro i acc Q Q' st hq h;exact hq _ _ h
   |cons o l ih=>
     intro i acc Q Q' st hq h
     simp only[a7j]at h ⊢
     revert h
     cases zbl ops o st with
     |none=>exact fun h=>h
     |some t=>
       cases t
       · exact fun h=>ih _ _ hq h
       · rintro⟨e,h1,h2⟩;exact⟨e,h1,ih _ _ hq h2⟩
 intro code
 induction code with
 |region id ops d=>
   intro Q Q' st hq h
   cases d with
   |false=>exact hops _ _ _ _ (fun st h=>hq _ _ h) h
   |true=>
     rcases h with h|⟨hv,fin,h1,h2,h3⟩|⟨Q0,h1,h2⟩
     · exact .inl (hopsD _ _ _ _ _ (fun st fp h=>⟨h.1,hq _ _ h.2⟩) h)
     · exact .inr (.inl ⟨hv,fin,h1,h2,a4G _ _ _ _ _ (fun st h=>hq _ _ h) h3⟩)
     · exact .inr (.inr ⟨Q0,h1,fun e st' k=>hq _ _ (h2 e st' k)⟩)
 |seq x y ihx ihy=>
   intro Q Q' st hq h
   refine ihx ?_ h
   intro e st h
   cases e<;>first|exact ihy hq h|exact hq _ _ h
 |cond c x y ihx ihy=>
   intro Q Q' st hq h
   obtain⟨t,h1,h2,h3⟩:=h
   exact⟨t,h1,fun ht=>ihx hq (h2 ht),fun ht=>ihy hq (h3 ht)⟩
 |block id x ih=>
   intro Q Q' st hq h
   refine ih ?_ h
   intro e st h
   cases e with
   |exit j=>simp only at h ⊢;split<;>rename_i hj<;>(first|rw[if_pos hj]at h|rw[if_neg hj]at h)<;>exact hq _ _ h
   |_=>exact hq _ _ h
 |loop x ih=>
   intro Q Q' st hq h
   obtain⟨st0,hG,I,n,h1,h2⟩:=h
   refine⟨st0,hG,I,n,h1,fun n st' hI=>ih ?_ (h2 n st' hI)⟩
   intro e st h
   cases e<;>first|exact h|exact hq _ _ h
 |skip=>intro Q Q' st hq h;exact hq _ _ h
 |exit id=>intro Q Q' st hq h;exact hq _ _ h
 |ret=>intro Q Q' st hq h;exact hq _ _ h
 |rangeFunc g ps x y=>
   intro Q Q' st hq h
   obtain⟨Q0,h1,h2⟩:=h
   exact⟨Q0,h1,fun e st' h3=>hq _ _ (h2 e st' h3)⟩
 |_=>intros;first|assumption|(rename_i h;exact h.elim)
theorem b1X {f : Nat} {fn : Func} {code : Code} {args : List AV} {r : AV} {ro ro' : Ro} {gn gn' : Nat → Nat} (T : TOK C.P C.ti) (hI : a4w C) (hm : C.P.follows .mixedOrders = true) (hf : C.P.funcs[f]? = some fn) (hb : fn.body = some code) (hname : (fn.name == "runtime.NumGoroutine") = false)
   (hd:a1z fn.ntmps code=true) (hp:args.length≤fn.ntmps)
   (h:a4I C code (fun e st=>(e= .normal∨e= .ret)∧(∃xs,a1H C.ti st fn.results.toList=some xs∧r=a3a xs)∧st.ro=ro'∧st.gn=gn') ⟨fun k=>args.getD k (.sc undef),ro,gn⟩):a9B C.P f args ro gn r ro' gn':=
 (a9u T hI hm hf hb hname hd hp (a7n code (fun e st ⟨h1,⟨xs,h2,h3⟩,h4,h5⟩=>⟨h1,xs,h2,h3.symm,h4,h5⟩) h)).toOK
theorem b8y(hc: ∀f args r,E.call f args=some r→a0d C.P f args r)(hi: ∀f args hp gn r hp' gn',E.inl f args hp gn=some (r,hp',gn')→C.inl f args (a3N hp) (a4C gn) (fun a b c=>a=r∧b=a3N hp'∧c=a4C gn')): ∀(code:Code) {h h':HS} {e:Exit} {Q:Exit→St→Prop},evC E C.ti code h=some (e,h')→Q e h'.st→a4I C code Q h.st:=by
 intro code
 induction code with
 |skip=>intro h h' e Q he hq;simp only[evC,Option.some.injEq,Prod.mk.injEq]at he;obtain⟨rfl,rfl⟩:=he;exact hq
 |exit id=>intro h h' e Q he hq;simp only[evC,Option.some.injEq,Prod.mk.injEq]at he;obtain⟨rfl,rfl⟩:=he;exact hq
 |ret=>intro h h' e Q he hq;simp only[evC,Option.some.injEq,Prod.mk.injEq]at he;obtain⟨rfl,rfl⟩:=he;exact hq
 |region id ops d=>
   intro h h' e Q he hq
   cases d with
   |false=>
     simp only[evC]at he
     split at he
     · rename_i h1 hev
       simp only[Option.some.injEq,Prod.mk.injEq]at he
       obtain⟨rfl,rfl⟩:=he
       exact a5S hc hi id ops _ 0 hev hq
     · cases he
   |true=>
     simp only[evC]at he
     split at he
     · rename_i h1 fp hev
       split at he
       · rename_i hok
         simp only[Option.some.injEq,Prod.mk.injEq]at he
         obtain⟨rfl,rfl⟩:=he
         exact .inl (a6r hc hi id ops _ 0 hev ⟨hok,hq⟩)
       · cases he
     · cases he
 |seq x y ihx ihy=>
   intro h h' e Q he hq
   simp only[evC]at he
   cases hx:evC E C.ti x h with
   |none=>simp[hx]at he
   |some q=>
     obtain⟨e1,h1⟩:=q
     cases e1 with
     |normal=>simp only[hx]at he;exact ihx hx (ihy he hq)
     |_=>simp only[hx,Option.some.injEq,Prod.mk.injEq]at he;obtain⟨rfl,rfl⟩:=he;exact ihx hx hq
 |cond c x y ihx ihy=>
   intro h h' e Q he hq
   simp only[evC]at he
   split at he
   · rename_i hc';exact⟨true,hc',fun _=>ihx he hq,fun h=>by cases h⟩
   · rename_i hc';exact⟨false,hc',fun h=>(by cases h),fun _=>ihy he hq⟩
   · cases he
 |block id x ih=>
   intro h h' e Q he hq
   simp only[evC]at he
   cases hx:evC E C.ti x h with
   |none=>simp[hx]at he
   |some q=>
     obtain⟨e1,h1⟩:=q
     cases e1 with
     |exit j=>
       simp only[hx]at he
       refine ih hx ?_
       simp only
       split at he
       · rename_i hj
         simp only[Option.some.injEq,Prod.mk.injEq]at he;obtain⟨rfl,rfl⟩:=he
         rw[if_pos hj];exact hq
       · rename_i hj
         simp only[Option.some.injEq,Prod.mk.injEq]at he;obtain⟨rfl,rfl⟩:=he
         rw[if_neg hj];exact hq
     |_=>simp only[hx,Option.some.injEq,Prod.mk.injEq]at he;obtain⟨rfl,rfl⟩:=he;exact ih hx hq
 |loop x ih=>
   intro h h' e Q he hq
   simp only[evC]at he
   refine⟨_,.refl,fun k st=> ∃h1,h1.st=st∧a3D (evC E C.ti x) k h1=some (e,h'),a5V,⟨h,rfl,he⟩,?_⟩
   rintro k st ⟨h1,rfl,hl⟩
   cases k with
   |zero=>simp[a3D]at hl
   |succ k=>
     simp only[a3D]at hl
     cases hx:evC E C.ti x h1 with
     |none=>simp[hx]at hl
     |some q=>
       obtain⟨e1,h2⟩:=q
       cases e1 with
       |normal=>simp only[hx]at hl;exact ih hx ⟨k,Nat.lt_succ_self k,h2,rfl,hl⟩
       |_=>simp only[hx,Option.some.injEq,Prod.mk.injEq]at hl;obtain⟨rfl,rfl⟩:=hl;exact ih hx hq
 |_=>intro h h' e Q he hq;simp[evC]at he
theorem b5m(l:List AV):a3t l=fun k=>l.getD k (.sc undef):=by
 induction l with
 |nil=>funext k;cases k<;>rfl
 |cons a l ih=>funext k;cases k with
   |zero=>rfl
   |succ k=>simp only[a3t,ih];rfl
theorem b1L(T:TOK C.P C.ti)(hI:a4w C)(hm:C.P.follows .mixedOrders=true)(hc: ∀f args r,E.call f args=some r→a0d C.P f args r)(hi: ∀f args hp gn r hp' gn',E.inl f args hp gn=some (r,hp',gn')→C.inl f args (a3N hp) (a4C gn) (fun a b c=>a=r∧b=a3N hp'∧c=a4C gn')){f:Nat}{args:List AV}{r:AV}(h:a7s C.P C.ti E f args=some r):a0d C.P f args r:=by
 unfold a7s at h
 cases hf:C.P.funcs[f]? with
 |none=>simp[hf]at h
 |some fn=>
   cases hb:fn.body with
   |none=>simp[hf,hb]at h
   |some code=>
     simp only[hf,hb]at h
     split at h
     · rename_i hcnd
       simp only[Bool.and_eq_true,Bool.not_eq_true',decide_eq_true_eq]at hcnd
       obtain⟨⟨h1,h2⟩,h3⟩:=hcnd
       have hst:(⟨args,[],[]⟩:HS).st=st0 args:=by
         simp only[HS.st,st0,b5m];rfl
       have fin: ∀e h',(e= .normal∨e= .ret)→evC E C.ti code ⟨args,[],[]⟩=some (e,h')→(match a1Z C.ti fn.results.toList h'.st with|some r=>if a0C r=true then some r else none|none=>none)=some r→a0d C.P f args r:=by
         intro e h' he hev hr
         cases hrr:a1Z C.ti fn.results.toList h'.st with
         |none=>simp[hrr]at hr
         |some r'=>
           simp only[hrr]at hr
           split at hr
           · rename_i hn
             simp only[Option.some.injEq]at hr
             subst hr
             refine a7g T hI hm hf hb h1 h2 h3 hn ?_
             rw[←hst]
             exact b8y hc hi code hev ⟨he,hrr⟩
           · cases hr
       split at h
       · rename_i h' hev;exact fin _ _ (.inl rfl) hev h
       · rename_i h' hev;exact fin _ _ (.inr rfl) hev h
       · cases h
     · cases h
theorem b6R(T:TOK C.P C.ti)(hI:a4w C)(hm:C.P.follows .mixedOrders=true)(hc: ∀f args r,E.call f args=some r→a0d C.P f args r)(hi: ∀f args hp gn r hp' gn',E.inl f args hp gn=some (r,hp',gn')→C.inl f args (a3N hp) (a4C gn) (fun a b c=>a=r∧b=a3N hp'∧c=a4C gn'))
   {f:Nat} {args:List AV} {hp hp':List (Nat×Nat×AV)} {gn gn':List (Nat×Nat)} {r:AV} (h:c0l C.P C.ti E f args hp gn=some (r,hp',gn')):a9B C.P f args (a3N hp) (a4C gn) r (a3N hp') (a4C gn'):=by
 unfold c0l at h
 cases hf:C.P.funcs[f]? with
 |none=>simp[hf]at h
 |some fn=>
   cases hb:fn.body with
   |none=>simp[hf,hb]at h
   |some code=>
     simp only[hf,hb]at h
     split at h
     · rename_i hcnd
       simp only[Bool.and_eq_true,Bool.not_eq_true',decide_eq_true_eq]at hcnd
       obtain⟨⟨h1,h2⟩,h3⟩:=hcnd
       have hst:(⟨args,hp,gn⟩:HS).st=⟨fun k=>args.getD k (.sc undef),a3N hp,a4C gn⟩:=by
         simp only[HS.st,b5m]
       have fin: ∀e h',(e= .normal∨e= .ret)→evC E C.ti code ⟨args,hp,gn⟩=some (e,h')→(match a1H C.ti h'.st fn.results.toList with|some xs=>some (a3a xs,h'.hp,h'.gn)|none=>none)=some (r,hp',gn')→a9B C.P f args (a3N hp) (a4C gn) r (a3N hp') (a4C gn'):=by
         intro e h' he hev hr
         cases hrr:a1H C.ti h'.st fn.results.toList with
         |none=>simp[hrr]at hr
         |some xs=>
           simp only[hrr,Option.some.injEq,Prod.mk.injEq]at hr
           obtain⟨rfl,rfl,rfl⟩:=hr
           refine b1X T hI hm hf hb h1 h2 h3 ?_
           rw[←hst]
           exact b8y hc hi code hev ⟨he,⟨xs,hrr,rfl⟩,rfl,rfl⟩
       split at h
       · rename_i h' hev;exact fin _ _ (.inl rfl) hev h
       · rename_i h' hev;exact fin _ _ (.inr rfl) hev h
       · cases h
     · cases h
def b5t(P:Program)(ti:Nat→Option TI):Cfg:=⟨P,ti,fun f args ro gn Po=>InS P f args ro gn Po,fun code Q st=>c3i P code Q st,fun op ev ro gn Po=>OpS P op ev ro gn Po⟩
theorem a2I(P:Program)(ti:Nat→Option TI):a4w (b5t P ti):=⟨fun _ _ _ _ _ h=>h,fun _ _ _ h=>h,fun _ _ _ _ _ h=>h⟩
theorem b0Z{P:Program}{ti:Nat→Option TI}(T:TOK P ti)(hm:P.follows .mixedOrders=true){K:Nat→List AV→Option AV}{isIn:Nat→Bool}(hK: ∀f args r,K f args=some r→a0d P f args r): ∀(n:Nat),
   (∀f args r,(b2P P ti K isIn n).call f args=some r→a0d P f args r)∧(∀f args hp gn r hp' gn',(b2P P ti K isIn n).inl f args hp gn=some (r,hp',gn')→a9B P f args (a3N hp) (a4C gn) r (a3N hp') (a4C gn'))
 |0=>⟨hK,fun _ _ _ _ _ _ _ h=>by cases h⟩
 |n+1=>by
   have ih:=b0Z T hm (isIn:=isIn) hK n
   refine⟨fun f args r h=>?_,fun f args hp gn r hp' gn' h=>?_⟩
   · simp only[b2P]at h
     cases hk:K f args with
     |some r'=>simp only[hk,Option.some.injEq]at h;subst h;exact hK _ _ _ hk
     |none=>simp only[hk]at h;exact b1L (C:=b5t P ti) T (a2I P ti) hm ih.1 (fun f args hp gn r hp' gn' h=>(ih.2 f args hp gn r hp' gn' h).toS) h
   · exact b6R (C:=b5t P ti) T (a2I P ti) hm ih.1 (fun f args hp gn r hp' gn' h=>(ih.2 f args hp gn r hp' gn' h).toS) h
theorem b6C{P:Program}{ti:Nat→Option TI}(T:TOK P ti)(hm:P.follows .mixedOrders=true){K:Nat→List AV→Option AV}{isIn:Nat→Bool}(hK: ∀f args r,K f args=some r→a0d P f args r){n f:Nat}{args:List AV}{r:AV}(h:b9v P ti K isIn n f args=some r):a0d P f args r:=
 (b0Z T hm hK n).1 _ _ _ h
end
def b7P(P:Program)(f:Field):Bool:=match P.info? f.type with
 |some inf=>inf.size !=0
 |none=>false
def b1t(inf:TypeInfo):TypeDesc→Bool
 | .struct _=>true
 | .array n _=>inf.size==n
 |_=>inf.size==1
def c2k:TypeDesc→Bool
 | .int .i64=>true
 |_=>false
def c2p(P:Program)(e:Nat):Bool:=match P.info? e,P.underlying e with
 |some ie,some d=>ie.size==1&&c2k d
 |_,_=>false
def b1j(P:Program):TypeDesc→Bool
 | .array _ e=>c2p P e
 |_=>true
def b3v(P:Program):TypeDesc→Bool
 | .struct fs=>fs.toList.all (b7P P)
 |_=>true
def okT(P:Program)(t:Nat):Option (TypeInfo×TypeDesc×Value):=match P.info? t,P.underlying t with
 |some inf,some d=>match inf.zero with
   |some z=>if b1t inf d&&decide (z.cells.toList.length≤65536)&&b3v P d&&b1j P d then some (inf,d,z)else none
   |none=>none
 |_,_=>none
def tiR(P:Program)(inf:TypeInfo)(d:TypeDesc)(z:Value):TI:=
   { size := inf.size
     isAgg:=match d with| .struct _=>true| .array _ _=>true|_=>false
     zero:=z.cells.toList
     elem:=match d with
       | .slice e=>match okT P e with
         |some (ie,_,ze)=>if ie.size==1&&decide (ie.bytes≤1024)&&(ze.cells.size==1)then some e else none
         |none=>none
       |_=>none
     flds:=match d with| .struct fs=>fs.toList.map fun f=>(f.offset,f.type)|_=>[]
     ik:=match d with| .int k=>some k|_=>none
     str:=match d with| .string=>true|_=>false
     bl:=match d with| .bool=>true|_=>false
     elk:=match d with
       | .slice e=>match okT P e with
         |some (ie,_,ze)=>if ie.size !=1&&(decide (0<ie.size)&&decide (ie.size≤64))&&decide (ie.bytes≤1024)&&(ze.cells.size==ie.size)then some (e,ie.size)else none
         |none=>none
       |_=>none
     arr := match d with | .array n e => some (n, e) | _ => none }
def tiG(P:Program)(t:Nat):Option TI:=match okT P t with
 |some (inf,d,z)=>some (tiR P inf d z)
 |none=>none
theorem a4R{P:Program}{t:Nat}{inf:TypeInfo}{d:TypeDesc}{z:Value}(h:okT P t=some (inf,d,z)):
   P.info? t=some inf∧P.underlying t=some d∧inf.zero=some z∧b1t inf d=true∧z.cells.toList.length≤65536∧(∀fs,d= .struct fs→ ∀f,f∈fs.toList→b7P P f=true)∧b1j P d=true:=by
 unfold okT at h
 cases hi:P.info? t with
 |none=>simp[hi]at h
 |some inf'=>
   cases hu:P.underlying t with
   |none=>simp[hi,hu]at h
   |some d'=>
     cases hz:inf'.zero with
     |none=>simp[hi,hu,hz]at h
     |some z'=>
       simp only[hi,hu,hz]at h
       by_cases hc:(b1t inf' d'&&decide (z'.cells.toList.length≤65536)&&b3v P d'&&b1j P d')=true
       · rw[if_pos hc]at h
         simp only[Option.some.injEq,Prod.mk.injEq]at h
         obtain⟨rfl,rfl,rfl⟩:=h
         simp only[Bool.and_eq_true,decide_eq_true_eq]at hc
         refine⟨rfl,rfl,hz,hc.1.1.1,hc.1.1.2,?_,hc.2⟩
         rintro fs rfl f hf
         exact List.all_eq_true.1 hc.1.2 f hf
       · rw[if_neg hc]at h;cases h
theorem b8b{xs:Array Value}(h:xs.size=1):xs= #[xs.toList.getD 0 undef]:=by
 obtain⟨l⟩:=xs
 match l,h with
 | [x],_=>rfl
theorem a6F(P:Program):TOK P (tiG P):=by
 refine⟨fun t i h=>?_⟩
 unfold tiG at h
 cases hk:okT P t with
 |none=>simp[hk]at h
 |some q=>
   obtain⟨inf,d,z⟩:=q
   simp only[hk,Option.some.injEq]at h
   obtain⟨h1,h2,h3,h4,h5,h6,h7⟩:=a4R hk
   subst h
   unfold tiR
   refine⟨?_,?_,⟨inf,z,h1,rfl,h3,rfl⟩,?_,?_,?_,?_,h5,?_,?_,?_,?_⟩
   · intro ha har
     cases d<;>simp only[reduceCtorEq,Bool.false_eq_true]at ha har
     rename_i fs
     refine⟨fs,h2,?_⟩
     intro k off ft hf
     simp only[List.getElem?_map,Option.map_eq_some_iff,Prod.mk.injEq]at hf
     obtain⟨f,hf1,rfl,rfl⟩:=hf
     have hm:f∈fs.toList:=List.mem_of_getElem? hf1
     have hfo:=h6 fs rfl f hm
     unfold b7P at hfo
     cases hi:P.info? f.type with
     |none=>simp[hi]at hfo
     |some fin=>
       simp only[hi]at hfo
       refine⟨f,fin,by simpa using hf1,rfl,rfl,rfl,by simpa using hfo,?_⟩
       intro fi hfi
       unfold tiG at hfi
       cases hk2:okT P f.type with
       |none=>simp[hk2]at hfi
       |some q=>
         obtain⟨inf2,d2,z2⟩:=q
         simp only[hk2,Option.some.injEq]at hfi
         have:=(a4R hk2).1
         rw[hi]at this
         simp only[Option.some.injEq]at this
         subst this
         rw[←hfi];rfl
   · intro ha
     refine⟨d,h2,?_,?_⟩
     · rintro fs rfl;simp at ha
     · rintro n e rfl;simp at ha
   · intro e he
     cases d<;>simp only[reduceCtorEq]at he
     rename_i e'
     cases hk2:okT P e' with
     |none=>simp[hk2]at he
     |some q=>
       obtain⟨ie,d2,ze⟩:=q
       simp only[hk2]at he
       by_cases hc:(ie.size==1&&decide (ie.bytes≤1024)&&(ze.cells.size==1))=true
       · rw[if_pos hc]at he
         simp only[Option.some.injEq]at he
         subst he
         simp only[Bool.and_eq_true,decide_eq_true_eq,beq_iff_eq]at hc
         obtain⟨g1,g2,g3,g4,g5,g6,_⟩:=a4R hk2
         refine⟨h2,tiR P ie d2 ze,ie,ze,?_,g1,hc.1.1,hc.1.2,g3,?_⟩
         · unfold tiG;simp only[hk2]
         · exact b8b hc.2
       · rw[if_neg hc]at he;cases he
   · intro k hk'
     cases d<;>simp only[reduceCtorEq,Option.some.injEq]at hk'
     subst hk';exact h2
   · intro hs
     cases d<;>simp only[Bool.false_eq_true]at hs
     exact h2
   · intro hs
     cases d<;>simp only[Bool.false_eq_true]at hs
     exact h2
   · intro fs hfs f hf
     rw[h2]at hfs
     simp only[Option.some.injEq]at hfs
     have hfo:=h6 fs hfs f hf
     unfold b7P at hfo
     cases hi:P.info? f.type with
     |none=>simp[hi]at hfo
     |some fin=>exact⟨fin,rfl⟩
   · intro ha
     cases d<;>simp only[b1t,beq_iff_eq]at h4 ha<;>first|exact h4|cases ha
   · intro n e har
     cases d<;>simp only[reduceCtorEq,Option.some.injEq,Prod.mk.injEq]at har
     obtain⟨rfl,rfl⟩:=har
     refine⟨rfl,rfl,h2,?_⟩
     simp only[b1j,c2p]at h7
     rename_i n' e'
     cases hi:P.info? e' with
     |none=>simp[hi]at h7
     |some ie=>
       cases hu:P.underlying e' with
       |none=>simp[hi,hu]at h7
       |some de=>
         simp only[hi,hu,Bool.and_eq_true,beq_iff_eq]at h7
         obtain⟨h71,h72⟩:=h7
         have hde:de= .int .i64:=by
           cases de<;>simp[c2k]at h72
           rename_i k;cases k<;>simp[]at h72;rfl
         refine⟨by rw[hde],ie,rfl,h71,fun fi hfi=>?_⟩
         unfold tiG at hfi
         cases hk2:okT P e' with
         |none=>simp[hk2]at hfi
         |some q=>
           obtain⟨inf2,d2,z2⟩:=q
           simp only[hk2,Option.some.injEq]at hfi
           have:=(a4R hk2).1
           rw[hi]at this
           simp only[Option.some.injEq]at this
           subst this
           rw[←hfi];exact h71
   · intro e k hek
     cases d<;>simp only[reduceCtorEq]at hek
     rename_i e'
     cases hk2:okT P e' with
     |none=>simp[hk2]at hek
     |some q=>
       obtain⟨ie,d2,ze⟩:=q
       simp only[hk2]at hek
       split at hek
       · rename_i hc
         simp only[Option.some.injEq,Prod.mk.injEq]at hek
         obtain⟨rfl,rfl⟩:=hek
         simp only[Bool.and_eq_true,decide_eq_true_eq,beq_iff_eq]at hc
         obtain⟨g1,g2,g3,g4,g5,g6,_⟩:=a4R hk2
         exact⟨h2,ie,ze,g1,rfl,hc.1.1.2.1,hc.1.1.2.2,hc.1.2,g3,hc.2⟩
       · cases hek
abbrev i64(n:Int):AV:= .sc (.int .i64 n)
abbrev bo(b:Bool):AV:= .sc (.bool b)
theorem a0D(l:List AV)(k j:Nat)(v:AV):a3t (a3A l k v) j=if j=k then v else a3t l j:=by
 rw[a5N];rfl
theorem zfu{x:Int}(h1: -9223372036854775808≤x)(h2:x≤9223372036854775807):wrF x=x:=by
 have:a9O x=true:=by
  cases x with
  |ofNat m=>simp only[a9O,Nat.ble_eq];simp only[Int.ofNat_eq_natCast]at h2;omega
  |negSucc m=>simp only[a9O,Nat.ble_eq];omega
 simp[wrF,this]
theorem b1f{a b:Int}(h:a<b):ltI a b=true:=by rw[zea];simp[h]
theorem b2b{a b:Int}(h:a=b):eqI a b=true:=by rw[zeb];simp[h]
theorem a9b{a b:Int}(h:a≠b):eqI a b=false:=by rw[zeb];simp[h]
theorem zfv{b:Int}(h:b≠0):isZ b=false:=by
 cases hb:isZ b with
 |false=>rfl
 |true=>
  cases b with
  |ofNat m=>simp only[isZ]at hb;have:=Nat.eq_of_beq_eq_true hb;subst this;exact absurd rfl h
  |negSucc m=>simp[isZ]at hb
def b4V:Code→Code
 | .seq a b=>match b4V a with
  | .skip=>b4V b
  |c=>c
 | .block _ c=>b4V c
 | .loop c=>c
 |_=> .skip
def a0b(f:Func):Code:=f.body.getD .skip
def cAt:List Nat→Code→Code
 | [],c=>c
 |0::p,.seq a _=>cAt p a
 |_::p,.seq _ b=>cAt p b
 |0::p,.cond _ x _=>cAt p x
 |_::p,.cond _ _ y=>cAt p y
 |_::p,.block _ c=>cAt p c
 |_::p,.loop c=>cAt p c
 |_::_,c=>c
def a7i(j:Nat):Code→Bool
 | .region _ ops _=>ops.toList.all fun o=>match o.dst with
  |some d=>!(Nat.beq d j)
  |none=>true
 | .seq a b=>a7i j a&&a7i j b
 | .cond _ x y=>a7i j x&&a7i j y
 | .block _ c=>a7i j c
 | .loop c=>a7i j c
 |_=>true
section
variable{E:EC}{ti:Nat→Option TI}{j:Nat}
theorem a6Y{body:HS→Option (Exit×HS)}: ∀ {n m:Nat} {h:HS} {r:Exit×HS},a3D body n h=some r→n≤m→a3D body m h=some r
 |0,_,_,_,h,_=>by simp[a3D]at h
 |n+1,0,_,_,_,hm=>by omega
 |n+1,m+1,h,r,hl,hm=>by
  simp only[a3D]at hl ⊢
  cases hx:body h with
  |none=>simp[hx]at hl
  |some q=>
   obtain⟨e,h'⟩:=q
   cases e<;>simp only[hx]at hl ⊢
   case normal=>exact a6Y hl (by omega)
   all_goals exact hl
theorem a7d{body:HS→Option (Exit×HS)}{n:Nat}{h:HS}{r:Exit×HS}(hl:a3D body n h=some r)(hn:n≤a5V):a3D body a5V h=some r:=a6Y hl hn
theorem a8J{P:Program}{f:Nat}{fn:Func}{code:Code}{args:List AV}{h:HS}{r:AV}{e:Exit}(hf:P.funcs[f]?=some fn)(hb:fn.body=some code)
  (hok : (!(fn.name == "runtime.NumGoroutine") && a1z fn.ntmps code && decide (args.length ≤ fn.ntmps)) = true) (hev : evC E ti code ⟨args, [], []⟩ = some (e, h)) (he : e = .normal ∨ e = .ret)
  (hr:a1Z ti fn.results.toList h.st=some r) (hn:a0C r=true):a7s P ti E f args=some r:=by
 unfold a7s
 simp only[hf,hb]
 rw[if_pos hok,hev]
 rcases he with rfl|rfl<;>simp[hr,hn]
end
def E0:EC:=⟨fun _ _=>none,fun _ _ _ _=>none,fun _=>false⟩
theorem b7o{P:Program}{ti:Nat→Option TI}(T:TOK P ti)(hm:P.follows .mixedOrders=true){f:Nat}{args:List AV}{r:AV}(h:a7s P ti E0 f args=some r):a0d P f args r:=
 b1L (C:=b5t P ti) (E:=E0) T (a2I P ti) hm (fun _ _ _ h=>by cases h) (fun _ _ _ _ _ _ _ h=>by cases h) h
theorem nr{α:Type}(a:α):a=a:=rfl
structure WX where
 P:Program
 ti:Nat→Option TI
 isIn:Nat→Bool
def zbm(ev:Operand→AV):Op→Option (Nat×List AV)
 | .call c=>match c.callee with
  | .value f=>match ev f with
   | .fn f caps=>some (f,c.args.toList.map ev++caps)
   |_=>none
  |_=>none
 |_=>none
def a3g(ro:Ro)(args:List AV):List AV:=if a0Q args then args else args.map (ex ro 8)
def okR(args:List AV)(r:AV):Bool:=a4a r&&(a0Q args||noI r)
def a2k(b:Nat)(gn:Nat→Nat)(r:AV):Eff:=⟨(imp b gn r).1,none,[],(imp b gn r).2⟩
def wo(X:WX)(rid:Nat)(ops:Array Oper):List Oper→Nat→(St→Prop)→St→Prop
 | [],_,Q,st=>Q st
 |o::rest,i,Q,st=>match zbl ops o st with
  |some true=>match zbm st.ev o.op with
   |some (f,args)=>cond (X.isIn f)
     (∃Po:AV→Ro→(Nat→Nat)→Prop,InS X.P f args st.ro st.gn Po∧ ∀r ro' gn',Po r ro' gn'→wo X rid ops rest (i+1) Q ((⟨st.sl,ro',gn'⟩:St).put o.dst r))
     (∃r,a0d X.P f (a3g st.ro args) r∧okR args r=true∧wo X rid ops rest (i+1) Q ((st.eff (a2k (a1F rid i) st.gn r)).put o.dst (a2k (a1F rid i) st.gn r).v))
   |none=>match opK X.ti (a1F rid i) st.ro st.gn st.ev o.op with
    |some e=>wo X rid ops rest (i+1) Q ((st.eff e).put o.dst e.v)
    |none=> ∃Po:AV→Ro→(Nat→Nat)→Prop,OpS X.P o.op st.ev st.ro st.gn Po∧ ∀r ro' gn',Po r ro' gn'→wo X rid ops rest (i+1) Q ((⟨st.sl,ro',gn'⟩:St).put o.dst r)
  |some false=>wo X rid ops rest (i+1) Q (st.put o.dst (.sc undef))
  |none=>False
def a5I:List FP→List FP→Prop
 | [],[]=>True
 |a::l,b::m=>FP.le a b∧a5I l m
 |_,_=>False
theorem a5I.refl: ∀(l:List FP),a5I l l
 | []=>trivial
 |a::l=>⟨FP.le_refl a,a5I.refl l⟩
theorem a5I.len: ∀ {l m:List FP},a5I l m→l.length=m.length
 | [],[],_=>rfl
 |_::_,_::_,h=>by simp[a5I.len h.2]
 | [],_::_,h=>h.elim
 |_::_,[],h=>h.elim
theorem a5I.app: ∀ {l m k:List FP},a5I (l++k) m→a5I l (m.take l.length)∧a5I k (m.drop l.length)
 | [],m,k,h=>⟨by simp only[List.length_nil,List.take_zero];trivial,h⟩
 |a::l,[],k,h=>h.elim
 |a::l,b::m,k,h=>by
  obtain⟨h1,h2⟩:=a5I.app h.2
  exact⟨⟨h.1,h1⟩,h2⟩
def inX(X:WX)(ops:Array Oper)(i f:Nat)(args:List AV)(st:St)(Po:AV→Ro→(Nat→Nat)→Prop)(R W:List Nat):Prop:=
 (∀ro1 gn1,(∀s,s∈R∨s∈W→ro1 s=st.ro s)→(∀s,s∈W→gn1 s=st.gn s)→InS X.P f args ro1 gn1 (fun r a b=> ∃ro' gn',Po r ro' gn'∧a=a1W W ro' ro1∧b=a1W W gn' gn1))∧
 (∀r ro' gn',Po r ro' gn'→ ∀s,s∉W→ro' s=st.ro s∧gn' s=st.gn s)∧a2U ops i=true∧
 ((∃r ro' gn',Po r ro' gn')∨ ∀k,i<k→k<ops.size→a7R ops ops.size i k=true)
def woG(X:WX)(rid:Nat)(ops:Array Oper)(fin:List FP):List Oper→Nat→List FP→(St→Prop)→St→Prop
 | [],_,acc,Q,st=>a5I acc.reverse fin∧Q st
 |o::rest,i,acc,Q,st=>match zbl ops o st with
  |some true=>match zbm st.ev o.op with
   |some (f,args)=>(∃r,a0d X.P f (a3g st.ro args) r∧okR args r=true∧woG X rid ops fin rest (i+1) (⟨rdR st.ro st.ev o.op,(a2k (a1F rid i) st.gn r).sites⟩::acc) Q ((st.eff (a2k (a1F rid i) st.gn r)).put o.dst (a2k (a1F rid i) st.gn r).v))∨
     (∃Po R W,((⟨some R,W⟩:FP)::acc).reverse=fin.take (i+1)∧inX X ops i f args st Po R W∧ ∀r ro' gn',Po r ro' gn'→woG X rid ops fin rest (i+1) (⟨some R,W⟩::acc) Q ((⟨st.sl,ro',gn'⟩:St).put o.dst r))
   |none=>match opK X.ti (a1F rid i) st.ro st.gn st.ev o.op with
    |some e=>woG X rid ops fin rest (i+1) (⟨rdR st.ro st.ev o.op,e.sites⟩::acc) Q ((st.eff e).put o.dst e.v)
    |none=>False
  |some false=>woG X rid ops fin rest (i+1) (⟨some [],[]⟩::acc) Q (st.put o.dst (.sc undef))
  |none=>False
def woD(X:WX)(rid:Nat)(ops:Array Oper):List Oper→Nat→List FP→(St→List FP→Prop)→St→Prop
 | [],_,acc,Q,st=>Q st acc.reverse
 |o::rest,i,acc,Q,st=>match zbl ops o st with
  |some true=>match zbm st.ev o.op with
   |some (f,args)=>(∃r,a0d X.P f (a3g st.ro args) r∧okR args r=true∧woD X rid ops rest (i+1) (⟨rdR st.ro st.ev o.op,(a2k (a1F rid i) st.gn r).sites⟩::acc) Q ((st.eff (a2k (a1F rid i) st.gn r)).put o.dst (a2k (a1F rid i) st.gn r).v))∨
     (∃fin Po R W,fin.length=ops.size∧okD ops fin=true∧acc.length=i∧((⟨some R,W⟩:FP)::acc).reverse=fin.take (i+1)∧inX X ops i f args st Po R W∧ ∀r ro' gn',Po r ro' gn'→woG X rid ops fin rest (i+1) (⟨some R,W⟩::acc) (fun st=>Q st fin) ((⟨st.sl,ro',gn'⟩:St).put o.dst r))
   |none=>match opK X.ti (a1F rid i) st.ro st.gn st.ev o.op with
    |some e=>woD X rid ops rest (i+1) (⟨rdR st.ro st.ev o.op,e.sites⟩::acc) Q ((st.eff e).put o.dst e.v)
    |none=>False
  |some false=>woD X rid ops rest (i+1) (⟨some [],[]⟩::acc) Q (st.put o.dst (.sc undef))
  |none=>False
def wk(X:WX):Code→(Exit→St→Prop)→St→Prop
 | .skip,Q,st=>Q .normal st
 | .region id ops false,Q,st=>wo X id ops ops.toList 0 (Q .normal) st
 | .region id ops true,Q,st=>woD X id ops ops.toList 0 [] (fun st fp=>okD ops fp=true∧Q .normal st) st
 | .seq a b,Q,st=>wk X a (fun e st'=>match e with
  | .normal=>wk X b Q st'
  |e=>Q e st') st
 | .cond c x y,Q,st=>match st.ev c with
  | .sc (.bool t)=>(t=true→wk X x Q st)∧(t=false→wk X y Q st)
  |_=>False
 | .block id c,Q,st=>wk X c (fun e st'=>match e with
  | .exit j=>if j=id then Q .normal st' else Q (.exit j) st'
  |e=>Q e st') st
 | .loop c,Q,st=> ∃st0,Gh st st0∧ ∃(I:Nat→St→Prop) (n:Nat),I n st0∧ ∀n st',I n st'→wk X c (fun e st''=>match e with
  | .normal=> ∃m,m<n∧I m st''
  |e=>Q e st'') st'
 | .exit id,Q,st=>Q (.exit id) st
 | .ret,Q,st=>Q .ret st
 | .rangeFunc g ps x y,Q,st=> ∃Q0,c3i X.P (.rangeFunc g ps x y) Q0 st∧ ∀e st',Q0 e st'→Q e st'
 |_,_,_=>False
def WX.cfg(X:WX):Cfg:=b5t X.P X.ti
section
variable{X:WX}
theorem a3z{b:Nat}{st:St}{op:Op}{f:Nat}{args:List AV}{r:AV}(hc:zbm st.ev op=some (f,args))(h:a0d X.P f (a3g st.ro args) r)(ho:okR args r=true):opR X.cfg b st op (a2k b st.gn r):=by
 unfold zbm at hc
 split at hc
 ·rename_i c
  split at hc
  ·rename_i f0 hf0
   split at hc
   ·rename_i f1 caps hf1
    simp only[Option.some.injEq,Prod.mk.injEq]at hc
    obtain⟨rfl,rfl⟩:=hc
    simp only[opR,hf0,hf1,b2H]
    simp only[okR,Bool.and_eq_true,Bool.or_eq_true]at ho
    unfold a3g at h
    split
    ·rename_i hp
     rw[if_pos hp]at h
     exact⟨r,h,ho.1,rfl⟩
    ·rename_i hp
     rw[if_neg hp]at h
     exact⟨r,h,ho.1,ho.2.resolve_left hp,rfl⟩
   ·cases hc
  ·cases hc
 ·cases hc
theorem a4b{b:Nat}{st:St}{op:Op}{e:Eff}(hc:zbm st.ev op=none)(h:opK X.ti b st.ro st.gn st.ev op=some e):opR X.cfg b st op e:=by
 rw[b6g]at h
 unfold opR
 split
 ·rename_i c
  split
  ·rename_i f hf
   simp only[zbm,hf]at hc
   split
   ·rename_i hfe
    simp[hfe]at hc
   ·simp only[opC,hf]at h
    cases h
  ·exact h
 ·exact h
theorem a6d{st:St}{op:Op}{f:Nat}{args:List AV}{Po:AV→Ro→(Nat→Nat)→Prop}(hc:zbm st.ev op=some (f,args))(h:InS X.P f args st.ro st.gn Po):inR X.cfg st op Po:=by
 unfold zbm at hc
 split at hc
 ·rename_i c
  split at hc
  ·rename_i f0 hf0
   split at hc
   ·rename_i f1 caps hf1
    simp only[Option.some.injEq,Prod.mk.injEq]at hc
    obtain⟨rfl,rfl⟩:=hc
    simp only[inR,hf0,hf1]
    exact h
   ·cases hc
  ·cases hc
 ·cases hc
theorem b0L(rid:Nat)(ops:Array Oper): ∀(l:List Oper) (i:Nat) {Q:St→Prop} {st:St},wo X rid ops l i Q st→a6T X.cfg rid ops l i Q st
 | [],_,_,_,h=>h
 |o::rest,i,Q,st,h=>by
  simp only[wo]at h
  simp only[a6T]
  cases hw:zbl ops o st with
  |none=>simp[hw]at h
  |some t=>
   cases t
   ·simp only[hw]at h
    exact b0L rid ops rest (i+1) h
   ·simp only[hw]at h
    cases hc:zbm st.ev o.op with
    |none=>
     simp only[hc]at h
     cases ho:opK X.ti (a1F rid i) st.ro st.gn st.ev o.op with
     |none=>
      simp only[ho]at h
      obtain⟨Po,h1,h2⟩:=h
      exact .inr ⟨Po,.inr h1,fun r ro' gn' hP=>b0L rid ops rest (i+1) (h2 r ro' gn' hP)⟩
     |some e=>
      simp only[ho]at h
      exact .inl ⟨e,a4b hc ho,b0L rid ops rest (i+1) h⟩
    |some q=>
     obtain⟨f,args⟩:=q
     simp only[hc]at h
     cases hi:X.isIn f with
     |true=>
      simp only[hi,cond_true]at h
      obtain⟨Po,h1,h2⟩:=h
      exact .inr ⟨Po,.inl (a6d hc h1),fun r ro' gn' hP=>b0L rid ops rest (i+1) (h2 r ro' gn' hP)⟩
     |false=>
      simp only[hi,cond_false]at h
      obtain⟨r,h1,h2,h3⟩:=h
      exact .inl ⟨_,a3z hc h1 h2,b0L rid ops rest (i+1) h3⟩
theorem c2E{ops:Array Oper}{i:Nat}{o:Oper}{f:Nat}{args:List AV}{st:St}{Po:AV→Ro→(Nat→Nat)→Prop}{R W:List Nat}(hc:zbm st.ev o.op=some (f,args))(h:inX X ops i f args st Po R W):inD X.cfg ops i o st Po R W:=
 ⟨fun ro1 gn1 h1 h2=>a6d (st:=⟨st.sl,ro1,gn1⟩) hc (h.1 ro1 gn1 h1 h2),h.2.1,h.2.2.1,h.2.2.2⟩
theorem a6t{l:List FP}{acc:List FP}{F:FP}{i:Nat}(hi:acc.length=i)(h:(F::acc).reverse=l.take (i+1)):acc.reverse=l.take i∧l[i]?=some F:=by
 rw[List.reverse_cons]at h
 have hl:i<l.length:=by
  have:=congrArg List.length h
  simp at this
  omega
 constructor
 ·have:=congrArg (List.take i) h
  rw[List.take_take,Nat.min_eq_left (by omega),List.take_append_of_le_length (by simp;omega),List.take_of_length_le (by simp;omega)]at this
  exact this
 ·have:=congrArg (fun z=>z[i]?) h
  simp only[List.getElem?_append_right (by simp;omega:acc.reverse.length≤i),List.length_reverse,hi,Nat.sub_self,List.getElem?_take,Nat.lt_succ_self,if_true,List.getElem?_cons_zero]at this
  exact this.symm
theorem a9E{l:List FP}{acc:List FP}{F:FP}{i:Nat}(hi:acc.length=i)(h:a5I (F::acc).reverse (l.take (i+1))):a5I acc.reverse (l.take i)∧ ∃G,l[i]?=some G∧FP.le F G:=by
 rw[List.reverse_cons]at h
 obtain⟨h1,h2⟩:=h.app
 rw[List.length_reverse,hi]at h1 h2
 rw[List.take_take,Nat.min_eq_left (by omega)]at h1
 refine⟨h1,?_⟩
 cases hd:(l.take (i+1)).drop i with
 |nil=>rw[hd]at h2;exact h2.elim
 |cons G m=>
  rw[hd]at h2
  refine⟨G,?_,h2.1⟩
  have:=congrArg (fun z=>z[0]?) hd
  simpa [List.getElem?_take]using this
theorem a8E(rid:Nat)(ops:Array Oper)(fin:List FP): ∀(l:List Oper) (i:Nat) {acc:List FP} {Q:St→Prop} {st:St},acc.length=i→woG X rid ops fin l i acc Q st→a5I acc.reverse (fin.take i)∧a9C X.cfg rid ops fin l i Q st
 | [],i,acc,Q,st,hi,h=>⟨by
   rw[List.take_of_length_le]
   ·exact h.1
   ·rw[←h.1.len,List.length_reverse];omega,h.2⟩
 |o::rest,i,acc,Q,st,hi,h=>by
  have hi': ∀F:FP,(F::acc).length=i+1:=fun F=>by simp[hi]
  simp only[woG]at h
  simp only[a9C]
  cases hw:zbl ops o st with
  |none=>simp[hw]at h
  |some t=>
   cases t
   ·simp only[hw]at h
    obtain⟨a,b⟩:=a8E rid ops fin rest (i+1) (hi' _) h
    obtain⟨c,d⟩:=a9E hi a
    exact⟨c,d,b⟩
   ·simp only[hw]at h
    cases hc:zbm st.ev o.op with
    |none=>
     simp only[hc]at h
     cases ho:opK X.ti (a1F rid i) st.ro st.gn st.ev o.op with
     |none=>simp[ho]at h
     |some e=>
      simp only[ho]at h
      obtain⟨a,b⟩:=a8E rid ops fin rest (i+1) (hi' _) h
      obtain⟨c,d⟩:=a9E hi a
      exact⟨c,.inl ⟨e,a4b hc ho,d,b⟩⟩
    |some q=>
     obtain⟨f,args⟩:=q
     simp only[hc]at h
     rcases h with⟨r,h1,h2,h3⟩|⟨Po,R,W,h1,h2,h3⟩
     ·obtain⟨a,b⟩:=a8E rid ops fin rest (i+1) (hi' _) h3
      obtain⟨c,d⟩:=a9E hi a
      exact⟨c,.inl ⟨_,a3z hc h1 h2,d,b⟩⟩
     ·obtain⟨c,d⟩:=a6t hi h1
      exact⟨by rw[c];exact a5I.refl _,.inr ⟨Po,R,W,c2E hc h2,d,fun r ro' gn' k=>(a8E rid ops fin rest (i+1) (hi' _) (h3 r ro' gn' k)).2⟩⟩
theorem b2E{ev:Operand→AV}{op:Op}{q:Nat×List AV}(h:zbm ev op=some q):isV op=true:=by
 unfold zbm at h
 split at h
 ·rename_i c
  split at h
  ·rename_i f hf;simp only[isV,hf]
  ·cases h
 ·cases h
theorem a9w(rid:Nat)(ops:Array Oper): ∀(l:List Oper) (i:Nat) {acc:List FP} {Q:St→List FP→Prop} {st:St},acc.length=i→woD X rid ops l i acc Q st→
  a7j X.cfg rid ops l i acc Q st∨(l.any (fun o=>isV o.op)=true∧ ∃fin:List FP,fin.length=ops.size∧okD ops fin=true∧acc.reverse=fin.take i∧a9C X.cfg rid ops fin l i (fun st=>Q st fin) st)
 | [],_,_,_,_,_,h=> .inl h
 |o::rest,i,acc,Q,st,hi,h=>by
  have hi': ∀F:FP,(F::acc).length=i+1:=fun F=>by simp[hi]
  have hany:rest.any (fun o=>isV o.op)=true→(o::rest).any (fun o=>isV o.op)=true:=fun h=>by simp only[List.any_cons,h,Bool.or_true]
  simp only[woD]at h
  simp only[a7j,a9C]
  cases hw:zbl ops o st with
  |none=>simp[hw]at h
  |some t=>
   cases t
   ·simp only[hw]at h
    rcases a9w rid ops rest (i+1) (hi' _) h with h|⟨k1,fin,k2,k3,k4,k5⟩
    ·exact .inl h
    ·obtain⟨c,d⟩:=a6t hi k4
     exact .inr ⟨hany k1,fin,k2,k3,c,⟨_,d,FP.le_refl _⟩,k5⟩
   ·simp only[hw]at h
    cases hc:zbm st.ev o.op with
    |none=>
     simp only[hc]at h
     cases ho:opK X.ti (a1F rid i) st.ro st.gn st.ev o.op with
     |none=>simp[ho]at h
     |some e=>
      simp only[ho]at h
      rcases a9w rid ops rest (i+1) (hi' _) h with h|⟨k1,fin,k2,k3,k4,k5⟩
      ·exact .inl ⟨e,a4b hc ho,h⟩
      ·obtain⟨c,d⟩:=a6t hi k4
       exact .inr ⟨hany k1,fin,k2,k3,c,.inl ⟨e,a4b hc ho,⟨_,d,FP.le_refl _⟩,k5⟩⟩
    |some q=>
     obtain⟨f,args⟩:=q
     simp only[hc]at h
     rcases h with⟨r,h1,h2,h3⟩|⟨fin,Po,R,W,g1,g2,g0,h1,h2,h3⟩
     ·rcases a9w rid ops rest (i+1) (hi' _) h3 with h|⟨k1,fin,k2,k3,k4,k5⟩
      ·exact .inl ⟨_,a3z hc h1 h2,h⟩
      ·obtain⟨c,d⟩:=a6t hi k4
       exact .inr ⟨hany k1,fin,k2,k3,c,.inl ⟨_,a3z hc h1 h2,⟨_,d,FP.le_refl _⟩,k5⟩⟩
     ·obtain⟨c,d⟩:=a6t hi h1
      refine .inr ⟨by simp only[List.any_cons,b2E hc,Bool.true_or],fin,g1,g2,c,.inr ⟨Po,R,W,c2E hc h2,d,fun r ro' gn' k=>(a8E rid ops fin rest (i+1) (hi' _) (h3 r ro' gn' k)).2⟩⟩
theorem c0F: ∀(code:Code) {Q:Exit→St→Prop} {st:St},wk X code Q st→a4I X.cfg code Q st:=by
 intro code
 induction code with
 |region id ops d=>
  intro Q st h
  cases d with
  |false=>exact b0L _ _ _ _ h
  |true=>
   rcases a9w id ops ops.toList 0 (acc:=[]) rfl h with h|⟨k1,fin,k2,k3,_,k5⟩
   ·exact .inl h
   ·exact .inr (.inl ⟨k1,fin,k2,k3,a4G _ _ _ _ _ (fun st h=>h.2) k5⟩)
 |seq x y ihx ihy=>
  intro Q st h
  refine a7n x ?_ (ihx h)
  intro e st h
  cases e<;>first|exact ihy h|exact h
 |cond c x y ihx ihy=>
  intro Q st h
  simp only[wk]at h
  split at h
  ·rename_i t ht
   exact⟨t,ht,fun e=>ihx (h.1 e),fun e=>ihy (h.2 e)⟩
  ·exact h.elim
 |block id x ih=>intro Q st h;exact ih h
 |loop x ih=>
  intro Q st h
  obtain⟨st0,hG,I,n,h1,h2⟩:=h
  exact⟨st0,hG,I,n,h1,fun n st' hI=>ih (h2 n st' hI)⟩
 |skip=>intro Q st h;exact h
 |exit id=>intro Q st h;exact h
 |ret=>intro Q st h;exact h
 |rangeFunc g ps x y=>intro Q st h;exact h
 |_=>intros;rename_i h;exact h.elim
theorem b2i(rid:Nat)(ops:Array Oper)(fin:List FP): ∀(l:List Oper) (i:Nat) (acc:List FP) {Q Q':St→Prop} {st:St},(∀st,Q st→Q' st)→woG X rid ops fin l i acc Q st→woG X rid ops fin l i acc Q' st:=by
 intro l
 induction l with
 |nil=>intro i acc Q Q' st hq h;exact⟨h.1,hq _ h.2⟩
 |cons o l ih=>
  intro i acc Q Q' st hq h
  simp only[woG]at h ⊢
  cases hw:zbl ops o st with
  |none=>simp[hw]at h
  |some t=>
   cases t
   ·simp only[hw]at h ⊢;exact ih _ _ hq h
   ·simp only[hw]at h ⊢
    cases hc:zbm st.ev o.op with
    |none=>
     simp only[hc]at h ⊢
     cases ho:opK X.ti (a1F rid i) st.ro st.gn st.ev o.op with
     |none=>simp[ho]at h
     |some e=>simp only[ho]at h ⊢;exact ih _ _ hq h
    |some q=>
     obtain⟨f,args⟩:=q
     simp only[hc]at h ⊢
     rcases h with⟨r,h1,h2,h3⟩|⟨Po,R,W,h1,h2,h3⟩
     ·exact .inl ⟨r,h1,h2,ih _ _ hq h3⟩
     ·exact .inr ⟨Po,R,W,h1,h2,fun r ro' gn' k=>ih _ _ hq (h3 r ro' gn' k)⟩
theorem a5e: ∀(code:Code) {Q Q':Exit→St→Prop} {st:St},(∀e st,Q e st→Q' e st)→wk X code Q st→wk X code Q' st:=by
 have hops: ∀(rid:Nat) (ops:Array Oper) (l:List Oper) (i:Nat) {Q Q':St→Prop} {st:St},(∀st,Q st→Q' st)→wo X rid ops l i Q st→wo X rid ops l i Q' st:=by
  intro rid ops l
  induction l with
  |nil=>intro i Q Q' st hq h;exact hq _ h
  |cons o l ih=>
   intro i Q Q' st hq h
   simp only[wo]at h ⊢
   cases hw:zbl ops o st with
   |none=>simp[hw]at h
   |some t=>
    cases t
    ·simp only[hw]at h ⊢;exact ih _ hq h
    ·simp only[hw]at h ⊢
     cases hc:zbm st.ev o.op with
     |none=>
      simp only[hc]at h ⊢
      cases ho:opK X.ti (a1F rid i) st.ro st.gn st.ev o.op with
      |none=>simp only[ho]at h ⊢;obtain⟨Po,h1,h2⟩:=h;exact⟨Po,h1,fun r ro' gn' hP=>ih _ hq (h2 r ro' gn' hP)⟩
      |some e=>simp only[ho]at h ⊢;exact ih _ hq h
     |some q=>
      obtain⟨f,args⟩:=q
      simp only[hc]at h ⊢
      cases hi:X.isIn f with
      |true=>simp only[hi,cond_true]at h ⊢;obtain⟨Po,h1,h2⟩:=h;exact⟨Po,h1,fun r ro' gn' hP=>ih _ hq (h2 r ro' gn' hP)⟩
      |false=>simp only[hi,cond_false]at h ⊢;obtain⟨r,h1,h2,h3⟩:=h;exact⟨r,h1,h2,ih _ hq h3⟩
 have hopsD: ∀(rid:Nat) (ops:Array Oper) (l:List Oper) (i:Nat) (acc:List FP) {Q Q':St→List FP→Prop} {st:St},(∀st fp,Q st fp→Q' st fp)→woD X rid ops l i acc Q st→woD X rid ops l i acc Q' st:=by
  intro rid ops l
  induction l with
  |nil=>intro i acc Q Q' st hq h;exact hq _ _ h
  |cons o l ih=>
   intro i acc Q Q' st hq h
   simp only[woD]at h ⊢
   cases hw:zbl ops o st with
   |none=>simp[hw]at h
   |some t=>
    cases t
    ·simp only[hw]at h ⊢;exact ih _ _ hq h
    ·simp only[hw]at h ⊢
     cases hc:zbm st.ev o.op with
     |none=>
      simp only[hc]at h ⊢
      cases ho:opK X.ti (a1F rid i) st.ro st.gn st.ev o.op with
      |none=>simp[ho]at h
      |some e=>simp only[ho]at h ⊢;exact ih _ _ hq h
     |some q=>
      obtain⟨f,args⟩:=q
      simp only[hc]at h ⊢
      rcases h with⟨r,h1,h2,h3⟩|⟨fin,Po,R,W,g1,g2,g0,h1,h2,h3⟩
      ·exact .inl ⟨r,h1,h2,ih _ _ hq h3⟩
      ·exact .inr ⟨fin,Po,R,W,g1,g2,g0,h1,h2,fun r ro' gn' k=>b2i _ _ _ _ _ _ (fun st h=>hq _ _ h) (h3 r ro' gn' k)⟩
 intro code
 induction code with
 |region id ops d=>
  intro Q Q' st hq h
  cases d with
  |false=>exact hops _ _ _ _ (fun st h=>hq _ _ h) h
  |true=>exact hopsD _ _ _ _ _ (fun st fp h=>⟨h.1,hq _ _ h.2⟩) h
 |seq x y ihx ihy=>
  intro Q Q' st hq h
  refine ihx ?_ h
  intro e st h
  cases e<;>first|exact ihy hq h|exact hq _ _ h
 |cond c x y ihx ihy=>
  intro Q Q' st hq h
  simp only[wk]at h ⊢
  split at h
  ·rename_i t ht
   try simp only[ht]
   exact⟨fun e=>ihx hq (h.1 e),fun e=>ihy hq (h.2 e)⟩
  ·exact h.elim
 |block id x ih=>
  intro Q Q' st hq h
  refine ih ?_ h
  intro e st h
  cases e with
  |exit j=>simp only at h ⊢;split<;>rename_i hj<;>(first|rw[if_pos hj]at h|rw[if_neg hj]at h)<;>exact hq _ _ h
  |_=>exact hq _ _ h
 |loop x ih=>
  intro Q Q' st hq h
  obtain⟨st0,hG,I,n,h1,h2⟩:=h
  refine⟨st0,hG,I,n,h1,fun n st' hI=>ih ?_ (h2 n st' hI)⟩
  intro e st h
  cases e<;>first|exact h|exact hq _ _ h
 |skip=>intro Q Q' st hq h;exact hq _ _ h
 |exit id=>intro Q Q' st hq h;exact hq _ _ h
 |ret=>intro Q Q' st hq h;exact hq _ _ h
 |rangeFunc g ps x y=>
  intro Q Q' st hq h
  obtain⟨Q0,h1,h2⟩:=h
  exact⟨Q0,h1,fun e st' h3=>hq _ _ (h2 e st' h3)⟩
 |_=>intros;first|assumption|(rename_i h;exact h.elim)
end
inductive Fr where
 |sq (c:Code)
 |blk (id:Nat)
 |lp (P:St→Prop)
def AFT(X:WX):List Fr→(Exit→St→Prop)→Exit→St→Prop
 | [],Q,e,st=>Q e st
 | .sq c::K,Q,e,st=>match e with
  | .normal=>wk X c (AFT X K Q) st
  |e=>AFT X K Q e st
 | .blk id::K,Q,e,st=>match e with
  | .exit j=>if j=id then AFT X K Q .normal st else AFT X K Q (.exit j) st
  |e=>AFT X K Q e st
 | .lp P::K,Q,e,st=>match e with
  | .normal=>P st
  |e=>AFT X K Q e st
def WK(X:WX)(c:Code)(K:List Fr)(Q:Exit→St→Prop)(st:St):Prop:=wk X c (AFT X K Q) st
def WO(X:WX)(rid:Nat)(ops:Array Oper)(l:List Oper)(i:Nat)(K:List Fr)(Q:Exit→St→Prop)(st:St):Prop:=wo X rid ops l i (AFT X K Q .normal) st
def WD(X:WX)(rid:Nat)(ops:Array Oper)(l:List Oper)(i:Nat)(acc:List FP)(K:List Fr)(Q:Exit→St→Prop)(st:St):Prop:=
 woD X rid ops l i acc (fun st fp=>okD ops fp=true∧AFT X K Q .normal st) st
def FIN(X:WX)(ops:Array Oper)(fp:List FP)(K:List Fr)(Q:Exit→St→Prop)(st:St):Prop:=okD ops fp=true∧AFT X K Q .normal st
def WG(X:WX)(rid:Nat)(ops:Array Oper)(fin:List FP)(l:List Oper)(i:Nat)(acc:List FP)(K:List Fr)(Q:Exit→St→Prop)(st:St):Prop:=
 woG X rid ops fin l i acc (AFT X K Q .normal) st
def FING(X:WX)(fin fp:List FP)(K:List Fr)(Q:Exit→St→Prop)(st:St):Prop:=a5I fp fin∧AFT X K Q .normal st
def CNB(t:Bool)(X:WX)(x y:Code)(K:List Fr)(Q:Exit→St→Prop)(st:St):Prop:=(t=true→WK X x K Q st)∧(t=false→WK X y K Q st)
def CND(a:AV)(X:WX)(x y:Code)(K:List Fr)(Q:Exit→St→Prop)(st:St):Prop:=match a with
 | .sc (.bool t)=>CNB t X x y K Q st
 |_=>False
def OPE(e:Option Eff)(op:Op)(X:WX)(rid:Nat)(ops:Array Oper)(d:Option Tmp)(rest:List Oper)(i:Nat)(K:List Fr)(Q:Exit→St→Prop)(st:St):Prop:=match e with
 |some e=>WO X rid ops rest (i+1) K Q ((st.eff e).put d e.v)
 |none=> ∃Po:AV→Ro→(Nat→Nat)→Prop,OpS X.P op st.ev st.ro st.gn Po∧ ∀r ro' gn',Po r ro' gn'→WO X rid ops rest (i+1) K Q ((⟨st.sl,ro',gn'⟩:St).put d r)
def CLL(c:Option (Nat×List AV))(X:WX)(rid:Nat)(ops:Array Oper)(o:Oper)(rest:List Oper)(i:Nat)(K:List Fr)(Q:Exit→St→Prop)(st:St):Prop:=match c with
 |some (f,args)=>cond (X.isIn f)
     (∃Po:AV→Ro→(Nat→Nat)→Prop,InS X.P f args st.ro st.gn Po∧ ∀r ro' gn',Po r ro' gn'→WO X rid ops rest (i+1) K Q ((⟨st.sl,ro',gn'⟩:St).put o.dst r))
     (∃r,a0d X.P f (a3g st.ro args) r∧okR args r=true∧WO X rid ops rest (i+1) K Q ((st.eff (a2k (a1F rid i) st.gn r)).put o.dst (a2k (a1F rid i) st.gn r).v))
 |none=>OPE (opK X.ti (a1F rid i) st.ro st.gn st.ev o.op) o.op X rid ops o.dst rest i K Q st
def STP(w:Option Bool)(X:WX)(rid:Nat)(ops:Array Oper)(o:Oper)(rest:List Oper)(i:Nat)(K:List Fr)(Q:Exit→St→Prop)(st:St):Prop:=match w with
 |some true=>CLL (zbm st.ev o.op) X rid ops o rest i K Q st
 |some false=>WO X rid ops rest (i+1) K Q (st.put o.dst (.sc undef))
 |none=>False
def c4d(e:Option Eff)(rd:Option (List Nat))(X:WX)(rid:Nat)(ops:Array Oper)(d:Option Tmp)(rest:List Oper)(i:Nat)(acc:List FP)(K:List Fr)(Q:Exit→St→Prop)(st:St):Prop:=match e with
 |some e=>WD X rid ops rest (i+1) (⟨rd,e.sites⟩::acc) K Q ((st.eff e).put d e.v)
 |none=>False
def b9h(c:Option (Nat×List AV))(rd:Option (List Nat))(X:WX)(rid:Nat)(ops:Array Oper)(o:Oper)(rest:List Oper)(i:Nat)(acc:List FP)(K:List Fr)(Q:Exit→St→Prop)(st:St):Prop:=match c with
 |some (f,args)=>(∃r,a0d X.P f (a3g st.ro args) r∧okR args r=true∧WD X rid ops rest (i+1) (⟨rd,(a2k (a1F rid i) st.gn r).sites⟩::acc) K Q ((st.eff (a2k (a1F rid i) st.gn r)).put o.dst (a2k (a1F rid i) st.gn r).v))∨
   (∃fin Po R W,fin.length=ops.size∧okD ops fin=true∧acc.length=i∧((⟨some R,W⟩:FP)::acc).reverse=fin.take (i+1)∧inX X ops i f args st Po R W∧ ∀r ro' gn',Po r ro' gn'→woG X rid ops fin rest (i+1) (⟨some R,W⟩::acc) (fun st=>okD ops fin=true∧AFT X K Q .normal st) ((⟨st.sl,ro',gn'⟩:St).put o.dst r))
 |none=>c4d (opK X.ti (a1F rid i) st.ro st.gn st.ev o.op) rd X rid ops o.dst rest i acc K Q st
def c4I(e:Option Eff)(rd:Option (List Nat))(X:WX)(rid:Nat)(ops:Array Oper)(fin:List FP)(d:Option Tmp)(rest:List Oper)(i:Nat)(acc:List FP)(K:List Fr)(Q:Exit→St→Prop)(st:St):Prop:=match e with
 |some e=>WG X rid ops fin rest (i+1) (⟨rd,e.sites⟩::acc) K Q ((st.eff e).put d e.v)
 |none=>False
def c1x(c:Option (Nat×List AV))(rd:Option (List Nat))(X:WX)(rid:Nat)(ops:Array Oper)(fin:List FP)(o:Oper)(rest:List Oper)(i:Nat)(acc:List FP)(K:List Fr)(Q:Exit→St→Prop)(st:St):Prop:=match c with
 |some (f,args)=>(∃r,a0d X.P f (a3g st.ro args) r∧okR args r=true∧WG X rid ops fin rest (i+1) (⟨rd,(a2k (a1F rid i) st.gn r).sites⟩::acc) K Q ((st.eff (a2k (a1F rid i) st.gn r)).put o.dst (a2k (a1F rid i) st.gn r).v))∨
   (∃Po R W,((⟨some R,W⟩:FP)::acc).reverse=fin.take (i+1)∧inX X ops i f args st Po R W∧ ∀r ro' gn',Po r ro' gn'→WG X rid ops fin rest (i+1) (⟨some R,W⟩::acc) K Q ((⟨st.sl,ro',gn'⟩:St).put o.dst r))
 |none=>c4I (opK X.ti (a1F rid i) st.ro st.gn st.ev o.op) rd X rid ops fin o.dst rest i acc K Q st
def STPG(w:Option Bool)(X:WX)(rid:Nat)(ops:Array Oper)(fin:List FP)(o:Oper)(rest:List Oper)(i:Nat)(acc:List FP)(K:List Fr)(Q:Exit→St→Prop)(st:St):Prop:=match w with
 |some true=>c1x (zbm st.ev o.op) (rdR st.ro st.ev o.op) X rid ops fin o rest i acc K Q st
 |some false=>WG X rid ops fin rest (i+1) (⟨some [],[]⟩::acc) K Q (st.put o.dst (.sc undef))
 |none=>False
def c4s(w:Option Bool)(X:WX)(rid:Nat)(ops:Array Oper)(o:Oper)(rest:List Oper)(i:Nat)(acc:List FP)(K:List Fr)(Q:Exit→St→Prop)(st:St):Prop:=match w with
 |some true=>b9h (zbm st.ev o.op) (rdR st.ro st.ev o.op) X rid ops o rest i acc K Q st
 |some false=>WD X rid ops rest (i+1) (⟨some [],[]⟩::acc) K Q (st.put o.dst (.sc undef))
 |none=>False
def rvA:List FP→List FP→List FP
 | [],r=>r
 |a::l,r=>rvA l (a::r)
theorem b5D: ∀(l r:List FP),rvA l r=l.reverse++r
 | [],r=>rfl
 |a::l,r=>by simp[rvA,b5D l]
section
variable{X:WX}{K:List Fr}{Q:Exit→St→Prop}{st:St}
theorem zav(e:Exit):AFT X [] Q e st=Q e st:=nr _
theorem zaw(c:Code):AFT X (.sq c::K) Q .normal st=WK X c K Q st:=nr _
theorem zax(c:Code)(j:Nat):AFT X (.sq c::K) Q (.exit j) st=AFT X K Q (.exit j) st:=nr _
theorem zay(c:Code):AFT X (.sq c::K) Q .ret st=AFT X K Q .ret st:=nr _
theorem zaz(id:Nat):AFT X (.blk id::K) Q .normal st=AFT X K Q .normal st:=nr _
theorem zba(id j:Nat):AFT X (.blk id::K) Q (.exit j) st=if j=id then AFT X K Q .normal st else AFT X K Q (.exit j) st:=nr _
theorem zbb(id:Nat):AFT X (.blk id::K) Q .ret st=AFT X K Q .ret st:=nr _
theorem zbc(P:St→Prop):AFT X (.lp P::K) Q .normal st=P st:=nr _
theorem zbd(P:St→Prop)(j:Nat):AFT X (.lp P::K) Q (.exit j) st=AFT X K Q (.exit j) st:=nr _
theorem zbe(P:St→Prop):AFT X (.lp P::K) Q .ret st=AFT X K Q .ret st:=nr _
theorem zaq:WK X .skip K Q st=AFT X K Q .normal st:=nr _
theorem zar(id:Nat):WK X (.exit id) K Q st=AFT X K Q (.exit id) st:=nr _
theorem zas:WK X .ret K Q st=AFT X K Q .ret st:=nr _
theorem zan(a b:Code):WK X (.seq a b) K Q st=WK X a (.sq b::K) Q st:=by
 unfold WK
 simp only[wk]
 congr 1
theorem zao(id:Nat)(c:Code):WK X (.block id c) K Q st=WK X c (.blk id::K) Q st:=by
 unfold WK
 simp only[wk]
 congr 1
theorem zap(c:Operand)(x y:Code):WK X (.cond c x y) K Q st=CND (st.ev c) X x y K Q st:=nr _
theorem zaa(t:Bool)(x y:Code):CND (.sc (.bool t)) X x y K Q st=CNB t X x y K Q st:=nr _
theorem zab(x y:Code):CNB true X x y K Q st=WK X x K Q st:=by simp[CNB]
theorem zac(x y:Code):CNB false X x y K Q st=WK X y K Q st:=by simp[CNB]
theorem zad(p:Prop) [Decidable p](x y:Code):CNB (decide p) X x y K Q st=((p→WK X x K Q st)∧(¬p→WK X y K Q st)):=by simp[CNB]
theorem zae(t:Bool)(x y:Code):CNB (!t) X x y K Q st=CNB t X y x K Q st:=by cases t<;>simp[CNB]
theorem zat(id:Nat)(ops:Array Oper):WK X (.region id ops false) K Q st=WO X id ops ops.toList 0 K Q st:=nr _
theorem zau(id:Nat)(ops:Array Oper):WK X (.region id ops true) K Q st=WD X id ops ops.toList 0 [] K Q st:=nr _
theorem zbf(rid:Nat)(ops:Array Oper)(i:Nat):WO X rid ops [] i K Q st=AFT X K Q .normal st:=nr _
theorem zbg(rid:Nat)(ops:Array Oper)(o:Oper)(rest:List Oper)(i:Nat):WO X rid ops (o::rest) i K Q st=STP (zbl ops o st) X rid ops o rest i K Q st:=nr _
theorem zaf(rid:Nat)(ops:Array Oper)(o:Oper)(rest:List Oper)(i:Nat):STP (some true) X rid ops o rest i K Q st=CLL (zbm st.ev o.op) X rid ops o rest i K Q st:=nr _
theorem zag(rid:Nat)(ops:Array Oper)(o:Oper)(rest:List Oper)(i:Nat):STP (some false) X rid ops o rest i K Q st=WO X rid ops rest (i+1) K Q (st.put o.dst (.sc undef)):=nr _
theorem zah(rid:Nat)(ops:Array Oper)(o:Oper)(rest:List Oper)(i:Nat):CLL none X rid ops o rest i K Q st=OPE (opK X.ti (a1F rid i) st.ro st.gn st.ev o.op) o.op X rid ops o.dst rest i K Q st:=nr _
theorem zai(e:Eff)(op:Op)(rid:Nat)(ops:Array Oper)(d:Option Tmp)(rest:List Oper)(i:Nat):OPE (some e) op X rid ops d rest i K Q st=WO X rid ops rest (i+1) K Q ((st.eff e).put d e.v):=nr _
theorem b1q{f:Nat}{args:List AV}{rid:Nat}{ops:Array Oper}{o:Oper}{rest:List Oper}{i:Nat}(hi:X.isIn f=false)(r:AV)(h:a0d X.P f (a3g st.ro args) r)(ho:okR args r=true)
  (hk:WO X rid ops rest (i+1) K Q ((st.eff (a2k (a1F rid i) st.gn r)).put o.dst (a2k (a1F rid i) st.gn r).v)):CLL (some (f,args)) X rid ops o rest i K Q st:=by
 simp only[CLL,hi,cond_false];exact⟨r,h,ho,hk⟩
theorem c3H{f:Nat}{args:List AV}{rid:Nat}{ops:Array Oper}{o:Oper}{rest:List Oper}{i:Nat}(hi:X.isIn f=true)(r:AV)(ro':Ro)(gn':Nat→Nat)(h:a9B X.P f args st.ro st.gn r ro' gn')
  (hk:WO X rid ops rest (i+1) K Q ((⟨st.sl,ro',gn'⟩:St).put o.dst r)):CLL (some (f,args)) X rid ops o rest i K Q st:=by
 simp only[CLL,hi,cond_true];exact⟨_,h.toS,by rintro _ _ _ ⟨rfl,rfl,rfl⟩;exact hk⟩
theorem a0p{f:Nat}{args:List AV}{rid:Nat}{ops:Array Oper}{o:Oper}{rest:List Oper}{i:Nat}{Po:AV→Ro→(Nat→Nat)→Prop}(hi:X.isIn f=true)(h:InS X.P f args st.ro st.gn Po)
  (hk: ∀r ro' gn',Po r ro' gn'→WO X rid ops rest (i+1) K Q ((⟨st.sl,ro',gn'⟩:St).put o.dst r)):CLL (some (f,args)) X rid ops o rest i K Q st:=by
 simp only[CLL,hi,cond_true];exact⟨Po,h,hk⟩
theorem zbh(rid:Nat)(ops:Array Oper)(i:Nat)(acc:List FP):WD X rid ops [] i acc K Q st=FIN X ops (rvA acc []) K Q st:=by rw[b5D,List.append_nil];exact nr _
theorem zbi(rid:Nat)(ops:Array Oper)(o:Oper)(rest:List Oper)(i:Nat)(acc:List FP):WD X rid ops (o::rest) i acc K Q st=c4s (zbl ops o st) X rid ops o rest i acc K Q st:=nr _
theorem zaj(rid:Nat)(ops:Array Oper)(o:Oper)(rest:List Oper)(i:Nat)(acc:List FP):c4s (some true) X rid ops o rest i acc K Q st=b9h (zbm st.ev o.op) (rdR st.ro st.ev o.op) X rid ops o rest i acc K Q st:=nr _
theorem zak(rid:Nat)(ops:Array Oper)(o:Oper)(rest:List Oper)(i:Nat)(acc:List FP):c4s (some false) X rid ops o rest i acc K Q st=WD X rid ops rest (i+1) (⟨some [],[]⟩::acc) K Q (st.put o.dst (.sc undef)):=nr _
theorem zal(rd:Option (List Nat))(rid:Nat)(ops:Array Oper)(o:Oper)(rest:List Oper)(i:Nat)(acc:List FP):b9h none rd X rid ops o rest i acc K Q st=c4d (opK X.ti (a1F rid i) st.ro st.gn st.ev o.op) rd X rid ops o.dst rest i acc K Q st:=nr _
theorem zam(e:Eff)(rd:Option (List Nat))(rid:Nat)(ops:Array Oper)(d:Option Tmp)(rest:List Oper)(i:Nat)(acc:List FP):c4d (some e) rd X rid ops d rest i acc K Q st=WD X rid ops rest (i+1) (⟨rd,e.sites⟩::acc) K Q ((st.eff e).put d e.v):=nr _
theorem a9c{f:Nat}{args:List AV}{rd:Option (List Nat)}{rid:Nat}{ops:Array Oper}{o:Oper}{rest:List Oper}{i:Nat}{acc:List FP}(r:AV)(h:a0d X.P f (a3g st.ro args) r)(ho:okR args r=true)
  (hk:WD X rid ops rest (i+1) (⟨rd,(a2k (a1F rid i) st.gn r).sites⟩::acc) K Q ((st.eff (a2k (a1F rid i) st.gn r)).put o.dst (a2k (a1F rid i) st.gn r).v)):b9h (some (f,args)) rd X rid ops o rest i acc K Q st:= .inl ⟨r,h,ho,hk⟩
theorem zhn(rid:Nat)(ops:Array Oper)(fin:List FP)(i:Nat)(acc:List FP):WG X rid ops fin [] i acc K Q st=FING X fin (rvA acc []) K Q st:=by rw[b5D,List.append_nil];exact nr _
theorem zho(rid:Nat)(ops:Array Oper)(fin:List FP)(o:Oper)(rest:List Oper)(i:Nat)(acc:List FP):WG X rid ops fin (o::rest) i acc K Q st=STPG (zbl ops o st) X rid ops fin o rest i acc K Q st:=nr _
theorem zhp(rid:Nat)(ops:Array Oper)(fin:List FP)(o:Oper)(rest:List Oper)(i:Nat)(acc:List FP):STPG (some true) X rid ops fin o rest i acc K Q st=c1x (zbm st.ev o.op) (rdR st.ro st.ev o.op) X rid ops fin o rest i acc K Q st:=nr _
theorem zhr(rd:Option (List Nat))(rid:Nat)(ops:Array Oper)(fin:List FP)(o:Oper)(rest:List Oper)(i:Nat)(acc:List FP):c1x none rd X rid ops fin o rest i acc K Q st=c4I (opK X.ti (a1F rid i) st.ro st.gn st.ev o.op) rd X rid ops fin o.dst rest i acc K Q st:=nr _
theorem zhs(e:Eff)(rd:Option (List Nat))(rid:Nat)(ops:Array Oper)(fin:List FP)(d:Option Tmp)(rest:List Oper)(i:Nat)(acc:List FP):c4I (some e) rd X rid ops fin d rest i acc K Q st=WG X rid ops fin rest (i+1) (⟨rd,e.sites⟩::acc) K Q ((st.eff e).put d e.v):=nr _
theorem b4p{f:Nat}{args:List AV}{rd:Option (List Nat)}{rid:Nat}{ops:Array Oper}{fin:List FP}{o:Oper}{rest:List Oper}{i:Nat}{acc:List FP}(r:AV)(h:a0d X.P f (a3g st.ro args) r)(ho:okR args r=true)
  (hk:WG X rid ops fin rest (i+1) (⟨rd,(a2k (a1F rid i) st.gn r).sites⟩::acc) K Q ((st.eff (a2k (a1F rid i) st.gn r)).put o.dst (a2k (a1F rid i) st.gn r).v)):c1x (some (f,args)) rd X rid ops fin o rest i acc K Q st:= .inl ⟨r,h,ho,hk⟩
theorem a6K{fin fp:List FP}(h:fp=fin)(h2:AFT X K Q .normal st):FING X fin fp K Q st:=⟨by rw[h];exact a5I.refl _,h2⟩
theorem a4T{f:Nat}{args:List AV}{rd:Option (List Nat)}{rid:Nat}{ops:Array Oper}{o:Oper}{rest:List Oper}{i:Nat}{acc:List FP}(fin:List FP){Po:AV→Ro→(Nat→Nat)→Prop}{R W:List Nat}(h:inX X ops i f args st Po R W)
  (h0:acc.length=i) (hk: ∀r ro' gn',Po r ro' gn'→WG X rid ops fin rest (i+1) (⟨some R,W⟩::acc) K Q ((⟨st.sl,ro',gn'⟩:St).put o.dst r)) (h1:fin.length=ops.size) (h2:okD ops fin=true) (h3:((⟨some R,W⟩:FP)::acc).reverse=fin.take (i+1)):b9h (some (f,args)) rd X rid ops o rest i acc K Q st:=
 .inr ⟨fin,Po,R,W,h1,h2,h0,h3,h,fun r ro' gn' k=>b2i _ _ _ _ _ _ (fun _ h=>⟨h2,h⟩) (hk r ro' gn' k)⟩
theorem a5c{f:Nat}{args:List AV}{rd:Option (List Nat)}{rid:Nat}{ops:Array Oper}{fin:List FP}{o:Oper}{rest:List Oper}{i:Nat}{acc:List FP}{Po:AV→Ro→(Nat→Nat)→Prop}{R W:List Nat}(h:inX X ops i f args st Po R W)
  (hk: ∀r ro' gn',Po r ro' gn'→WG X rid ops fin rest (i+1) (⟨some R,W⟩::acc) K Q ((⟨st.sl,ro',gn'⟩:St).put o.dst r)) (h3:((⟨some R,W⟩:FP)::acc).reverse=fin.take (i+1)):c1x (some (f,args)) rd X rid ops fin o rest i acc K Q st:=
 .inr ⟨Po,R,W,h3,h,hk⟩
theorem a0r{ops:Array Oper}{fp:List FP}(h:okD ops fp=true)(h2:AFT X K Q .normal st):FIN X ops fp K Q st:=⟨h,h2⟩
theorem b7C{c:Code}(I:Nat→St→Prop)(N:Nat){st0:St}(hG:Gh st st0)(h0:I 0 st0)(h: ∀k sl ro gn,k≤N→I k ⟨sl,ro,gn⟩→WK X c (.lp (fun st=>k<N∧I (k+1) st)::K) Q ⟨sl,ro,gn⟩):WK X (.loop c) K Q st:=by
 refine⟨st0,hG,fun m st=> ∃k,k≤N∧m=N-k∧I k st,N,⟨0,Nat.zero_le _,rfl,h0⟩,?_⟩
 rintro m ⟨sl,ro,gn⟩ ⟨k,hk,rfl,hI⟩
 refine a5e c ?_ (h k sl ro gn hk hI)
 intro e st' ha
 cases e with
 |normal=>
  simp only[zbc]at ha
  exact⟨N-(k+1),by omega,k+1,by omega,rfl,ha.2⟩
 |_=>exact ha
theorem a6y{c:Code}(I:Nat→St→Prop)(N:Nat){st0:St}(hG:Gh st st0)(h0:I 0 st0)(h: ∀k sl ro gn,k<N→I k ⟨sl,ro,gn⟩→WK X c (.lp (fun st=>I (k+1) st)::K) Q ⟨sl,ro,gn⟩)(he: ∀sl ro gn,I N ⟨sl,ro,gn⟩→WK X c (.lp (fun _=>False)::K) Q ⟨sl,ro,gn⟩):WK X (.loop c) K Q st:=by
 refine b7C I N hG h0 fun k sl ro gn hk hI=>?_
 rcases Nat.lt_or_ge k N with hlt|hge
 ·refine a5e c ?_ (h k sl ro gn hlt hI)
  intro e st' ha
  cases e with
  |normal=>exact⟨hlt,ha⟩
  |_=>exact ha
 ·have:k=N:=by omega
  subst this
  refine a5e c ?_ (he sl ro gn hI)
  intro e st' ha
  cases e with
  |normal=>exact ha.elim
  |_=>exact ha
theorem a0f{c:Code}(I:Nat→St→Prop)(N:Nat)(h0:I 0 st)(h: ∀k sl ro gn,k<N→I k ⟨sl,ro,gn⟩→WK X c (.lp (fun st=>I (k+1) st)::K) Q ⟨sl,ro,gn⟩)(he: ∀sl ro gn,I N ⟨sl,ro,gn⟩→WK X c (.lp (fun _=>False)::K) Q ⟨sl,ro,gn⟩):WK X (.loop c) K Q st:=a6y I N .refl h0 h he
theorem c4f{g:Operand}{ps:Array Tmp}{x y:Code}(Q0:Exit→St→Prop)(h:c3i X.P (.rangeFunc g ps x y) Q0 st)(hq: ∀e st',Q0 e st'→AFT X K Q e st'):WK X (.rangeFunc g ps x y) K Q st:=⟨Q0,h,hq⟩
theorem b7Y{c:Code}(I:Nat→St→Prop)(n:Nat)(h0:I n st)(h: ∀n sl ro gn,I n ⟨sl,ro,gn⟩→WK X c (.lp (fun st=> ∃m,m<n∧I m st)::K) Q ⟨sl,ro,gn⟩):WK X (.loop c) K Q st:=by
 refine⟨st,.refl,I,n,h0,?_⟩
 rintro m ⟨sl,ro,gn⟩ hI
 refine a5e c ?_ (h m sl ro gn hI)
 intro e st' ha
 cases e<;>exact ha
end
def RET(ti:Nat→Option TI)(rs:List ResultVar)(r:AV)(e:Exit)(st:St):Prop:=(e= .normal∨e= .ret)∧a1Z ti rs st=some r
theorem zbj{ti:Nat→Option TI}{rs:List ResultVar}{r:AV}{st:St}:RET ti rs r .normal st=(a1Z ti rs st=some r):=by simp[RET]
theorem zbk{ti:Nat→Option TI}{rs:List ResultVar}{r:AV}{st:St}:RET ti rs r .ret st=(a1Z ti rs st=some r):=by simp[RET]
theorem b2l{P:Program}{ti:Nat→Option TI}(isIn:Nat→Bool)(T:TOK P ti)(hm:P.follows .mixedOrders=true){f:Nat}{fn:Func}{code:Code}{args:List AV}{r:AV}(hf:P.funcs[f]?=some fn)(hb:fn.body=some code)
  (hok : (!(fn.name == "runtime.NumGoroutine") && a1z fn.ntmps code && decide (args.length ≤ fn.ntmps)) = true) (hn : a0C r = true)
  (h: ∀sl:Nat→AV,(∀k,sl k=args.getD k (.sc undef))→WK ⟨P,ti,isIn⟩ code [] (RET ti fn.results.toList r) ⟨sl,fun _ _=>none,fun _=>0⟩):a0d P f args r:=by
 simp only[Bool.and_eq_true,Bool.not_eq_true',decide_eq_true_eq]at hok
 obtain⟨⟨h1,h2⟩,h3⟩:=hok
 exact a7g (C:=(⟨P,ti,isIn⟩:WX).cfg) T (a2I P ti) hm hf hb h1 h2 h3 hn (c0F code (h _ fun _=>rfl))
def RETI(ti:Nat→Option TI)(rs:List ResultVar)(r:AV)(ro':Ro)(gn':Nat→Nat)(e:Exit)(st:St):Prop:=(e= .normal∨e= .ret)∧(∃xs,a1H ti st rs=some xs∧r=a3a xs)∧st.ro=ro'∧st.gn=gn'
theorem c1Q{P:Program}{ti:Nat→Option TI}(isIn:Nat→Bool)(T:TOK P ti)(hm:P.follows .mixedOrders=true){f:Nat}{fn:Func}{code:Code}{args:List AV}{r:AV}{ro ro':Ro}{gn gn':Nat→Nat}(hf:P.funcs[f]?=some fn)(hb:fn.body=some code)
  (hok : (!(fn.name == "runtime.NumGoroutine") && a1z fn.ntmps code && decide (args.length ≤ fn.ntmps)) = true)
  (h: ∀sl:Nat→AV,(∀k,sl k=args.getD k (.sc undef))→WK ⟨P,ti,isIn⟩ code [] (RETI ti fn.results.toList r ro' gn') ⟨sl,ro,gn⟩):a9B P f args ro gn r ro' gn':=by
 simp only[Bool.and_eq_true,Bool.not_eq_true',decide_eq_true_eq]at hok
 obtain⟨⟨h1,h2⟩,h3⟩:=hok
 exact b1X (C:=(⟨P,ti,isIn⟩:WX).cfg) T (a2I P ti) hm hf hb h1 h2 h3 (c0F code (h _ fun _=>rfl))
def c1A(ti:Nat→Option TI)(rs:List ResultVar)(Po:AV→Ro→(Nat→Nat)→Prop)(e:Exit)(st:St):Prop:=(e= .normal∨e= .ret)∧ ∃xs,a1H ti st rs=some xs∧Po (a3a xs) st.ro st.gn
theorem b9u{P:Program}{ti:Nat→Option TI}(isIn:Nat→Bool)(T:TOK P ti)(hm:P.follows .mixedOrders=true){f:Nat}{fn:Func}{code:Code}{args:List AV}{ro:Ro}{gn:Nat→Nat}{Po:AV→Ro→(Nat→Nat)→Prop}(hf:P.funcs[f]?=some fn)(hb:fn.body=some code)
  (hok : (!(fn.name == "runtime.NumGoroutine") && a1z fn.ntmps code && decide (args.length ≤ fn.ntmps)) = true)
  (h: ∀sl:Nat→AV,(∀k,sl k=args.getD k (.sc undef))→WK ⟨P,ti,isIn⟩ code [] (c1A ti fn.results.toList Po) ⟨sl,ro,gn⟩):InS P f args ro gn Po:=by
 simp only[Bool.and_eq_true,Bool.not_eq_true',decide_eq_true_eq]at hok
 obtain⟨⟨h1,h2⟩,h3⟩:=hok
 exact a9u (C:=(⟨P,ti,isIn⟩:WX).cfg) T (a2I P ti) hm hf hb h1 h2 h3 (c0F code (h _ fun _=>rfl))
theorem zcy(f:Nat→AV)(k:Nat)(v:AV)(j:Nat):upd f k v j=if j=k then v else f j:=nr _
theorem zcz(f:Nat→AV)(k:Nat)(v:AV):upd f k v k=v:=upd_same f k v
theorem zda(f:Nat→Nat)(k v j:Nat):upg f k v j=if j=k then v else f j:=nr _
theorem zdb(f:Ro)(s g:Nat)(a:AV)(s' g':Nat):upr f s g a s' g'=if s'=s∧g'=g then some a else f s' g':=nr _
theorem zct(st:St)(v:AV):st.eff ⟨v,none,[],[]⟩=st:=nr _
theorem zcv(sl:Nat→AV)(ro:Ro)(gn:Nat→Nat)(v:AV)(x:Wr):(⟨sl,ro,gn⟩:St).eff ⟨v,some x,[],[]⟩=⟨sl,ro.wr x,gn⟩:=nr _
theorem zcw(sl:Nat→AV)(ro:Ro)(gn:Nat→Nat)(d:Tmp)(v:AV):(⟨sl,ro,gn⟩:St).put (some d) v=⟨upd sl d v,ro,gn⟩:=nr _
theorem zcx(st:St)(v:AV):st.put none v=st:=nr _
def zek(i:Option TI)(b:Nat)(gn:Nat→Nat):Option Eff:=match i with
 |some inf=>some ⟨.ptr b (gn b+1) [] 0,none,[],[(b,.bx (inf.zero.map .sc))]⟩
 |none=>none
def kBox(b:Nat)(ro:Ro)(gn:Nat→Nat)(x:AV):Option Eff:=
 if(zem x).all (a1n ro)then(if(zem x).length≤65536 then some ⟨.ptr b (gn b+1) [] 0,none,[],[(b,.bx (zem x))]⟩else none)else none
def zel(ti:Nat→Option TI)(i:Option TI)(ro:Ro)(ev:Operand→AV)(parts:List (Nat×Operand)):Option Eff:=match i with
 |some inf=>if inf.isAgg then(match zfa ti ro (match inf.arr with|some (n,e)=>(List.range n).map (fun j=>(j,e))|none=>inf.flds) ev (inf.zero.map .sc) parts with
     |some cs=>some ⟨.agg cs,none,[],[]⟩
     |none=>none)else none
 |none=>none
def zeq(ti:Nat→Option TI)(b:Nat)(i:Option TI)(ro:Ro)(gn:Nat→Nat)(ev:Operand→AV)(n:Nat)(parts:List (Nat×Operand)):Option Eff:=match i with
 |some inf=>match inf.elem with
   |some e=>match ti e with
     |some ie=>match zer ro ev parts with
       |some (as,ws)=>if n≤65536∧as.all (fun p=>decide (p.1<n))then some ⟨.ref b (gn b+1) [] 0 n,none,ws,[(b,.row (zet (List.replicate n (.sc (ie.zero.getD 0 undef))) as))]⟩else none
       |none=>none
     |none=>none
   |none=>match inf.elk with
     |some (_,k)=>match a6x k ev 0 parts with
       |some cs=>if n=parts.length∧0<n∧n≤65536 then some ⟨.refk k b (gn b+1) n,none,[],[(b,.bx cs)]⟩else none
       |none=>none
     |none=>none
 |none=>none
def b0i(ti:Nat→Option TI)(b:Nat)(i:Option TI)(gn:Nat→Nat)(l c:AV):Option Eff:=match i with
 |some inf=>match inf.elem with
   |some e=>match ti e,l,c with
     |some ie,.sc (.int .i64 n),.sc (.int .i64 m)=>if 0≤n∧n≤m∧m≤a0G then
         some ⟨.ref b (gn b+1) [] 0 n.toNat,none,[],[(b,if ie.elem.isSome then .bx (List.replicate n.toNat (.sc (ie.zero.getD 0 undef)))else .row (List.replicate n.toNat (.sc (ie.zero.getD 0 undef))))]⟩else none
     |_,_,_=>none
   |none=>none
 |none=>none
def zcr(x:AV)(i:Nat):Option Eff:=match x with
 | .tup cs=>match cs[i]? with
   |some c=>some ⟨c,none,[],[]⟩
   |none=>none
 |_=>none
def kUn(op:UnOp)(x:AV):Option Eff:=match x with
 | .sc v=>match a2i (Op.unary op v)with
   |some v=>some ⟨.sc v,none,[],[]⟩
   |none=>none
 |_=>none
def kNil(ro:Ro)(x:AV):Option Eff:=if zee ro x then(match x with
 | .ptr s g p i=>some ⟨.ptr s g p i,none,[],[]⟩
 |_=>none)else none
def a9H(ti:Nat→Option TI)(i:Option TI)(x:AV)(f:Nat):Option Eff:=match i with
 |some inf=>match inf.flds[f]? with
   |some (off,ft)=>match ti ft,x with
     |some fi,.agg cs=>if inf.isAgg∧off+fi.size≤cs.length then
         (if fi.isAgg then some ⟨.agg ((cs.drop off).take fi.size),none,[],[]⟩else match cs[off]? with
           |some c=>some ⟨c,none,[],[]⟩
           |none=>none)
       else none
     |_,_=>none
   |none=>none
 |none=>none
def b5W(ti:Nat→Option TI)(ro:Ro)(i j:Option TI)(x:AV):Option Eff:=match i,j,x with
 |some i,some j,.sc (.int _ n)=>match i.ik,j.ik with
   |some _,some k=>match a2i (Conv.intToInt k n)with
     |some v=>some ⟨.sc v,none,[],[]⟩
     |none=>none
   |_,_=>none
 |some i,some j,.ref s g p off n=>b5E ti ro i j s g p off n
 |_,_,_=>none
def kApp(ti:Nat→Option TI)(t t':Nat)(i:Option TI)(tt:Prop) [Decidable tt](b:Nat)(ro:Ro)(gn:Nat→Nat)(x y:AV):Option Eff:=
 if tt∧(i.bind (·.elem)).isSome then match zeu ro y with
   |some (el,ws)=>match x with
     | .sc (.slice none 0 0)=>if el.length=0 then some ⟨.sc (.slice none 0 0),none,[],[]⟩
         else if el.length≤a0G then some ⟨.ref b (gn b+1) [] 0 el.length,none,ws,[(b,.row el)]⟩else none
     | .ref s g [] off n=>match (ro.dl ws) s g with
       |some (.row cs)=>if n+el.length≤a0G then
           some ⟨.ref s (gn s+1) [] 0 (n+el.length),none,ws++ [(s,g)],[(s,.row ((cs.drop off).take n++el))]⟩else none
       |_=>none
     |_=>none
   |none=>none
   else b6X ti t t' ro gn x y
def a5x(i:Option TI)(ro:Ro)(x:AV):Option Eff:=match i with
 |some inf=>match x with
   | .ref s g p _ n=>if inf.elem.isSome∧(ro.cells s g p).isSome then some ⟨.sc (.int .i64 n),none,[],[]⟩else none
   | .imm cs=>if inf.elem.isSome then some ⟨.sc (.int .i64 cs.length),none,[],[]⟩else none
   | .sc (.string s)=>if inf.str then some ⟨.sc (.int .i64 s.size),none,[],[]⟩else none
   | .sc (.slice _ n _)=>if inf.elem.isSome then some ⟨.sc (.int .i64 n),none,[],[]⟩else none
   | .refk _ s g n=>if inf.elk.isSome∧(ro.cells s g []).isSome then some ⟨.sc (.int .i64 n),none,[],[]⟩else none
   | .immk _ n _=>if inf.elk.isSome then some ⟨.sc (.int .i64 n),none,[],[]⟩else none
   |_=>none
 |none=>none
def kMax(x y:AV):Option Eff:=match x,y with
 | .sc (.int k n),.sc (.int k' m)=>if k=k' then some ⟨.sc (.int k (if m>n then m else n)),none,[],[]⟩else none
 |_,_=>none
def kMin(x y:AV):Option Eff:=match x,y with
 | .sc (.int k n),.sc (.int k' m)=>if k=k' then some ⟨.sc (.int k (if m<n then m else n)),none,[],[]⟩else none
 |_,_=>none
section
variable{ti:Nat→Option TI}{b:Nat}{ro:Ro}{gn:Nat→Nat}{ev:Operand→AV}
theorem zbn(x:Operand):opK ti b ro gn ev (.move x)=some ⟨ev x,none,[],[]⟩:=nr _
theorem zbo(x:Operand):opK ti b ro gn ev (.assign x)=some ⟨ev x,none,[],[]⟩:=nr _
theorem zbp(c x y:Operand):opK ti b ro gn ev (.pick c x y)=zcm (ev c) (ev x) (ev y):=nr _
theorem zbq(op:BinOp)(t:TypeId)(x y:Operand)(z):opK ti b ro gn ev (.binOp op t x y z)=b3l (ti t) ro op (ev x) (ev y):=nr _
theorem zbr(op:UnOp)(t:TypeId)(x:Operand):opK ti b ro gn ev (.unOp op t x)=kUn op (ev x):=nr _
theorem zbs(t:TypeId)(x:Operand):opK ti b ro gn ev (.load t x)=zcp (ti t) ro (ev x):=nr _
theorem zbt(t:TypeId)(x y:Operand):opK ti b ro gn ev (.store t x y)=zeo (ti t) ro (ev x) (ev y):=nr _
theorem zbu(t:TypeId)(x:Operand)(f:Nat):opK ti b ro gn ev (.fieldAddr t x f)=zec (ti t) ro (ev x) f:=nr _
theorem zhl(x:Operand):opK ti b ro gn ev (.nilCheck x)=kNil ro (ev x):=nr _
theorem zbv(t:TypeId)(x:Operand)(f:Nat):opK ti b ro gn ev (.field t x f)=a9H ti (ti t) (ev x) f:=nr _
theorem zbw(t:TypeId)(x ix:Operand):opK ti b ro gn ev (.indexAddr t x ix)=a5J (ti t) ro (ev x) (ev ix):=nr _
theorem zbx(t:TypeId):opK ti b ro gn ev (.alloc t)=zek (ti t) b gn:=nr _
theorem zby(t:TypeId)(x:Operand):opK ti b ro gn ev (.box t x)=kBox b ro gn (ev x):=nr _
theorem zbz(t:TypeId)(p:Array (Nat×Operand)):opK ti b ro gn ev (.build t p)=zel ti (ti t) ro ev p.toList:=nr _
theorem zca(t:TypeId)(n:Nat)(p:Array (Nat×Operand)):opK ti b ro gn ev (.buildSlice t n p)=zeq ti b (ti t) ro gn ev n p.toList:=nr _
theorem zcb(t:TypeId)(l c:Operand):opK ti b ro gn ev (.makeSlice t l c)=b0i ti b (ti t) gn (ev l) (ev c):=nr _
theorem zcc(x:Operand)(i:Nat):opK ti b ro gn ev (.extract x i)=zcr (ev x) i:=nr _
theorem zcd(s d:TypeId)(x:Operand):opK ti b ro gn ev (.convert s d x)=b5W ti ro (ti s) (ti d) (ev x):=nr _
theorem zce(c:Call):opK ti b ro gn ev (.call c)=a6M ti b ro gn ev c:=nr _
theorem zcf(x:Operand)(t:TypeId):a6M ti b ro gn ev ⟨.builtin .len, #[x], #[t]⟩=a5x (ti t) ro (ev x):=nr _
def kCpy(i:Option Nat)(ro:Ro)(x y:AV):Option Eff:=if i.isSome then match x with
     | .ref s g p off n=>match ro.cells s g p,zeu ro y with
       |some cs,some (el,[])=>if el.all zez∧el.length=n∧0<n∧off+n≤cs.length then some ⟨.sc (.int .i64 n),some ⟨s,g,p,off,el⟩,[],[]⟩else none
       |_,_=>none
     |_=>none
     else none
def c0Q(i ie:Option TI)(ro:Ro)(x:AV):Option Eff:=match i,ie with
 |some _,some ie=>match x with
   | .ref s g p off n=>match ro.cells s g p with
     |some cs=>if off+n≤cs.length∧0<n∧a1O (ie.zero.getD 0 undef)=true then some ⟨.tup [],some ⟨s,g,p,off,List.replicate n (.sc (ie.zero.getD 0 undef))⟩,[],[]⟩else none
     |none=>none
   |_=>none
 |_,_=>none
theorem zht(x:Operand)(t:TypeId):a6M ti b ro gn ev ⟨.builtin .clear, #[x], #[t]⟩=c0Q (ti t) ((ti t).bind fun i=>i.elem.bind ti) ro (ev x):=by
 simp only[a6M,a7a,c0Q]
 cases h1:ti t with
 |none=>simp
 |some inf=>
   cases h2:inf.elem with
   |none=>simp[h2]
   |some el=>
     cases h3:ti el with
     |none=>simp[h2,h3]
     |some ie=>
       simp only[h2,h3,Option.bind_some]<;>cases ev x<;>rfl
theorem zcg(x y:Operand)(t t':TypeId):a6M ti b ro gn ev ⟨.builtin .append, #[x,y], #[t,t']⟩=kApp ti t t' (ti t) (t=t') b ro gn (ev x) (ev y):=nr _
theorem zch(x y:Operand)(ts:Array TypeId):a6M ti b ro gn ev ⟨.builtin .max, #[x,y],ts⟩=kMax (ev x) (ev y):=nr _
theorem zci(x y:Operand)(ts:Array TypeId):a6M ti b ro gn ev ⟨.builtin .min, #[x,y],ts⟩=kMin (ev x) (ev y):=nr _
end
theorem zcj(b:Bool):kUn .not (bo b)=some ⟨bo (!b),none,[],[]⟩:=nr _
theorem zck(n:Int):kUn .neg (i64 n)=some ⟨i64 (wrF (0-n)),none,[],[]⟩:=by rw[b0Y];rfl
theorem a0w{a b:Int}(h:a=b):i64 a=i64 b:=by rw[h]
theorem zen{ro:Ro}{s g:Nat}{p:List Nat}{off n k:Nat}{a1:Nat}{a2:Bool}{a3:List Value}{e:Nat}{a5:List (Nat×Nat)}{a6:Option IntKind}{a7 a8:Bool}{a9 a10:Option (Nat×Nat)}:a5J (some ⟨a1,a2,a3,some e,a5,a6,a7,a8,a9,a10⟩) ro (.ref s g p off n) (i64 (k:Int))=if k<n∧(ro.cells s g p).isSome=true then some ⟨.ptr s g p (off+k),none,[],[]⟩else none:=by
 simp only[a5J,Int.natCast_nonneg,true_and,Int.ofNat_lt,Int.toNat_natCast]
theorem zep(ro:Ro)(s g:Nat)(p:List Nat)(o n:Nat):a1n ro (.ref s g p o n)=(ro.cells s g p).isSome:=nr _
theorem zfj(ro:Ro)(v:Value):a1n ro (.sc v)=a1O v:=nr _
theorem zfk(ro:Ro)(cs:List AV):a1n ro (.imm cs)=true:=nr _
theorem zfn(s g:Nat)(p:List Nat)(v:Value):lift s g p (.sc v)= .sc v:=nr _
theorem zfp(s g:Nat)(p:List Nat)(cs:List AV):lift s g p (.row cs)= .ref s g p 0 cs.length:=nr _
def rdP(ev:Operand→AV):List (Nat×Operand)→List Nat
 | []=>[]
 |(_,x)::r=>zdy (ev x)++rdP ev r
def rdA(ev:Operand→AV):List Operand→List Nat
 | []=>[]
 |x::r=>zdy (ev x)++rdA ev r
theorem c3z(ev:Operand→AV)(l:List (Nat×Operand)):(l.flatMap fun p=>zdy (ev p.2))=rdP ev l:=by
 induction l with
 |nil=>rfl
 |cons x l ih=>obtain⟨i,x⟩:=x;simp only[List.flatMap_cons,ih,rdP]
theorem c3D(ev:Operand→AV)(l:List Operand):(l.flatMap fun p=>zdy (ev p))=rdA ev l:=by
 induction l with
 |nil=>rfl
 |cons x l ih=>simp only[List.flatMap_cons,ih,rdA]
def rdC(a:AV)(args:List AV):Option (List Nat):=match a with
 | .fn _ caps=>if a0Q (args++caps)then some []else none
 |_=>some []
section
variable{ev:Operand→AV}
theorem zdc(x:Operand):rdS ev (.move x)=some []:=nr _
theorem zdd(x:Operand):rdS ev (.assign x)=some []:=nr _
theorem zde(c x y:Operand):rdS ev (.pick c x y)=some []:=nr _
theorem zdg(op:UnOp)(t:TypeId)(x:Operand):rdS ev (.unOp op t x)=some []:=nr _
theorem zdk(t:TypeId)(x:Operand)(f:Nat):rdS ev (.field t x f)=some []:=nr _
theorem zdt(x:Operand)(i:Nat):rdS ev (.extract x i)=some []:=nr _
theorem zdu(s d:TypeId)(x:Operand):rdS ev (.convert s d x)=some (zdy (ev x)):=nr _
theorem zdf(op:BinOp)(t:TypeId)(x y:Operand)(z):rdS ev (.binOp op t x y z)=some (zdy (ev x)):=nr _
theorem zdh(t:TypeId)(x:Operand):rdS ev (.load t x)=some (zdy (ev x)):=nr _
theorem zdi(t:TypeId)(x y:Operand):rdS ev (.store t x y)=some (zdy (ev x)++zdy (ev y)):=nr _
theorem a8Q(x:Operand):rdS ev (.nilCheck x)=some (zdy (ev x)):=nr _
theorem zdj(t:TypeId)(x:Operand)(f:Nat):rdS ev (.fieldAddr t x f)=some (zdy (ev x)):=nr _
theorem zdl(t:TypeId)(x ix:Operand):rdS ev (.indexAddr t x ix)=some (zdy (ev x)):=nr _
theorem zds(t:TypeId)(x:Operand)(a b c:Option Operand):rdS ev (.slice t x a b c)=some (zdy (ev x)):=nr _
theorem zdq(t:TypeId)(n:Nat)(p:Array (Nat×Operand)):rdS ev (.buildSlice t n p)=some (rdP ev p.toList):=by rw[←c3z];rfl
theorem zdv(b:Builtin)(args:Array Operand)(ts:Array TypeId):rdS ev (.call ⟨.builtin b,args,ts⟩)=some (rdA ev args.toList):=by rw[←c3D];rfl
theorem zdw(f:Operand)(args:Array Operand)(ts:Array TypeId):rdS ev (.call ⟨.value f,args,ts⟩)=rdC (ev f) (args.toList.map ev):=by
 simp only[rdS,rdC]
 cases ev f<;>rfl
end
theorem isub(a b:Int):Int.sub a b=a-b:=nr _
theorem beqT(b:Bool):(b==true)=b:=by cases b<;>rfl
theorem beqF(b:Bool):(b==false)=!b:=by cases b<;>rfl
def b0G:Option AV→Option (List AV)
 |some (.row cs)=>some cs
 |some (.bx cs)=>some cs
 |_=>none
theorem zeh(cs:List AV):b0G (some (.row cs))=some cs:=nr _
theorem zei(cs:List AV):b0G (some (.bx cs))=some cs:=nr _
theorem zef(ro:Ro)(s g:Nat):ro.cells s g []=b0G (ro s g):=by
 unfold Ro.cells b0G
 cases ro s g with
 |none=>rfl
 |some a=>cases a<;>rfl
def c3Y:Option AV→Option (List AV)
 |some (.row cs)=>some cs
 |_=>none
def inO(i:Nat):Option AV→Option (List AV)
 |some (.row cs)=>c3Y cs[i]?
 |_=>none
theorem b5y(i:Nat)(cs:List AV):inO i (some (.row cs))=c3Y cs[i]?:=nr _
theorem b2f(cs:List AV):c3Y (some (.row cs))=some cs:=nr _
theorem zeg(ro:Ro)(s g i:Nat):ro.cells s g [i]=inO i (ro s g):=by
 unfold Ro.cells inO Ro.at
 cases h:ro s g with
 |none=>rfl
 |some a=>
   cases a<;>try rfl
   rename_i cs
   simp only[ath]
   cases h2:cs[i]? with
   |none=>rfl
   |some c=>cases c<;>rfl
abbrev a1q:AV:= .sc (.slice none 0 0)
def isL(a:AV)(xs:List Int):Prop:=a= .imm (xs.map i64)∨(xs=[]∧a=a1q)
def b6z:List AV→List (List Int)→Prop
 | [],[]=>True
 |a::as,x::xs=>isL a x∧b6z as xs
 |_,_=>False
def a2t(a:AV)(xss:List (List Int)):Prop:=(∃cs,a= .imm cs∧b6z cs xss)∨(xss=[]∧a=a1q)
theorem a0n(xs:List Int):isL (.imm (xs.map i64)) xs:= .inl rfl
theorem b1M: ∀ {cs:List AV} {xss:List (List Int)},b6z cs xss→cs.length=xss.length
 | [],[],_=>rfl
 |a::as,x::xs,h=>by simp only[List.length_cons];rw[b1M h.2]
 | [],_::_,h=>h.elim
 |_::_,[],h=>h.elim
theorem a7E: ∀ {cs:List AV} {xss:List (List Int)} {k:Nat},b6z cs xss→k<xss.length→ ∃c,cs[k]?=some c∧isL c (xss.getD k [])
 |a::as,x::xs,0,h,_=>⟨a,rfl,h.1⟩
 |a::as,x::xs,k+1,h,hk=>by
   obtain⟨c,h1,h2⟩:=a7E (k:=k) h.2 (by simpa using hk)
   exact⟨c,by simpa using h1,by simpa using h2⟩
 | [],[],k,_,hk=>by simp at hk
 | [],_::_,_,h,_=>h.elim
 |_::_,[],_,h,_=>h.elim
theorem b7F(xss:List (List Int)):b6z (xss.map fun xs=> .imm (xs.map i64)) xss:=by
 induction xss with
 |nil=>trivial
 |cons x xs ih=>exact⟨a0n x,ih⟩
theorem a1d(xss:List (List Int)):a2t (.imm (xss.map fun xs=> .imm (xs.map i64))) xss:= .inl ⟨_,rfl,b7F xss⟩
theorem a8K(xs:List Int):a0Q (xs.map i64)=true:=by
 induction xs with
 |nil=>rfl
 |cons x xs ih=>simp[a0Q,a0W,ih]
theorem a1J{a:AV}{xs:List Int}(h:isL a xs):a0W a=true:=by
 rcases h with rfl|⟨_,rfl⟩
 · simp[a0W,a8K]
 · rfl
theorem a9l: ∀ {cs:List AV} {xss:List (List Int)},b6z cs xss→a0Q cs=true
 | [],[],_=>rfl
 |a::as,x::xs,h=>by simp[a0Q,a1J h.1,a9l h.2]
 | [],_::_,h=>h.elim
 |_::_,[],h=>h.elim
theorem a3m{a:AV}{xss:List (List Int)}(h:a2t a xss):a0W a=true:=by
 rcases h with⟨cs,rfl,h⟩|⟨_,rfl⟩
 · simp[a0W,a9l h]
 · rfl
theorem a2r{a:AV}{xs:List Int}(h:isL a xs):zdy a=[]:=by
 rcases h with rfl|⟨_,rfl⟩<;>rfl
theorem b2D{a:AV}{xss:List (List Int)}(h:a2t a xss):zdy a=[]:=by
 rcases h with⟨cs,rfl,h⟩|⟨_,rfl⟩<;>rfl
theorem b6w(ro:Ro)(k:Nat)(xs:List Int):(xs.map i64).map (ex ro (k+1))=xs.map i64:=by
 rw[List.map_map];exact List.map_congr_left fun x _=>rfl
theorem b4Z{a:AV}{xs:List Int}(ro:Ro)(k:Nat)(h:isL a xs):ex ro (k+2) a=a:=by
 rcases h with rfl|⟨_,rfl⟩
 · show AV.imm ((xs.map i64).map (ex ro (k+1)))=_
   rw[b6w]
 · rfl
theorem a0B{a:AV}{xs:List Int}(h:isL a xs){ro:Ro}{a1:Nat}{a2:Bool}{a3:List Value}{e:Nat}{a5:List (Nat×Nat)}{a6:Option IntKind}{a7 a8:Bool}{a9 a10:Option (Nat×Nat)}:a5x (some ⟨a1,a2,a3,some e,a5,a6,a7,a8,a9,a10⟩) ro a=some ⟨i64 xs.length,none,[],[]⟩:=by
 rcases h with rfl|⟨rfl,rfl⟩
 · simp[a5x]
 · rfl
theorem a0R{a:AV}{xss:List (List Int)}(h:a2t a xss){ro:Ro}{a1:Nat}{a2:Bool}{a3:List Value}{e:Nat}{a5:List (Nat×Nat)}{a6:Option IntKind}{a7 a8:Bool}{a9 a10:Option (Nat×Nat)}:a5x (some ⟨a1,a2,a3,some e,a5,a6,a7,a8,a9,a10⟩) ro a=some ⟨i64 xss.length,none,[],[]⟩:=by
 rcases h with⟨cs,rfl,h⟩|⟨rfl,rfl⟩
 · simp[a5x,b1M h]
 · rfl
def atI(xs:List Int)(k:Nat):Int:=xs.getD k 0
theorem a0s{a:AV}{xs:List Int}(h:isL a xs){k:Nat}(hk:k<xs.length){ro:Ro}{a1:Nat}{a2:Bool}{a3:List Value}{e:Nat}{a5:List (Nat×Nat)}{a6:Option IntKind}{a7 a8:Bool}{a9 a10:Option (Nat×Nat)}:a5J (some ⟨a1,a2,a3,some e,a5,a6,a7,a8,a9,a10⟩) ro a (i64 (k:Int))=some ⟨.iptr [i64 (atI xs k)],none,[],[]⟩:=by
 rcases h with rfl|⟨rfl,rfl⟩
 · simp[a5J,atI,hk]
 · simp at hk
def atA(a:AV)(k:Nat):AV:=match a with
 | .imm cs=>cs.getD k .dead
 |_=> .dead
theorem a0S{a:AV}{xss:List (List Int)}(h:a2t a xss){k:Nat}(hk:k<xss.length){ro:Ro}{a1:Nat}{a2:Bool}{a3:List Value}{e:Nat}{a5:List (Nat×Nat)}{a6:Option IntKind}{a7 a8:Bool}{a9 a10:Option (Nat×Nat)}:a5J (some ⟨a1,a2,a3,some e,a5,a6,a7,a8,a9,a10⟩) ro a (i64 (k:Int))=some ⟨.iptr [atA a k],none,[],[]⟩:=by
 rcases h with⟨cs,rfl,h⟩|⟨rfl,rfl⟩
 · obtain⟨c,h1,h2⟩:=a7E h hk
   simp[a5J,h1,atA]
 · simp at hk
theorem b9Y{a:AV}{xss:List (List Int)}(h:a2t a xss){k:Nat}(hk:k<xss.length):isL (atA a k) (xss.getD k []):=by
 rcases h with⟨cs,rfl,h⟩|⟨rfl,rfl⟩
 · obtain⟨c,h1,h2⟩:=a7E h hk
   simpa [atA,h1]using h2
 · simp at hk
theorem zfq(sl:Nat→AV)(ro:Ro)(gn:Nat→Nat)(v:AV)(ws:List (Nat×Nat))(l:List (Nat×AV)):(⟨sl,ro,gn⟩:St).eff ⟨v,none,ws,l⟩=(⟨sl,ro.dl ws,gn⟩:St).al l:=nr _
theorem zfh(s g:Nat)(p:List Nat)(s' g':Nat)(p':List Nat)(o n:Nat):lift s g p (.ref s' g' p' o n)= .ref s' g' p' o n:=nr _
theorem zft{ti:Nat→Option TI}{b:Nat}{ro:Ro}{gn:Nat→Nat}{ev:Operand→AV}(t:TypeId)(x:Operand):opC ti b ro gn ev (.load t x)=zcp (ti t) ro (ev x):=nr _
def bxO:Option AV→Bool
 |some (.bx _)=>true
 |_=>false
theorem zew(cs:List AV):bxO (some (.row cs))=false:=nr _
theorem zex(cs:List AV):bxO (some (.bx cs))=true:=nr _
theorem zev(ro:Ro)(s g:Nat):a1L ro s g []=bxO (ro s g):=by
 unfold a1L bxO Ro.at
 cases ro s g with
 |none=>rfl
 |some a=>cases a<;>rfl
def wrN(o:Option AV)(ro:Ro)(s g i:Nat)(vs:List AV):Ro:=match o with
 |some a=>upr ro s g (a3H (setL i vs) [] a)
 |none=>ro
theorem zfb(ro:Ro)(s g i:Nat)(vs:List AV):ro.wr ⟨s,g,[],i,vs⟩=wrN (ro s g) ro s g i vs:=by
 unfold wrN Ro.wr
 cases ro s g<;>rfl
theorem zfc(cs:List AV)(ro:Ro)(s g i:Nat)(vs:List AV):wrN (some (.row cs)) ro s g i vs=upr ro s g (.row (setL i vs cs)):=nr _
theorem zfd(cs:List AV)(ro:Ro)(s g i:Nat)(vs:List AV):wrN (some (.bx cs)) ro s g i vs=upr ro s g (.bx (setL i vs cs)):=nr _
def rws{α:Type}(f:Nat→α)(n:Nat):List α:=(List.range n).map f
theorem zfe{α:Type}(f:Nat→α)(n:Nat):(rws f n).length=n:=by simp[rws]
theorem zff{α:Type}(f:Nat→α)(n:Nat):(rws f n).take n=rws f n:=List.take_of_length_le (by simp[rws])
theorem a8b{α:Type}(f:Nat→α)(n:Nat):rws f (n+1)=rws f n++ [f n]:=by simp[rws,List.range_succ]
theorem zfm{α:Type}(f:Nat→α)(n:Nat):rws f n++ [f n]=rws f (n+1):=(a8b f n).symm
theorem a1v{α:Type}(f:Nat→α):rws f 0=[]:=rfl
section
variable{X:WX}{K:List Fr}{Q:Exit→St→Prop}{sl:Nat→AV}{ro:Ro}{gn:Nat→Nat}
theorem a0c{f:Nat}{args:List AV}{rid:Nat}{ops:Array Oper}{o:Oper}{rest:List Oper}{i:Nat}(r:AV)(h:a0d X.P f args r)(hp:a0Q args=true)(hi:X.isIn f=false)(ho:a4a r=true)
   (hk:WO X rid ops rest (i+1) K Q (((⟨sl,ro,gn⟩:St).eff (a2k (a1F rid i) gn r)).put o.dst (a2k (a1F rid i) gn r).v)):CLL (some (f,args)) X rid ops o rest i K Q ⟨sl,ro,gn⟩:=by
 refine b1q hi r ?_ (by simp[okR,ho,hp]) hk
 simpa only[a3g,hp,if_true]using h
theorem a7Q{f:Nat}{args args':List AV}{rid:Nat}{ops:Array Oper}{o:Oper}{rest:List Oper}{i:Nat}(r:AV)(h:a0d X.P f args' r)(ha:a3g ro args=args')(hi:X.isIn f=false)(ho:a4a r=true)(hn:noI r=true)
   (hk:WO X rid ops rest (i+1) K Q (((⟨sl,ro,gn⟩:St).eff (a2k (a1F rid i) gn r)).put o.dst (a2k (a1F rid i) gn r).v)):CLL (some (f,args)) X rid ops o rest i K Q ⟨sl,ro,gn⟩:=by
 refine b1q hi r ?_ (by simp[okR,ho,hn]) hk
 rw[←ha]at h;exact h
theorem a0A{f:Nat}{args:List AV}{rd:Option (List Nat)}{rid:Nat}{ops:Array Oper}{o:Oper}{rest:List Oper}{i:Nat}{acc:List FP}(r:AV)(h:a0d X.P f args r)(hp:a0Q args=true)(ho:a4a r=true)
   (hk:WD X rid ops rest (i+1) (⟨rd,(a2k (a1F rid i) gn r).sites⟩::acc) K Q (((⟨sl,ro,gn⟩:St).eff (a2k (a1F rid i) gn r)).put o.dst (a2k (a1F rid i) gn r).v)):b9h (some (f,args)) rd X rid ops o rest i acc K Q ⟨sl,ro,gn⟩:=by
 refine a9c r ?_ (by simp[okR,ho,hp]) hk
 simpa only[a3g,hp,if_true]using h
theorem b3O{f:Nat}{args args':List AV}{rd:Option (List Nat)}{rid:Nat}{ops:Array Oper}{o:Oper}{rest:List Oper}{i:Nat}{acc:List FP}(r:AV)(h:a0d X.P f args' r)(ha:a3g ro args=args')(ho:a4a r=true)(hn:noI r=true)
   (hk:WD X rid ops rest (i+1) (⟨rd,(a2k (a1F rid i) gn r).sites⟩::acc) K Q (((⟨sl,ro,gn⟩:St).eff (a2k (a1F rid i) gn r)).put o.dst (a2k (a1F rid i) gn r).v)):b9h (some (f,args)) rd X rid ops o rest i acc K Q ⟨sl,ro,gn⟩:=by
 refine a9c r ?_ (by simp[okR,ho,hn]) hk
 rw[←ha]at h;exact h
theorem b3N{f:Nat}{args args':List AV}{rd:Option (List Nat)}{rid:Nat}{ops:Array Oper}{fin:List FP}{o:Oper}{rest:List Oper}{i:Nat}{acc:List FP}(r:AV)(h:a0d X.P f args' r)(ha:a3g ro args=args')(ho:a4a r=true)(hn:noI r=true)
   (hk:WG X rid ops fin rest (i+1) (⟨rd,(a2k (a1F rid i) gn r).sites⟩::acc) K Q (((⟨sl,ro,gn⟩:St).eff (a2k (a1F rid i) gn r)).put o.dst (a2k (a1F rid i) gn r).v)):c1x (some (f,args)) rd X rid ops fin o rest i acc K Q ⟨sl,ro,gn⟩:=by
 refine b4p r ?_ (by simp[okR,ho,hn]) hk
 rw[←ha]at h;exact h
theorem zej(b:Nat)(v:Value):a2k b gn (.sc v)=⟨.sc v,none,[],[]⟩:=nr _
theorem a0i(b:Nat)(cs:List AV):a2k b gn (.row cs)=⟨.ref b (gn b+1) [] 0 cs.length,none,[],[(b,.row cs)]⟩:=nr _
end
def a3U(i:Option TI)(ro:Ro)(x:AV)(lo hi:Option AV):Option Eff:=match i with
  |some inf=>match x with
   | .ref s g p off n=>if inf.elem.isSome then
     match (match lo with|none=>some 0|some y=>a3k y),(match hi with|none=>some (n:Int)|some y=>a3k y)with
     |some l,some h=>if 0≤l∧l≤h∧h≤n∧(ro.cells s g p).isSome then some ⟨.ref s g p (off+l.toNat) (h-l).toNat,none,[],[]⟩else none
     |_,_=>none
     else none
   | .imm cs=>if inf.elem.isSome then
     match (match lo with|none=>some 0|some y=>a3k y),(match hi with|none=>some (cs.length:Int)|some y=>a3k y)with
     |some l,some h=>if 0≤l∧l≤h∧h≤cs.length then some ⟨.imm ((cs.drop l.toNat).take (h-l).toNat),none,[],[]⟩else none
     |_,_=>none
     else none
   | .sc (.string s)=>if inf.str then
     match (match lo with|none=>some 0|some y=>a3k y),(match hi with|none=>some (s.size:Int)|some y=>a3k y)with
     |some l,some h=>if 0≤l∧l≤h∧h≤s.size then some ⟨.sc (.string (s.extract l.toNat h.toNat)),none,[],[]⟩else none
     |_,_=>none
     else none
   |_=>none
  |none=>none
theorem zfw{ti:Nat→Option TI}{b:Nat}{ro:Ro}{gn:Nat→Nat}{ev:Operand→AV}(t:TypeId)(x:Operand)(lo hi:Option Operand):opK ti b ro gn ev (.slice t x lo hi none)=a3U (ti t) ro (ev x) (lo.map ev) (hi.map ev):=by
 cases lo<;>cases hi<;>exact nr _
theorem zfx{ro:Ro}{s g:Nat}{p:List Nat}{off n:Nat}{l:Int}{a1:Nat}{a2:Bool}{a3:List Value}{e:Nat}{a5:List (Nat×Nat)}{a6:Option IntKind}{a7 a8:Bool}{a9 a10:Option (Nat×Nat)}:a3U (some ⟨a1,a2,a3,some e,a5,a6,a7,a8,a9,a10⟩) ro (.ref s g p off n) (some (i64 l)) none=if 0≤l∧l≤n∧(ro.cells s g p).isSome=true then some ⟨.ref s g p (off+l.toNat) (n-l).toNat,none,[],[]⟩else none:=by
 simp only[a3U,a3k,Int.le_refl,true_and,Option.isSome_some,if_true]
theorem zfy{ro:Ro}{a b:Bool}{a1:Nat}{a2:Bool}{a3:List Value}{a4:Option Nat}{a5:List (Nat×Nat)}{a6:Option IntKind}{a7:Bool}{a9 a10:Option (Nat×Nat)}:a3G (some ⟨a1,a2,a3,a4,a5,a6,a7,true,a9,a10⟩) ro .neq (bo a) (bo b)=some ⟨bo (!(a==b)),none,[],[]⟩:=nr _
def kFunc(f:Nat)(first:Bool)(caps:List AV):Option Eff:=if first then some ⟨.fn f caps,none,[],[]⟩else none
theorem zga{ti:Nat→Option TI}{b:Nat}{ro:Ro}{gn:Nat→Nat}{ev:Operand→AV}(f:Nat)(caps:Array Operand):opK ti b ro gn ev (.makeFunc (.func f) #[] caps)=some ⟨.fn f (caps.toList.map ev),none,[],[]⟩:=nr _
section
variable{ev:Operand→AV}{ro:Ro}
theorem zgc(x:Operand):rdR ro ev (.move x)=some []:=a1p (zdc ..)
theorem zgd(x:Operand):rdR ro ev (.assign x)=some []:=a1p (zdd ..)
theorem zge(c x y:Operand):rdR ro ev (.pick c x y)=some []:=a1p (zde ..)
theorem zgg(op:UnOp)(t:TypeId)(x:Operand):rdR ro ev (.unOp op t x)=some []:=a1p (zdg ..)
theorem zgk(t:TypeId)(x:Operand)(f:Nat):rdR ro ev (.field t x f)=some []:=a1p (zdk ..)
theorem zgt(x:Operand)(i:Nat):rdR ro ev (.extract x i)=some []:=a1p (zdt ..)
theorem zgu(s d:TypeId)(x:Operand):rdR ro ev (.convert s d x)=some (zdy (ev x)):=a1p (zdu ..)
theorem zgf(op:BinOp)(t:TypeId)(x y:Operand)(z):rdR ro ev (.binOp op t x y z)=some (zdy (ev x)):=a1p (zdf ..)
theorem zgh(t:TypeId)(x:Operand):rdR ro ev (.load t x)=some (zdy (ev x)):=a1p (zdh ..)
theorem zgi(t:TypeId)(x y:Operand):rdR ro ev (.store t x y)=some (zdy (ev x)++zdy (ev y)):=a1p (zdi ..)
theorem zhm(x:Operand):rdR ro ev (.nilCheck x)=some (zdy (ev x)):=a1p (a8Q ..)
theorem zgj(t:TypeId)(x:Operand)(f:Nat):rdR ro ev (.fieldAddr t x f)=some (zdy (ev x)):=a1p (zdj ..)
theorem zgl(t:TypeId)(x ix:Operand):rdR ro ev (.indexAddr t x ix)=some (zdy (ev x)):=a1p (zdl ..)
theorem zgs(t:TypeId)(x:Operand)(a b c:Option Operand):rdR ro ev (.slice t x a b c)=some (zdy (ev x)):=a1p (zds ..)
theorem zgq(t:TypeId)(n:Nat)(p:Array (Nat×Operand)):rdR ro ev (.buildSlice t n p)=some (rdP ev p.toList):=a1p (zdq ..)
theorem zgv(b:Builtin)(args:Array Operand)(ts:Array TypeId):rdR ro ev (.call ⟨.builtin b,args,ts⟩)=some (rdA ev args.toList):=a1p (zdv ..)
def c4o(ro:Ro)(a:AV)(args:List AV):Option (List Nat):=match a with
 | .fn _ caps=>if a0Q (args++caps)then some []else if shL ro (args++caps)then some (zdz (args++caps))else none
 |_=>some []
theorem zgx(f:Nat)(caps args:List AV):c4o ro (.fn f caps) args=if a0Q (args++caps)then some []else if shL ro (args++caps)then some (zdz (args++caps))else none:=nr _
theorem zgw(f:Operand)(args:Array Operand)(ts:Array TypeId):rdR ro ev (.call ⟨.value f,args,ts⟩)=c4o ro (ev f) (args.toList.map ev):=by
 unfold rdR c4o
 rw[zdw]
 unfold rdC
 cases hf:ev f<;>simp only[]
 rename_i g caps
 split
 · rename_i r hr
   split at hr
   · rename_i hp
     rw[if_pos hp]
     exact hr.symm
   · cases hr
 · rename_i hr
   split at hr
   · cases hr
   · rename_i hp
     rw[if_neg hp]
     simp only[rdX,hf]
end
def shO:Option (List AV)→Bool
 |some cs=>a0j cs
 |none=>true
theorem zgz(cs:List AV):shO (some cs)=a0j cs:=nr _
theorem zha(ro:Ro):shL ro []=true:=by simp only[shL]
theorem zhb(ro:Ro)(a:AV)(l:List AV):shL ro (a::l)=(shA ro a&&shL ro l):=by simp only[shL]
theorem zhc(ro:Ro)(s g:Nat)(p:List Nat)(o n:Nat):shA ro (.ref s g p o n)=shO (ro.cells s g p):=by
 simp only[shA,shO];cases ro.cells s g p<;>rfl
theorem zhd(ro:Ro)(s g:Nat)(p:List Nat)(i:Nat):shA ro (.ptr s g p i)=shO (ro.cells s g p):=by
 simp only[shA,shO];cases ro.cells s g p<;>rfl
theorem zhe(ro:Ro)(cs:List AV):shA ro (.agg cs)=shL ro cs:=by simp only[shA]
theorem zhg(ro:Ro)(v:Value):shA ro (.sc v)=true:=by simp only[shA]
theorem zhh(ro:Ro)(cs:List AV):shA ro (.imm cs)=a0j cs:=by simp only[shA]
theorem zhi(xs:List Int):a0j (xs.map i64)=true:=by
 induction xs with
 |nil=>rfl
 |cons x xs ih=>simp only[List.map_cons,a0j,a0C,ih,Bool.and_self]
theorem b8H{a:AV}{xs:List Int}(ro:Ro)(h:isL a xs):shA ro a=true:=by
 rcases h with rfl|⟨_,rfl⟩
 · rw[zhh];exact zhi xs
 · exact zhg _ _
theorem b0A: ∀ {cs:List AV} {xss:List (List Int)},b6z cs xss→a0j cs=true
 | [],[],_=>rfl
 |a::cs,x::xs,h=>by
   have h1:a0C a=true:=by
     rcases h.1 with rfl|⟨_,rfl⟩
     · simpa only[a0C]using zhi x
     · rfl
   simp only[a0j,h1,b0A h.2,Bool.and_self]
 | [],_::_,h=>h.elim
 |_::_,[],h=>h.elim
theorem c0B{a:AV}{xss:List (List Int)}(ro:Ro)(h:a2t a xss):shA ro a=true:=by
 rcases h with⟨cs,rfl,h⟩|⟨_,rfl⟩
 · rw[zhh];exact b0A h
 · exact zhg _ _
attribute [go_sem] zaa zab zac zad zae zaf zag zah zai zaj zak zal zam decide_true decide_false zan zao zap zaq zar zas zat zau zav zaw zax zay zaz zba zbb zbc zbd zbe zbf zbg zbh zbi zhn zho zhp zhr zhs zbj zbk zbl zbm zbn zbo zbp zbq zbr zbs zbt zbu zhl zbv zbw zbx zby zbz zca zcb zcc zcd zce zcf zht zcg zch zci zcj zck zcm b3l zcn zco b3J zcp zcq zcr St.ev zcs zct zcv zcw zcx zcy zcz zda zdb zgc zgd zge zgf zgg zgh zgi zgj zhm zgk zgl zgq zgs zgt zgu zgv zgw zgx rdP rdA zdy zdz Eff.sites ne_eq not_false_eq_true eq_self and_true true_and and_self forall_const true_implies false_implies implies_true Bool.true_eq_false Bool.false_eq_true zea zeb List.nil_append List.append_nil List.map_nil List.map_cons rvA List.cons_append Option.bind_some Bool.not_true Bool.not_false decide_eq_true_eq decide_eq_false_iff_not Bool.not_eq_eq_eq_not zec kNil zed zee zef zeg zeh zei Option.isSome_some List.getElem?_cons_zero List.getElem?_cons_succ a1F Nat.zero_add Nat.add_zero Bool.and_self Bool.and_true Bool.true_and List.length_cons List.length_nil zej kBox zek zel zem List.all_cons List.all_nil and_false false_and zen zeo zep List.getElem?_toArray beqT beqF zeq zer zhu zes zet List.replicate List.set_cons_zero List.set_cons_succ kApp zeu zev zew zex zey zez a1O zfa setL zfb zfc zfd zfe zff List.drop_zero List.take_zero List.drop_succ_cons List.take_succ_cons Ro.wrO Ro.dl St.al zfh zfi Bool.or_true Bool.true_or Bool.or_false Bool.false_or zfj zfk Nat.zero_lt_one Nat.lt_add_one zfm zfn zfp a0G zfq zfw zfx zfy zga zgz zha zhb zhc zhd zhe zhg zhh zhi Option.isSome_none
theorem za:(∀(f:Nat→AV) (k:Nat) (v:AV) (j:Nat),upd f k v j=if j=k then v else f j)∧(∀(f:Nat→AV) (k:Nat) (v:AV),upd f k v k=v)∧(∀(f:Nat→Nat) (k v j:Nat),upg f k v j=if j=k then v else f j)∧(∀(f:Ro) (s g:Nat) (a:AV) (s' g':Nat),upr f s g a s' g'=if s'=s∧g'=g then some a else f s' g'):=
 ⟨zcy,zcz,zda,zdb⟩
theorem zb:(∀p,(p∧True)=p)∧(∀p,(True∧p)=p)∧(∀p,(p∧p)=p)∧(∀ {α:Type} (a b:α),(a≠b)= ¬a=b)∧((¬False)=True)∧(∀ {α:Type} (a:α),(a=a)=True)∧(∀p,(False∧p)=False)∧(∀p,(p∧False)=False):=
 ⟨and_true,true_and,and_self,fun a b=>ne_eq a b,not_false_eq_true,fun a=>eq_self a,false_and,and_false⟩
theorem zc:(∀ {x:Int}, -9223372036854775808≤x→x≤9223372036854775807→wrF x=x)∧(∀ {a b:Int},Int.mul a b=a*b)∧(∀ {a b:Int},Int.add a b=a+b)∧(∀ {b:Int},b≠0→isZ b=false)∧(∀ {α:Type} {a b:α},cond false a b=b)∧(∀ {α:Type} {a b:α},cond true a b=a)∧(∀a b:Int,Int.sub a b=a-b):=
 ⟨zfu,rfl,rfl,zfv,rfl,rfl,isub⟩
attribute [go_sem ↓] reduceIte
attribute [go_sem] Nat.reduceEqDiff reduceCtorEq Nat.reduceAdd Nat.reduceMul Nat.reduceLeDiff zc
theorem zr:(∀ {ti:Nat→Option TI} {rs:List ResultVar} {r:AV} {st:St},RET ti rs r .normal st=(a1Z ti rs st=some r))∧(∀ {ti:Nat→Option TI} {rs:List ResultVar} {r:AV} {st:St},RET ti rs r .ret st=(a1Z ti rs st=some r))∧(∀ {α:Type} (a b:α),(some a=some b)=(a=b))∧(∀a b,(AV.sc a=AV.sc b)=(a=b))∧(∀a b,(Value.bool a=Value.bool b)=(a=b))∧(∀k a k' a',(Value.int k a=Value.int k' a')=(k=k'∧a=a'))∧
  (∀(ro:Ro) (s g:Nat),ro.cells s g []=b0G (ro s g))∧(∀cs,b0G (some (.bx cs))=some cs)∧(∀cs,b0G (some (.row cs))=some cs)∧(∀ {α:Type} (a:α) as,(a::as).length=as.length+1)∧(∀ {α:Type},([]:List α).length=0)∧(∀n,0+n=n)∧(∀ {α:Type} (l:List α),l.drop 0=l)∧(∀ {α:Type} (a:α) as i,(a::as).take (i+1)=a::as.take i)∧(∀ {α:Type} (l:List α),l.take 0=[])∧
  (∀(s g:Nat) (p:List Nat) (s' g':Nat) (p':List Nat) (o n:Nat),lift s g p (.ref s' g' p' o n)= .ref s' g' p' o n)∧(∀ {α:Type} (f:Nat→α) (n:Nat),(rws f n).length=n)∧(∀ {α:Type} (as:List α),as++ []=as)∧(∀ {α:Type} (as:List α),[]++as=as)∧(∀ {α:Type} (a:α) as bs,(a::as)++bs=a::(as++bs))∧((false=true)=False)∧(∀(s g:Nat) (p:List Nat) (v:Value),lift s g p (.sc v)= .sc v)∧(∀ {α β:Type} (f:α→β) (as:List α),(as.map f).length=as.length)∧
  (∀ {ti:Nat→Option TI} {b:Nat} {ro:Ro} {gn:Nat→Nat} {ev:Operand→AV} (t:TypeId) (x:Operand),opC ti b ro gn ev (.load t x)=zcp (ti t) ro (ev x)):=
 ⟨zbj,zbk,fun _ _=>Option.some.injEq _ _,fun _ _=>AV.sc.injEq _ _,fun _ _=>Value.bool.injEq _ _,fun _ _ _ _=>Value.int.injEq _ _ _ _,zef,zei,zeh,fun _ _=>List.length_cons,List.length_nil,Nat.zero_add,fun _=>List.drop_zero,fun _ _ _=>List.take_succ_cons,fun _=>List.take_zero,
  zfh,zfe,List.append_nil,List.nil_append,fun _ _ _=>List.cons_append,Bool.false_eq_true,zfn,fun _ _=>List.length_map _,zft⟩
theorem Ur{p:Prop}(h:p:=by simp only[↓zcy, ↓zcz, ↓zda, ↓zdb, ↓reduceIte,Nat.reduceEqDiff,and_true,true_and,and_self,ne_eq,not_false_eq_true,eq_self,false_and,and_false,reduceCtorEq];first|done|rfl|exact Nat.le_refl _):p:=h
theorem Ue{p q:Prop}(h:q)(e:p=q:=by simp only[↓zcy, ↓zcz, ↓zda, ↓zdb, ↓reduceIte,Nat.reduceEqDiff,and_true,true_and,and_self,ne_eq,not_false_eq_true,eq_self,false_and,and_false,reduceCtorEq]<;>rfl):p:=e.mpr h
def Hd(p q:Prop):Prop:=q→p
theorem Hdr{p:Prop}:Hd p p:=id
theorem Yaa{p:Prop}(h:p:=by simp only[zr,zb,a1Z,a1H,a2g,a2S,zes,zez,a1O,zcp,zed,zfi,Ro.dl,St.ev,zhk, ↓za, ↓reduceIte,Nat.reduceEqDiff,Nat.reduceAdd,Nat.reduceLeDiff]):p:=h
theorem Yab{p q:Prop}(h:q)(e:Hd p q:=by simp only[zr,zb,a1Z,a1H,a2g,a2S,zes,zez,a1O,zcp,zed,zfi,Ro.dl,St.ev,zhk, ↓za, ↓reduceIte,Nat.reduceEqDiff,Nat.reduceAdd,Nat.reduceLeDiff]<;>exact Hdr):p:=e h
theorem Yac{p q:Prop}(h:q)(e:Hd p q:=by simp only[↓za, ↓reduceIte,Nat.reduceEqDiff,zb,reduceCtorEq,a1v,s0,s1]<;>exact Hdr):p:=e h
theorem Yad{p q:Prop}(h:q)(e:Hd p q:=by simp(disch:=first|assumption|omega) only[go_sem,s0,s1,s2,s3,a1l,a3i]<;>exact Hdr):p:=e h
theorem Yae{p q:Prop}(h:q)(e:Hd p q:=by simp(disch:=first|assumption|omega) only[go_sem,s0]<;>exact Hdr):p:=e h
theorem Yaf{p q:Prop}(h:q)(e:Hd p q:=by simp only[↓za, ↓reduceIte,Nat.reduceEqDiff,zb,reduceCtorEq,a1v,s0]<;>exact Hdr):p:=e h
theorem Yag{p:Prop}(h:p:=by simp only[zr,zb,a1Z,a1H,a2g,a2S,zes,zez,a1O,zcp,zed,zfi,Ro.dl,St.ev,zhk, ↓za, ↓reduceIte,Nat.reduceEqDiff,Nat.reduceAdd,Nat.reduceLeDiff,ht']):p:=h
theorem Yah{p q:Prop}(h:q)(e:Hd p q:=by simp(disch:=first|assumption|omega) only[go_sem,s0,s1]<;>exact Hdr):p:=e h
theorem Yai{p q:Prop}(h:q)(e:Hd p q:=by simp(maxSteps:=10000000) (disch:=first|assumption|omega) only[go_sem,Int.reduceToNat,s0,s1,s4,r4096,s6,s7,r8224,s10,s11,hi',q3,q4,a1l,a3i]<;>exact Hdr):p:=e h
theorem Yaj{p:Prop}(h:p:=by simp only[zr,zb,a1Z,a1H,a2g,a2S,zes,zez,a1O,zcp,zed,zfi,Ro.dl,St.ev,zhk, ↓za, ↓reduceIte,Nat.reduceEqDiff,Nat.reduceAdd,Nat.reduceLeDiff,a1l,s4]):p:=h
theorem Yak{p:Prop}(h:p:=by simp only[zr,zb,a1Z,a1H,a2g,a2S,zes,zez,a1O,zcp,zed,zfi,Ro.dl,St.ev,zhk, ↓za, ↓reduceIte,Nat.reduceEqDiff,Nat.reduceAdd,Nat.reduceLeDiff,r8192]):p:=h
theorem Yal{p:Prop}(h:p:=by simp only[zr,zb,a1Z,a1H,a2g,a2S,zes,zez,a1O,zcp,zed,zfi,Ro.dl,St.ev,zhk, ↓za, ↓reduceIte,Nat.reduceEqDiff,Nat.reduceAdd,Nat.reduceLeDiff,a1l]):p:=h
theorem Yam{p:Prop}(h:p:=by simp only[zr,zb,a1Z,a1H,a2g,a2S,zes,zez,a1O,zcp,zed,zfi,Ro.dl,St.ev,zhk, ↓za, ↓reduceIte,Nat.reduceEqDiff,Nat.reduceAdd,Nat.reduceLeDiff,e]):p:=h
theorem Yan{p q:Prop}(h:q)(e:Hd p q:=by simp(disch:=first|assumption|omega) only[go_sem,s0,a1l,a3i]<;>exact Hdr):p:=e h
theorem Yao{p q:Prop}(h:q)(e:Hd p q:=by simp(disch:=first|assumption|omega) only[go_sem,s0]<;>exact Hdr):p:=e h
theorem Yap{p q:Prop}(h:q)(e:Hd p q:=by simp(disch:=first|assumption|omega) only[go_sem,s0,s1,s2,s3,a1l,a3i]<;>exact Hdr):p:=e h
theorem Yaq{p q:Prop}(h:q)(e:Hd p q:=by simp(disch:=first|assumption|omega) only[go_sem,s0,s1,a0R ha,eq_false h0',eq_false h16',a1l,a3i]<;>exact Hdr):p:=e h
theorem Yar{p q:Prop}(h:q)(e:Hd p q:=by simp(disch:=first|assumption|omega) only[go_sem,s0,s1,s2,s3]<;>exact Hdr):p:=e h
theorem Yas{p q:Prop}(h:q)(e:Hd p q:=by simp(maxSteps:=10000000) (disch:=first|assumption|omega) only[go_sem,Int.reduceToNat,s1,r4096,s2,s7,s8,s3,s13,s14,hk',hk]<;>exact Hdr):p:=e h
theorem Yat{p q:Prop}(h:q)(e:Hd p q:=by simp(disch:=first|assumption|omega) only[go_sem,s0,s1,a1l,a3i]<;>exact Hdr):p:=e h
theorem Yau{p q:Prop}(h:q)(e:Hd p q:=by simp(maxSteps:=10000000) (disch:=first|assumption|omega) only[go_sem,Int.reduceToNat,s0,b3c]<;>exact Hdr):p:=e h
theorem Yav{p q:Prop}(h:q)(e:Hd p q:=by simp(maxSteps:=10000000) (disch:=first|assumption|omega) only[go_sem,Int.reduceToNat,s0]<;>exact Hdr):p:=e h
theorem Yaw{p q:Prop}(h:q)(e:Hd p q:=by simp only[zr,zb,a1Z,a1H,a2g,a2S,zes,zez,a1O,zcp,zed,zfi,Ro.dl,St.ev,zhk, ↓za, ↓reduceIte,Nat.reduceEqDiff,Nat.reduceAdd,Nat.reduceLeDiff,e]<;>exact Hdr):p:=e h
theorem Yax{p q:Prop}(h:q)(e:Hd p q:=by simp(disch:=first|assumption|omega) only[go_sem,s0,a1l,h4,e2]<;>exact Hdr):p:=e h
theorem Yay{p q:Prop}(h:q)(e:Hd p q:=by simp only[go_sem,s0,s1,a0i,zfe,ti2]<;>exact Hdr):p:=e h
theorem Yaz{p q:Prop}(h:q)(e:Hd p q:=by simp only[zr,zb,a1Z,a1H,a2g,a2S,zes,zez,a1O,zcp,zed,zfi,Ro.dl,St.ev,zhk, ↓za, ↓reduceIte,Nat.reduceEqDiff,Nat.reduceAdd,Nat.reduceLeDiff,hd2 (fun h=>hb1 h.2)]<;>exact Hdr):p:=e h
theorem Yba{p q:Prop}(h:q)(e:Hd p q:=by simp only[zr,zb,a1Z,a1H,a2g,a2S,zes,zez,a1O,zcp,zed,zfi,Ro.dl,St.ev,zhk, ↓za, ↓reduceIte,Nat.reduceEqDiff,Nat.reduceAdd,Nat.reduceLeDiff,hd2 (fun h=>ha1 h.1)]<;>exact Hdr):p:=e h
theorem Ybb{p q:Prop}(h:q)(e:Hd p q:=by simp(disch:=first|assumption|omega) only[go_sem,s0,s4,r4096,s8,r24576,s43,s44,s45,hi',a1l,a3i]<;>exact Hdr):p:=e h
theorem Ybc{p q:Prop}(h:q)(e:Hd p q:=by simp(maxSteps:=10000000) (disch:=first|assumption|omega) only[go_sem,Int.reduceToNat,s0,a1l,a3i]<;>exact Hdr):p:=e h
theorem Ybd{p q:Prop}(h:q)(e:Hd p q:=by simp(disch:=first|assumption|omega) only[go_sem,s0,s1,a1l,a3i]<;>exact Hdr):p:=e h
theorem Ybe{p q:Prop}(h:q)(e:Hd p q:=by simp(disch:=first|assumption|omega) only[go_sem,s0,s1,s6,hi',hi,ti2,ti3,s5,rO,a4P,a3p,Option.map_none,Option.map_some,e1v,hpl,hdt,hda,hdl,hbd,htt,hta,htl,htb,eq_false hne,List.take_succ_cons,List.take_zero,List.cons_append,List.nil_append,List.length_cons,hxt,hxa,hxl,hxb,htt2,List.length_map]<;>exact Hdr):p:=e h
theorem Ybf{p q:Prop}(h:q)(e:Hd p q:=by simp(disch:=first|assumption|omega) only[go_sem,s0,s3,s5,s6,s7,s8,s9,s10,s11,r28704,hi',hi,ti2,ti3,rL,hget,hzN,hzN',haN,haN',hvN,hvN',a0M r28704 haN hvN,a1x r28704 haN hvN,a0l _ _ _ hzN,hw1]<;>exact Hdr):p:=e h
theorem Ybg{p q:Prop}(h:q)(e:Hd p q:=by simp(disch:=first|assumption|omega) only[go_sem,s0,s3,s5,s6,s7,s8,s9,s10,s11,r28704,hi',hi,ti2,ti3,rL,hL2,hget,hzN,hzN',haN,haN',hvN,hvN',a0M hp1 hvN haN,a1x hp1 hvN haN,a0l _ _ _ hzN,hw2]<;>exact Hdr):p:=e h
theorem Ybh{p q:Prop}(h:q)(e:Hd p q:=by simp(disch:=first|assumption|omega) only[go_sem,s4,s8,s5,s9,s112,s113,s114,s15,s16,s134,s135,hy',hy,b1,bx,bd,a0l,hdn,hx,hy,e7,hy2,zfe]<;>exact Hdr):p:=e h
theorem Ybi{p q:Prop}(h:q)(e:Hd p q:=by simp only[go_sem,s0,s1,ti2]<;>exact Hdr):p:=e h
theorem Ybj{p:Prop}(h:p:=by simp only[zr,zb,a1Z,a1H,a2g,a2S,zes,zez,a1O,zcp,zed,zfi,Ro.dl,St.ev,zhk, ↓za, ↓reduceIte,Nat.reduceEqDiff,Nat.reduceAdd,Nat.reduceLeDiff, ←decide_not,Int.not_lt]):p:=h
theorem Ybk{p q:Prop}(h:q)(e:Hd p q:=by simp(disch:=first|assumption|omega) only[go_sem,s0,s1,s2,s3]<;>exact Hdr):p:=e h
theorem Ybl{p q:Prop}(h:q)(e:Hd p q:=by simp(maxSteps:=10000000) (disch:=first|assumption|omega) only[go_sem,Int.reduceToNat,s1,r4096,s2,s13,s14,s15,s3,s4,s21,s22,s23,s5,s6,s30,s31,s7,s36,s37,s8,s9,s10,s42,s43,hm',hm]<;>exact Hdr):p:=e h
theorem Ybm{p q:Prop}(h:q)(e:Hd p q:=by simp only[go_sem,s0]<;>exact Hdr):p:=e h
theorem Ybn{p q:Prop}(h:q)(e:Hd p q:=by simp only[go_sem,s0,s1]<;>exact Hdr):p:=e h
theorem Ybo{p q:Prop}(h:q)(e:Hd p q:=by simp(disch:=first|assumption|omega) only[go_sem,s1,r4096,s3,s4,hj',hj]<;>exact Hdr):p:=e h
theorem Ybp{p q:Prop}(h:q)(e:Hd p q:=by simp only[↓za, ↓reduceIte,Nat.reduceEqDiff,zb,reduceCtorEq]<;>exact Hdr):p:=e h
theorem Ybq{p q:Prop}(h:q)(e:Hd p q:=by simp(disch:=first|assumption|omega) only[go_sem,s0,a1l,a3i]<;>exact Hdr):p:=e h
theorem Ybr{p q:Prop}(h:q)(e:Hd p q:=by simp(maxSteps:=10000000) (disch:=first|assumption|omega) only[go_sem,Int.reduceToNat,s0,s1,a1l,a3i,a0R ha]<;>exact Hdr):p:=e h
theorem Ybs{p:Prop}(h:p:=by simp only[zr,zb,a1Z,a1H,a2g,a2S,zes,zez,a1O,zcp,zed,zfi,Ro.dl,St.ev,zhk, ↓za, ↓reduceIte,Nat.reduceEqDiff,Nat.reduceAdd,Nat.reduceLeDiff,p8]):p:=h
theorem Ybt{p q:Prop}(h:q)(e:Hd p q:=by simp(disch:=first|assumption|omega) only[go_sem,s0,s1]<;>exact Hdr):p:=e h
theorem Ybu{p q:Prop}(h:q)(e:Hd p q:=by simp(maxSteps:=10000000) (disch:=first|assumption|omega) only[go_sem,Int.reduceToNat,s1,r4096,s2,s3,r8208,s12,s13,s4,s18,s19,s5,s24,s25,hk',hk]<;>exact Hdr):p:=e h
theorem Ybv{p q:Prop}(h:q)(e:Hd p q:=by simp(disch:=first|assumption|omega) only[go_sem,Int.reduceToNat,s0,s2,s3,s4,s5,hk',hk,ha1,hb1]<;>exact Hdr):p:=e h
theorem Ybw{p q:Prop}(h:q)(e:Hd p q:=by simp(disch:=first|assumption|omega) only[go_sem,s5,hj',hj,t4,tr,t3,t8,eq_false hP2',undef]<;>exact Hdr):p:=e h
theorem Ybx{p q:Prop}(h:q)(e:Hd p q:=by simp(maxSteps:=10000000) (disch:=first|assumption|omega) only[go_sem,Int.reduceToNat,s1,s2,r4096,s5,s6,s7,hj',hj,a0s ha hxi,a0s ha hxj,htm,a0S hm hjm]<;>exact Hdr):p:=e h
theorem Yby{p q:Prop}(h:q)(e:Hd p q:=by simp(disch:=first|assumption|omega) only[go_sem,s0,s1,a1l,hb,e2]<;>exact Hdr):p:=e h
theorem Ybz{p q:Prop}(h:q)(e:Hd p q:=by simp(disch:=first|assumption|omega) only[go_sem,s0,s1,a0B hb]<;>exact Hdr):p:=e h
theorem Yca{p q:Prop}(h:q)(e:Hd p q:=by simp(disch:=first|assumption|omega) only[go_sem,s0,s3,s5,s6,s7,s8,s12,s13,s14,r28704,hi',hi,ti2,ti3,rL,hget,hw,hzN,hzN',hwN,hwN',hvN,hvN',a0M r28704 hvN hwN,a1x r28704 hvN hwN,a0l _ _ _ hzN,hw1]<;>exact Hdr):p:=e h
theorem Ycb{p q:Prop}(h:q)(e:Hd p q:=by simp(disch:=first|assumption|omega) only[go_sem,s0,s3,s4,r12320,s6,hk',hk,a0i,zfe]<;>exact Hdr):p:=e h
theorem Ycc{p q:Prop}(h:q)(e:Hd p q:=by simp(disch:=first|assumption|omega) only[go_sem,s5,hj',hj,t4,tr,t3,t8,eq_true hP2']<;>exact Hdr):p:=e h
theorem Ycd{p q:Prop}(h:q)(e:Hd p q:=by simp(disch:=first|assumption|omega) only[go_sem,s5,hj',hj,eq_false hz2,t4,tr,t3,t8]<;>exact Hdr):p:=e h
theorem Yce{p q:Prop}(h:q)(e:Hd p q:=by simp(maxSteps:=10000000) (disch:=first|assumption|omega) only[go_sem,Int.reduceToNat,a1l,a3i,hbk,hbk',a1,a2,a3,a4,b1,b2,b3,b4,hw,eq_false h16]<;>exact Hdr):p:=e h
theorem Ycf{p q:Prop}(h:q)(e:Hd p q:=by simp(maxSteps:=10000000) (disch:=first|assumption|omega) only[go_sem,Int.reduceToNat,s0,s1,s9,s10,s11,hk',hk,a0i,zfe,p5,pr,hrn,hA1, ↓hA2]<;>exact Hdr):p:=e h
theorem Ycg{p q:Prop}(h:q)(e:Hd p q:=by simp(disch:=first|assumption|omega) only[go_sem,s5,hj',hj,a0i,List.length_map]<;>exact Hdr):p:=e h
theorem Ych{p q:Prop}(h:q)(e:Hd p q:=by simp(maxSteps:=10000000) (disch:=first|assumption|omega) only[go_sem,Int.reduceToNat,s0,b3c,a0H,a0i,List.length_map]<;>exact Hdr):p:=e h
theorem Yci{p q:Prop}(h:q)(e:Hd p q:=by simp(disch:=first|assumption|omega) only[go_sem,s0,s4,r4096,s8,r24576,s43,s44,s45,hi',hil']<;>exact Hdr):p:=e h
theorem Ycj{p q:Prop}(h:q)(e:Hd p q:=by simp(maxSteps:=10000000) (disch:=first|assumption|omega) only[go_sem,Int.reduceToNat,s0,s1,s4,r4096,s6,s7,r8224,s21,s22,s23,hm',hm,hm2]<;>exact Hdr):p:=e h
theorem Yck{p q:Prop}(h:q)(e:Hd p q:=by simp(disch:=first|assumption|omega) only[go_sem,s0,s1,ti2,ti4,eq_false hm',e2m]<;>exact Hdr):p:=e h
theorem Ycl{p q:Prop}(h:q)(e:Hd p q:=by simp(maxSteps:=10000000) (disch:=first|assumption|omega) only[go_sem,Int.reduceToNat,s0,s1,s9,s10,s11,hk',hl,p5,pr,hm,lm,a0R hm]<;>exact Hdr):p:=e h
theorem Ycm{p q:Prop}(h:q)(e:Hd p q:=by simp(maxSteps:=10000000) (disch:=first|assumption|omega) only[go_sem,Int.reduceToNat,s0,s1,a0v hc,a1l,a3i,a0B ha,eq_true hl']<;>exact Hdr):p:=e h
theorem Ycn{p q:Prop}(h:q)(e:Hd p q:=by simp(disch:=first|assumption|omega) only[go_sem,s5,hj',hj,hz2,t4,tr,t3,t8]<;>exact Hdr):p:=e h
theorem Yco{p q:Prop}(h:q)(e:Hd p q:=by simp(disch:=first|assumption|omega) only[go_sem,Int.reduceToNat,s0,s2,s3,s13,s14,s15,s16,s17,s18,s19,hm',hm]<;>exact Hdr):p:=e h
theorem Ycp{p q:Prop}(h:q)(e:Hd p q:=by simp(disch:=first|assumption|omega) only[go_sem,s0,s1,s6,hk',a0i,zfe]<;>exact Hdr):p:=e h
theorem Ycq{p q:Prop}(h:q)(e:Hd p q:=by simp(maxSteps:=10000000) (disch:=first|assumption|omega) only[go_sem,Int.reduceToNat,s0,a1l,a3i,a0v ha]<;>exact Hdr):p:=e h
theorem Ycr{p q:Prop}(h:q)(e:Hd p q:=by simp(disch:=first|assumption|omega) only[go_sem,Int.reduceToNat,s0,s1,ti2,ti3,a1l,rF,r4,e1,e2,e3,e4,e5,e1.symm,e2.symm,e3.symm,e4.symm,e5.symm]<;>exact Hdr):p:=e h
theorem Ycs{p q:Prop}(h:q)(e:Hd p q:=by simp(disch:=first|assumption|omega) only[go_sem,Int.reduceToNat,s0,s2,s3,s7,r57344,s10,s11,s12,hk',hk]<;>exact Hdr):p:=e h
theorem Yct{p q:Prop}(h:q)(e:Hd p q:=by simp(disch:=first|assumption|omega) only[go_sem,s0,s3,s5,s6,s7,s8,s9,s10,s11,r28704,hi',hi,ti2,ti3]<;>exact Hdr):p:=e h
theorem Ycu{p q:Prop}(h:q)(e:Hd p q:=by simp(disch:=first|assumption|omega) only[go_sem,s0,s3,s5,s6,s7,s8,s9,s10,s11,r28704,hi',ti2,ti3,rL]<;>exact Hdr):p:=e h
theorem Ycv{p q:Prop}(h:q)(e:Hd p q:=by simp(maxSteps:=10000000) (disch:=first|assumption|omega) only[go_sem,Int.reduceToNat,s1,s2,r4096,s5,s6,s7,hj',hj]<;>exact Hdr):p:=e h
theorem Ycw{p q:Prop}(h:q)(e:Hd p q:=by simp(maxSteps:=10000000) (disch:=first|assumption|omega) only[go_sem,Int.reduceToNat,a1l,hbk,hbk',a1,a2,b1,b2]<;>exact Hdr):p:=e h
theorem Ycx{p q:Prop}(h:q)(e:Hd p q:=by simp(disch:=first|assumption|omega) only[go_sem,s0,s3,s5,s6,s7,s8,s12,r28704,hk',hk,a0i,a0H,List.length_map,ti2,hll,ht1,ht2,hal]<;>exact Hdr):p:=e h
theorem Ycy{p q:Prop}(h:q)(e:Hd p q:=by simp(disch:=first|assumption|omega) only[go_sem,s1,r4096,s5,r12288,s42,r8224,s43,s44,s8,s9,s50,s51,s52,s12,s56,s57,s58,s10,r49152,hu',hu,List.length_map]<;>exact Hdr):p:=e h
theorem Ycz{p q:Prop}(h:q)(e:Hd p q:=by simp only[↓za, ↓reduceIte,Nat.reduceEqDiff,zb,reduceCtorEq,a1v,s0,s1,s2]<;>exact Hdr):p:=e h
theorem Yda{p q:Prop}(h:q)(e:Hd p q:=by simp(disch:=first|assumption|omega) only[go_sem,s0,s3,s5,s6,s7,s8,s9,r28704,ha',ha,ti2]<;>exact Hdr):p:=e h
theorem Ydb{p q:Prop}(h:q)(e:Hd p q:=by simp(disch:=first|assumption|omega) only[go_sem,s0,s4,r4096,s8,r24576,s43,s44,s45,hi',a0t,a9r,zfe,hnf,a1l,a3i]<;>exact Hdr):p:=e h
theorem Ydc{p q:Prop}(h:q)(e:Hd p q:=by simp(disch:=first|assumption|omega) only[go_sem,s0,s1,s2]<;>exact Hdr):p:=e h
theorem Ydd{p q:Prop}(h:q)(e:Hd p q:=by simp(maxSteps:=10000000) (disch:=first|assumption|omega) only[go_sem,Int.reduceToNat,s0]<;>exact Hdr):p:=e h
theorem Yde{p q:Prop}(h:q)(e:Hd p q:=by simp(maxSteps:=10000000) (disch:=first|assumption|omega) only[go_sem,Int.reduceToNat,a9o]<;>exact Hdr):p:=e h
theorem Ydf{p q:Prop}(h:q)(e:Hd p q:=by simp(disch:=first|assumption|omega) only[go_sem,s3,s4,s5,s11,s12,s13,s14,hj',hj,d1,d2,a0l,hx,hk1,hk11,a2E,eq_false m2,zfe,hmo]<;>exact Hdr):p:=e h
theorem Ydg{p q:Prop}(h:q)(e:Hd p q:=by simp(disch:=first|assumption|omega) only[go_sem,s4,s8,s5,s9,s12,s91,s92,hx',hx,b1,bd,a0l,hdn,e7,hx2,zfe,Int.tmod_eq_emod_of_nonneg]<;>exact Hdr):p:=e h
theorem Ydh{p q:Prop}(h:q)(e:Hd p q:=by simp(disch:=first|assumption|omega) only[go_sem,s0,s3,s5,s6,s7,s8,s9,r28704,ha',ha,a0i,a0H,List.length_map,ti2,eq_false ha2',ti3]<;>exact Hdr):p:=e h
theorem Ydi{p q:Prop}(h:q)(e:Hd p q:=by simp(disch:=first|assumption|omega) only[go_sem,s0,s1,s6,hk',hk,a0i,zfe,p5,pr,hrn,hA1, ↓hA2,hnr1,hnr2]<;>exact Hdr):p:=e h
theorem Ydj{p q:Prop}(h:q)(e:Hd p q:=by simp(disch:=first|assumption|omega) only[go_sem,s4,s8,s5,s9,s112,s113,s114,hx',hx,b1,bx,a0l,eq_false hxd',hx,r9,hk,eq_false h0]<;>exact Hdr):p:=e h
theorem Ydk{p q:Prop}(h:q)(e:Hd p q:=by simp(disch:=first|assumption|omega) only[go_sem,s0,s1,s2,s15,s16,s17,hi',hi]<;>exact Hdr):p:=e h
theorem Ydl{p q:Prop}(h:q)(e:Hd p q:=by simp(maxSteps:=10000000) (disch:=first|assumption|omega) only[go_sem,Int.reduceToNat,s1,r4096,s2,s7,s8,s3,s13,s14,hk',hk,eq_true ha1]<;>exact Hdr):p:=e h
theorem Ydm{p q:Prop}(h:q)(e:Hd p q:=by simp(disch:=first|assumption|omega) only[go_sem,s3,s4,s5,s11,s12,ht',ht,a0i,d1,a0l,hx5,zfe]<;>exact Hdr):p:=e h
theorem Ydn{p q:Prop}(h:q)(e:Hd p q:=by simp(disch:=first|assumption|omega) only[go_sem,s4,s8,s5,s9,s112,s113,s114,hx',hx,b1,bx,a0l,eq_false hxd',hx,r9,hk,h0]<;>exact Hdr):p:=e h
theorem Ydo{p q:Prop}(h:q)(e:Hd p q:=by simp(maxSteps:=10000000) (disch:=first|assumption|omega) only[go_sem,Int.reduceToNat,s0,s1,s6,hk',hl,p5,pr,eq_true hz',lm,zfe]<;>exact Hdr):p:=e h
theorem Ydp{p q:Prop}(h:q)(e:Hd p q:=by simp(disch:=first|assumption|omega) only[go_sem,s0,s1,a0R ha,eq_false h0',eq_true h16',a1l,a3i]<;>exact Hdr):p:=e h
theorem Ydq{p q:Prop}(h:q)(e:Hd p q:=by simp(disch:=first|assumption|omega) only[go_sem,s0,s3,s5,s6,s7,s8,s12,r28704,hk',hk,a0i,a0H,List.length_map,ti2,hmx]<;>exact Hdr):p:=e h
theorem Ydr{p:Prop}(h:p:=by simp only[zr,zb,a1Z,a1H,a2g,a2S,zes,zez,a1O,zcp,zed,zfi,Ro.dl,St.ev,zhk, ↓za, ↓reduceIte,Nat.reduceEqDiff,Nat.reduceAdd,Nat.reduceLeDiff,s2,a1l,q3,q4]):p:=h
theorem Yds{p q:Prop}(h:q)(e:Hd p q:=by simp only[↓za, ↓reduceIte,Nat.reduceEqDiff,zb,reduceCtorEq,s0,s1]<;>exact Hdr):p:=e h
theorem Ydt{p q:Prop}(h:q)(e:Hd p q:=by simp(disch:=first|assumption|omega) only[go_sem,s3,s4,s5,s11,s12,ht',ht,d1,d2,d3,a0l,hx,hx',hk1,hkn,a2E,htm]<;>exact Hdr):p:=e h
theorem Ydu{p q:Prop}(h:q)(e:Hd p q:=by simp only[↓za, ↓reduceIte,Nat.reduceEqDiff,zb,reduceCtorEq,a1v,s0,s3,s5,s6,s7,s8,s9,r28704,ha',ha]<;>exact Hdr):p:=e h
theorem Ydv{p q:Prop}(h:q)(e:Hd p q:=by simp(disch:=first|assumption|omega) only[go_sem,s0,s1,a1l,c5,c4,e1,e2,e3,e4,e5,e1.symm,e2.symm,e3.symm,e4.symm,e5.symm]<;>exact Hdr):p:=e h
theorem Ydw{p q:Prop}(h:q)(e:Hd p q:=by simp(disch:=first|assumption|omega) only[go_sem,s0,a1l,h4,e2,e3,a0i,List.length_map,a0I]<;>exact Hdr):p:=e h
theorem Ydx{p q:Prop}(h:q)(e:Hd p q:=by simp(disch:=first|assumption|omega) only[go_sem,s4,s8,s5,s9,s112,s113,s114,s15,s16,s134,s135,hy',hy,r9,eq_false u3]<;>exact Hdr):p:=e h
theorem Ydy{p q:Prop}(h:q)(e:Hd p q:=by simp(maxSteps:=10000000) (disch:=first|assumption|omega) only[go_sem,Int.reduceToNat,s1,r4096,s7,s8,hi',hi,eq_false hm0]<;>exact Hdr):p:=e h
theorem Ydz{p q:Prop}(h:q)(e:Hd p q:=by simp(disch:=first|omega|assumption) only[go_sem,ti2,ti3,ti4,a6O,a4D,a3i,a1l,s0,s2,r2,s3,s5,s6]<;>exact Hdr):p:=e h
theorem Yea{p q:Prop}(h:q)(e:Hd p q:=by simp(disch:=first|assumption|omega) only[go_sem,s0,s3,s4,r12320,s6,hk',hk,a0X,f6,f7]<;>exact Hdr):p:=e h
theorem Yeb{p q:Prop}(h:q)(e:Hd p q:=by simp(maxSteps:=10000000) (disch:=first|assumption|omega) only[go_sem,Int.reduceToNat,s12,s13,s14,hj',hj,eq_true h0,s5]<;>exact Hdr):p:=e h
theorem Yec{p q:Prop}(h:q)(e:Hd p q:=by simp only[zr,zb,a1Z,a1H,a2g,a2S,zes,zez,a1O,zcp,zed,zfi,Ro.dl,St.ev,zhk, ↓za, ↓reduceIte,Nat.reduceEqDiff,Nat.reduceAdd,Nat.reduceLeDiff,hd.2 h]<;>exact Hdr):p:=e h
theorem Yed{p q:Prop}(h:q)(e:Hd p q:=by simp only[zr,zb,a1Z,a1H,a2g,a2S,zes,zez,a1O,zcp,zed,zfi,Ro.dl,St.ev,zhk, ↓za, ↓reduceIte,Nat.reduceEqDiff,Nat.reduceAdd,Nat.reduceLeDiff,r12336]<;>exact Hdr):p:=e h
theorem Yee{p:Prop}(h:p:=by simp only[zr,zb,a1Z,a1H,a2g,a2S,zes,zez,a1O,zcp,zed,zfi,Ro.dl,St.ev,zhk, ↓za, ↓reduceIte,Nat.reduceEqDiff,Nat.reduceAdd,Nat.reduceLeDiff,r28704]):p:=h
theorem Yef{p q:Prop}(h:q)(e:Hd p q:=by simp(disch:=first|assumption|omega) only[go_sem,s0,s1,a0t,a4N,zfe,hnr,a1l,a3i]<;>exact Hdr):p:=e h
theorem Yeg{p:Prop}(h:p:=by simp only[zr,zb,a1Z,a1H,a2g,a2S,zes,zez,a1O,zcp,zed,zfi,Ro.dl,St.ev,zhk, ↓za, ↓reduceIte,Nat.reduceEqDiff,Nat.reduceAdd,Nat.reduceLeDiff,r32768]):p:=h
theorem Yeh{p q:Prop}(h:q)(e:Hd p q:=by simp(disch:=first|assumption|omega) only[go_sem,s4,s8,s5,s9,s112,s113,s114,hx',b1,r9]<;>exact Hdr):p:=e h
theorem Yei{p q:Prop}(h:q)(e:Hd p q:=by simp only[zr,zb,a1Z,a1H,a2g,a2S,zes,zez,a1O,zcp,zed,zfi,Ro.dl,St.ev,zhk, ↓za, ↓reduceIte,Nat.reduceEqDiff,Nat.reduceAdd,Nat.reduceLeDiff,r8208]<;>exact Hdr):p:=e h
theorem Yej{p q:Prop}(h:q)(e:Hd p q:=by simp(disch:=first|assumption|omega) only[go_sem,s0,s1,s5,hi',hi]<;>exact Hdr):p:=e h
theorem Yek{p q:Prop}(h:q)(e:Hd p q:=by simp(disch:=first|assumption|omega) only[go_sem,s0,s1,a0R ha,eq_true h0',a1l,a3i]<;>exact Hdr):p:=e h
theorem Yel{p q:Prop}(h:q)(e:Hd p q:=by simp(disch:=first|assumption|omega) only[go_sem,s1,s2,r4096,s10,s11,s12,s5,s17,s18,s19,hj',hj,a0S hm hjm]<;>exact Hdr):p:=e h
theorem Yem{p:Prop}(h:p:=by simp only[zr,zb,a1Z,a1H,a2g,a2S,zes,zez,a1O,zcp,zed,zfi,Ro.dl,St.ev,zhk, ↓za, ↓reduceIte,Nat.reduceEqDiff,Nat.reduceAdd,Nat.reduceLeDiff,pw]):p:=h
theorem Yen{p:Prop}(h:p:=by simp only[zr,zb,a1Z,a1H,a2g,a2S,zes,zez,a1O,zcp,zed,zfi,Ro.dl,St.ev,zhk, ↓za, ↓reduceIte,Nat.reduceEqDiff,Nat.reduceAdd,Nat.reduceLeDiff,r5]):p:=h
theorem Yeo{p:Prop}(h:p:=by simp only[zr,zb,a1Z,a1H,a2g,a2S,zes,zez,a1O,zcp,zed,zfi,Ro.dl,St.ev,zhk, ↓za, ↓reduceIte,Nat.reduceEqDiff,Nat.reduceAdd,Nat.reduceLeDiff,r3]):p:=h
theorem Yep{p q:Prop}(h:q)(e:Hd p q:=by simp(disch:=first|assumption|omega) only[go_sem,s0,s1,hro,hk']<;>exact Hdr):p:=e h
theorem Yeq{p q:Prop}(h:q)(e:Hd p q:=by simp(disch:=first|assumption|omega) only[go_sem,s0,sp,si,hi']<;>exact Hdr):p:=e h
theorem Yer{p q:Prop}(h:q)(e:Hd p q:=by simp(disch:=first|assumption|omega) only[go_sem,s4,s8,s5,s9,s112,s113,s114,hx',hx,b1,bx,a0l,hxd',hx]<;>exact Hdr):p:=e h
theorem Yes{p q:Prop}(h:q)(e:Hd p q:=by simp(disch:=first|assumption|omega) only[go_sem,s5,hz',hz,hz0,p4,pr,p3,p8,lo2]<;>exact Hdr):p:=e h
theorem Yet{p q:Prop}(h:q)(e:Hd p q:=by simp(disch:=first|assumption|omega) only[go_sem,s1,r4096,s3,r8240,s10,s11,s12,hi',hi,eq_true hl',undef]<;>exact Hdr):p:=e h
theorem Yeu{p q:Prop}(h:q)(e:Hd p q:=by simp(disch:=first|assumption|omega) only[go_sem,s0,s3,s5,s6,s7,s8,s12,s13,s14,r28704,hi',hi,ti2,ti3]<;>exact Hdr):p:=e h
theorem Yev{p q:Prop}(h:q)(e:Hd p q:=by simp(disch:=first|assumption|omega) only[go_sem,s0,s3,s5,s6,s7,s8,s12,s13,s14,r28704,hi',ti2,ti3,rL]<;>exact Hdr):p:=e h
theorem Yew{p q:Prop}(h:q)(e:Hd p q:=by simp(disch:=first|assumption|omega) only[go_sem,s5,hz',hz,eq_true hz',p4,pr,p3,p8,eq_false hP1',undef]<;>exact Hdr):p:=e h
theorem Yex{p q:Prop}(h:q)(e:Hd p q:=by simp(maxSteps:=10000000) (disch:=first|assumption|omega) only[go_sem,Int.reduceToNat,s12,s13,s14,hj',s5]<;>exact Hdr):p:=e h
theorem Yey{p q:Prop}(h:q)(e:Hd p q:=by simp(disch:=first|assumption|omega) only[go_sem,s0,s1,s6,hk',hk,c1,p5,pr,hl,a0s hb c1,hnr1,hnr2]<;>exact Hdr):p:=e h
theorem Yez{p q:Prop}(h:q)(e:Hd p q:=by simp(disch:=first|assumption|omega) only[go_sem,Int.reduceToNat,s0,s2,s3,s7,r57344,s9,hi',hi,hm,hd2]<;>exact Hdr):p:=e h
theorem Yfa{p q:Prop}(h:q)(e:Hd p q:=by simp(disch:=first|assumption|omega) only[go_sem,s0,s3,r8192,s4,hi',hi,hi2]<;>exact Hdr):p:=e h
theorem Yfb{p q:Prop}(h:q)(e:Hd p q:=by simp(disch:=first|assumption|omega) only[go_sem,s3,r8208,s4,s5,r12288,s6,r12304,s8,hk',a0i,zfe]<;>exact Hdr):p:=e h
theorem Yfc{p q:Prop}(h:q)(e:Hd p q:=by simp(disch:=first|assumption|omega) only[go_sem,s0,s3,s5,s6,s7,s8,s12,r28704,hk',hk,ti2,hle2,hsum]<;>exact Hdr):p:=e h
theorem Yfd{p q:Prop}(h:q)(e:Hd p q:=by simp(disch:=first|assumption|omega) only[go_sem,s0,s1,s4,r4096,s6,s7,hi']<;>exact Hdr):p:=e h
theorem Yfe{p q:Prop}(h:q)(e:Hd p q:=by simp(disch:=first|assumption|omega) only[go_sem,s4,s8,s5,s9,s112,s113,s114,s15,s16,s134,s135,hy']<;>exact Hdr):p:=e h
theorem Yff{p q:Prop}(h:q)(e:Hd p q:=by simp(disch:=first|assumption|omega) only[go_sem,s0,a0i,List.length_map]<;>exact Hdr):p:=e h
theorem Yfg{p q:Prop}(h:q)(e:Hd p q:=by simp(disch:=first|assumption|omega) only[go_sem,s0,a1l,a3i,a0v ha]<;>exact Hdr):p:=e h
theorem Yfh{p q:Prop}(h:q)(e:Hd p q:=by simp(disch:=first|assumption|omega) only[go_sem,s3,s4,s5,s6,hx',hx,a1,a3,a0l,hx1,hx2,e1,hk]<;>exact Hdr):p:=e h
theorem Yfi{p q:Prop}(h:q)(e:Hd p q:=by simp(disch:=first|assumption|omega) only[go_sem,s0,s1,a1l,a3i,a0v hc,a0v hc',e1,h16']<;>exact Hdr):p:=e h
theorem Yfj{p q:Prop}(h:q)(e:Hd p q:=by simp(disch:=first|assumption|omega) only[go_sem,s1,s2,r4096,s10,s11,s12,s5,s17,s18,s19,hj',hj]<;>exact Hdr):p:=e h
theorem Yfk{p q:Prop}(h:q)(e:Hd p q:=by simp(disch:=first|assumption|omega) only[go_sem,s4,s8,s5,hk',hk,b1,hl,Int.tmod_eq_emod_of_nonneg]<;>exact Hdr):p:=e h
theorem Yfl{p q:Prop}(h:q)(e:Hd p q:=by simp(disch:=first|assumption|omega) only[go_sem,s4,s8,s5,s9,s12,s91,s92,hx',hx,r9,eq_false u3]<;>exact Hdr):p:=e h
theorem Yfm{p q:Prop}(h:q)(e:Hd p q:=by simp(disch:=first|assumption|omega) only[go_sem,s0,s1,s12,s13,hx',hx]<;>exact Hdr):p:=e h
theorem Yfn{p q:Prop}(h:q)(e:Hd p q:=by simp only[go_sem,ti2,ti3,ti4,a6O,a4D,a3i,a1l,s0,s2,r2,s3,s5,s6,q3,q4,hi']<;>exact Hdr):p:=e h
theorem Yfo{p q:Prop}(h:q)(e:Hd p q:=by simp(disch:=first|assumption|omega) only[go_sem,s5,hz',hz,eq_true hz',p4,pr,p3,p8,eq_true hP1']<;>exact Hdr):p:=e h
theorem Yfp{p q:Prop}(h:q)(e:Hd p q:=by simp(disch:=first|assumption|omega) only[go_sem,s4,s8,s5,hk',hk,b1,bd,a0l,hdn,s9,r9,hk]<;>exact Hdr):p:=e h
theorem Yfq{p q:Prop}(h:q)(e:Hd p q:=by simp(disch:=first|assumption|omega) only[go_sem,s0,a0i,zfe,ti2]<;>exact Hdr):p:=e h
theorem Yfr{p q:Prop}(h:q)(e:Hd p q:=by simp(disch:=first|omega|assumption) only[Tryz.f113,a0b,Option.getD,go_sem,ti2,s0,s1,s2,h,h']<;>exact Hdr):p:=e h
theorem Yfs{p:Prop}(h:p:=by simp only[↓za, ↓reduceIte,Nat.reduceEqDiff,zb,reduceCtorEq,a3a]):p:=h
theorem Yft{p q:Prop}(h:q)(e:Hd p q:=by simp(disch:=first|assumption|omega) only[go_sem,s3,r8208,s4,s5,r12288,s6,r12304,s8,hk',hk]<;>exact Hdr):p:=e h
theorem Yfu{p q:Prop}(h:q)(e:Hd p q:=by simp(disch:=first|assumption|omega) only[go_sem,s0,s1,s6,hk',hl,p5,pr,eq_false hz',lm,zfe]<;>exact Hdr):p:=e h
theorem Yfv{p q:Prop}(h:q)(e:Hd p q:=by simp(disch:=first|assumption|omega) only[go_sem,s0,s3,s5,s6,s7,s8,s12,r28704,hk',ti2,ti3]<;>exact Hdr):p:=e h
theorem Yfw{p q:Prop}(h:q)(e:Hd p q:=by simp(disch:=first|omega|assumption) only[Tryz.f74,a0b,Option.getD,go_sem,ti2,s0,s1,s2,h,h']<;>exact Hdr):p:=e h
theorem Yfx{p q:Prop}(h:q)(e:Hd p q:=by simp(disch:=first|assumption|omega) only[go_sem,Int.reduceToNat,s0,s2,s3,s4,s5,hk',hk,ha1]<;>exact Hdr):p:=e h
theorem Yfy{p q:Prop}(h:q)(e:Hd p q:=by simp(disch:=first|assumption|omega) only[go_sem,s0,s3,s4,r12320,s6,hk',hk,Int.zero_sub,f7]<;>exact Hdr):p:=e h
theorem Yfz{p q:Prop}(h:q)(e:Hd p q:=by simp(disch:=first|assumption|omega) only[go_sem,s0,s3,s5,s6,s7,r28704,hh',hh,ti2,hle,hv]<;>exact Hdr):p:=e h
theorem Yga{p q:Prop}(h:q)(e:Hd p q:=by simp(disch:=first|assumption|omega) only[go_sem,s0,s1,s2,s7,s8,s9,hk',hk,hidx,hge,hmm]<;>exact Hdr):p:=e h
theorem Ygb{p q:Prop}(h:q)(e:Hd p q:=by simp(disch:=first|assumption|omega) only[go_sem,s0,s1,s7,s8,s9,hi',hi,a0s hb hi,ei]<;>exact Hdr):p:=e h
theorem Ygc{p q:Prop}(h:q)(e:Hd p q:=by simp(disch:=first|assumption|omega) only[go_sem,Int.reduceToNat,s0,s1,s6,hj',hj,hf,s5]<;>exact Hdr):p:=e h
theorem Ygd{p q:Prop}(h:q)(e:Hd p q:=by simp(disch:=first|assumption|omega) only[go_sem,s1,r4096,s3,r8240,s10,s11,s12,hi',hi]<;>exact Hdr):p:=e h
theorem Yge{p q:Prop}(h:q)(e:Hd p q:=by simp(disch:=first|assumption|omega) only[go_sem,s0,s3,s5,s6,s7,s8,s9,r28704,ha',ti2]<;>exact Hdr):p:=e h
theorem Ygf{p q:Prop}(h:q)(e:Hd p q:=by simp(disch:=first|assumption|omega) only[go_sem,a7L,a1l]<;>exact Hdr):p:=e h
theorem Ygg{p q:Prop}(h:q)(e:Hd p q:=by simp only[↓za, ↓reduceIte,Nat.reduceEqDiff,zb,reduceCtorEq,s0]<;>exact Hdr):p:=e h
theorem Ygh{p q:Prop}(h:q)(e:Hd p q:=by simp(disch:=first|assumption|omega) only[go_sem,s0,s1,s9,s10,s11,hk',hk,c1T,zfe]<;>exact Hdr):p:=e h
theorem Ygi{p q:Prop}(h:q)(e:Hd p q:=by simp(disch:=first|assumption|omega) only[go_sem,b3U,a1l]<;>exact Hdr):p:=e h
theorem Ygj{p q:Prop}(h:q)(e:Hd p q:=by simp only[↓za, ↓reduceIte,Nat.reduceEqDiff,zb,reduceCtorEq,a1v,s0,s1,s2,s3]<;>exact Hdr):p:=e h
theorem Ygk{p q:Prop}(h:q)(e:Hd p q:=by simp(disch:=first|assumption|omega) only[go_sem,s4,s8,s5,hk',hk,b1,bd,a0l,hdn]<;>exact Hdr):p:=e h
theorem Ygl{p q:Prop}(h:q)(e:Hd p q:=by simp(disch:=first|assumption|omega) only[go_sem,s5,hz',hz,eq_false hz0,p4,pr,p3,p8]<;>exact Hdr):p:=e h
theorem Ygm{p q:Prop}(h:q)(e:Hd p q:=by simp(disch:=first|assumption|omega) only[go_sem,s0,s1,s9,s10,s11,hk',hk,c1,p5,pr]<;>exact Hdr):p:=e h
theorem Ygn{p q:Prop}(h:q)(e:Hd p q:=by simp(disch:=first|assumption|omega) only[go_sem,s0,s3,s5,s6,s7,r28704,hh',ti2,ti3]<;>exact Hdr):p:=e h
theorem Ygo{p q:Prop}(h:q)(e:Hd p q:=by simp(disch:=first|assumption|omega) only[go_sem,s0,s1,s2,s3,a1l,a3i]<;>exact Hdr):p:=e h
theorem Ygp{p q:Prop}(h:q)(e:Hd p q:=by simp(disch:=first|assumption|omega) only[go_sem,Int.reduceToNat,s0,s3,s4,s5,s6,hk']<;>exact Hdr):p:=e h
theorem Ygq{p q:Prop}(h:q)(e:Hd p q:=by simp(disch:=first|assumption|omega) only[go_sem,s0,s1,s6,hk',hk,a0i,zfe,hnr3]<;>exact Hdr):p:=e h
theorem Ygr{p q:Prop}(h:q)(e:Hd p q:=by simp(disch:=first|assumption|omega) only[go_sem,s3,s4,s5,s11,s12,s13,s14,hj',hj]<;>exact Hdr):p:=e h
theorem Ygs{p q:Prop}(h:q)(e:Hd p q:=by simp only[go_sem,s0,s1,a1l,hb,e2]<;>exact Hdr):p:=e h
theorem AXt{p:Prop}(h:p:=by repeat' first|exact a8x.nil|refine a8x.cons ?_ ?_|exact a1f _ _ _ (by decide)|exact a6b (by first|assumption|exact a0n _) (by decide)|exact a2G (by assumption) (by decide)|exact a4A (by assumption) (by decide)|exact a0q (by first|assumption|(simp only[↓za, ↓reduceIte,Nat.reduceEqDiff,zb,reduceCtorEq];done)|(simp only[↓za, ↓reduceIte,Nat.reduceEqDiff,zb,reduceCtorEq];first|rfl|assumption)) (by first|rfl|(simp only[zfe,List.length_map,b0x];done)) (by decide)|exact a6l (by first|assumption|(simp only[↓za, ↓reduceIte,Nat.reduceEqDiff,zb,reduceCtorEq];done)|(simp only[↓za, ↓reduceIte,Nat.reduceEqDiff,zb,reduceCtorEq];first|rfl|assumption)) (by first|rfl|(simp only[zfe,List.length_map,b0x];done)) (by decide)|exact a1k (by first|assumption|(simp only[↓za, ↓reduceIte,Nat.reduceEqDiff,zb,reduceCtorEq];done)|(simp only[↓za, ↓reduceIte,Nat.reduceEqDiff,zb,reduceCtorEq];first|rfl|assumption)) (by decide)|exact a3c (by first|assumption|(simp only[↓za, ↓reduceIte,Nat.reduceEqDiff,zb,reduceCtorEq];done)|(simp only[↓za, ↓reduceIte,Nat.reduceEqDiff,zb,reduceCtorEq];first|rfl|assumption)) (by decide)|refine a1E ?_):p:=h
end Go.Proofs.YtbakhfiibjkifaaGreat
