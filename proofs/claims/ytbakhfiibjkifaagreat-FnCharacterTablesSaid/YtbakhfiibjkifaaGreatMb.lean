/- Texts joined: Vm9 Vm10 Vm11 Vm12 Vm13 Vm14 Vm15 Vm16 Vm17 Vm17g Vm17u Vm17v. -/
import Derived.Deep.LoopGhost
import Derived.Orders
import Derived.RangeFuncLeaves
import Derived.RangeFuncWrites
import Derived.Test.YtbakhfiibjkifaaGreatMa
set_option linter.all false
/- The abstract machine: its operations are the model's (4): those that make or write memory. -/
namespace Go.Proofs.YtbakhfiibjkifaaGreat
open Go.RowKit
section
variable{P:Program}{ti:Nat→Option TI}{w0:World}{A0:Nat→Prop}{F0:List Nat}{c:Cx}{Φ:Nat→Nat→List Nat}{R:List Nat}{st:St}{ρ:Operand→Value}{o:Oper}{e:Eff}{b:Nat}
theorem a7o(h:Sim w0 A0 F0 c Φ R)(isb:Bool)(s:Nat)(cs:List AV)(us:List Value){F:List Nat}(hR:a0h c cs us F)(hFR: ∀x,x∈F→x∈R)(w1:World)(hw1:w1.heap=c.w.heap)(hos:w1.os=c.w.os)(htp:w1.tape=c.w.tape)(hout:Ou c.w w1)
  (arr:Array Value) (E:Nat) (cap:Nat) (hc1:us.length≤cap) (hc2:cap≤arr.size) (hc3:cap≤maxLen) (harr: ∀(i:Nat) (u:Value),us[i]?=some u→arr[i]?=some u):
  ∃c' Φ',c'.w=w1.alloc (.cells arr E)∧c'.ro=upr c.ro s (c.gn s+1) (if isb then .bx cs else .row cs)∧c'.gn=upg c.gn s (c.gn s+1)∧a1y c c'∧Sim w0 A0 F0 c' Φ' []∧
   Rel c' (.ptr s (c.gn s+1) [] 0) (.pointer (some ⟨c.w.heap.size,0,none⟩)) []∧
   ∀n,n≤us.length→Rel c' (.ref s (c.gn s+1) [] 0 n) (.slice (some ⟨c.w.heap.size,0,none⟩) n cap) []:=by
 have hsz:(w1.alloc (.cells arr E)).heap.size=c.w.heap.size+1:=by simp[hw1]
 have hold: ∀b,b<c.w.heap.size→(w1.alloc (.cells arr E)).heap[b]?=c.w.heap[b]?:=fun b hb=>by
  rw[Below.heap_alloc w1 _ b (by rw[hw1];exact hb),hw1]
 have hnew:(w1.alloc (.cells arr E)).heap[c.w.heap.size]?=some (.cells arr E (0,0)):=by
  have:=heap_alloc_new w1 (.cells arr E)
  rwa [hw1]at this
 have hRlt: ∀x,x∈F→x<c.w.heap.size:=fun x hx=>h.al x (h.rown x (hFR x hx)).1
 obtain⟨c1,q1,q2,q3,q4,q5,q6,q7⟩:=h.wchg (w1.alloc (.cells arr E)) (c.w.heap.size::F) hos htp hout (by omega) (fun b hb _=>hold b hb) (fun x hx=>by
  rcases List.mem_cons.1 hx with rfl|hx
  ·right;omega
  ·exact .inl (hFR x hx))
 have hR1:a0h c1 cs us F:=hR.mono q6 (fun b hb=>by rw[q1];exact hold b (hRlt b hb))
 have hown:ownB c1.w c.w.heap.size 0 us cap:=⟨arr,E,by rw[q1];exact hnew,by omega,hc1,hc3,fun i u hu=>by rw[Nat.zero_add];exact harr i u hu⟩
 have hnotR:c.w.heap.size∉F:=fun hx=>Nat.lt_irrefl _ (hRlt _ hx)
 obtain⟨v,hv,hh⟩: ∃v,Rel c1 (if isb then AV.bx cs else AV.row cs) v (c.w.heap.size::F)∧hd (c.w.heap.size,0) (if isb then AV.bx cs else AV.row cs) v:=by
  cases isb
  ·exact⟨_,Rel.mk_row _ 0 cap hR1 hown hnotR,⟨cap,by rw[hR.len]⟩⟩
  ·exact⟨_,Rel.mk_bx _ 0 cap hR1 hown hnotR,rfl⟩
 obtain⟨c',Φ',e1,e2,e3,e4⟩:=Sim.renew (R:=[]) (by simpa using q7) s (c.w.heap.size,0) hv hh (by simp)
 have e1w:c'.w=w1.alloc (.cells arr E):=by rw[e1];exact q1
 have e1r:c'.ro=upr c.ro s (c.gn s+1) (if isb then .bx cs else .row cs):=by rw[e1];simp only[q2,q3]
 have e1g:c'.gn=upg c.gn s (c.gn s+1):=by rw[e1];simp only[q3]
 rw[q3]at e4
 have hg:c.gn s+1≤c'.gn s:=by rw[e1g];simp[upg]
 have hcells: ∀ds,c'.ro.cells s (c.gn s+1) []=some ds→ds=cs:=by
  intro ds hds
  rw[e1r]at hds
  cases isb<;>simp[Ro.cells,upr,blk]at hds<;>exact hds.symm
 refine⟨c',Φ',e1w,e1r,e1g,q6.trans e2,e3,?_,fun n hn=>?_⟩
 ·exact .ptr s _ [] 0 _ hg (fun ds _=>⟨(c.w.heap.size,0),by simp[locp,e4],rfl⟩) .nil
 ·refine .ref s _ [] 0 n _ hg (fun ds hds=>⟨(c.w.heap.size,0),by simp[locp,e4],?_,?_⟩) .nil
  ·refine⟨0,cap,arr,E,rfl,.inl rfl,?_,by omega,by omega,hc3⟩
   rw[e1w];exact hnew
  ·rw[hcells ds hds,hR.len];omega
theorem a3F(c:Cx): ∀us:List Value,a0h c (us.map .sc) us []
 | []=> .nil
 |u::us=> .sc u (a3F c us)
theorem a4i{a:AV}{u:Value}(h:zez a=true)(hr:Rel c a u []):a1O u=true:=by
 cases a<;>simp[zez]at h
 case sc v=>obtain⟨rfl,_⟩:=Rel.sc_inv hr;exact h
 case imm cs=>obtain⟨g,b,cap,us,rfl,_⟩:=Rel.imm_inv hr;rfl
 case iptr cs=>obtain⟨g,b,us,rfl,_⟩:=Rel.iptr_inv hr;rfl
 case fn f cs=>obtain⟨us,rfl,_⟩:=Rel.fn_inv hr;rfl
 case immk k n cs=>obtain⟨g,b,cap,us,rfl,_⟩:=Rel.immk_inv hr;rfl
theorem a4z{a:AV}{u:Value}(h:a1n c.ro a=true)(hr:Rel c a u []):a1O u=true:=by
 cases a<;>simp only[a1n]at h
 case ref s g p off n=>
  obtain⟨x,cs,_,_,h2,_⟩:=a2w hr h
  obtain⟨b',cap,arr,E,h3,_⟩:=h2
  rw[h3];rfl
 case ptr s g p i=>
  obtain⟨cs,hcs⟩:=Option.isSome_iff_exists.1 h
  obtain⟨x,_,hv⟩:=a5r hr hcs
  rw[hv];rfl
 all_goals exact a4i h hr
theorem a8D{u:Value}(h:a1O u=true):u.cells= #[u]:=by cases u<;>first|rfl|cases h
theorem a4f{a:AV}{u:Value}(hr:Rel c a u [])(f:AV→Bool)(hf: ∀a u,f a=true→Rel c a u []→a1O u=true)(h:(zem a).all f=true):
  a0h c (zem a) u.cells.toList []∧ ∀v,v∈u.cells.toList→a1O v=true:=by
 have hl: ∀(as:List AV) (us:List Value),a0h c as us []→as.all f=true→ ∀v,v∈us→a1O v=true:=by
  intro as
  induction as with
  |nil=>intro us h1 _ v hv;obtain⟨rfl,_⟩:=a0h.nilF h1;cases hv
  |cons a as ih=>
   intro us h1 h2 v hv
   obtain⟨u,us',F,G,rfl,hF,ha,hr',_⟩:=a0h.uncons h1
   have:F=[]∧G=[]:=by simpa using hF.symm
   obtain⟨rfl,rfl⟩:=this
   simp only[List.all_cons,Bool.and_eq_true]at h2
   rcases List.mem_cons.1 hv with rfl|hv
   ·exact hf _ _ h2.1 ha
   ·exact ih us' hr' h2.2 v hv
 by_cases hagg: ∃cs,a= .agg cs
 ·obtain⟨cs,rfl⟩:=hagg
  obtain⟨us,rfl,h1⟩:=Rel.agg_inv hr
  simp only[zem]at h ⊢
  exact⟨by simpa [Value.cells]using h1,by simpa [Value.cells]using hl cs us h1 h⟩
 ·have hc:zem a=[a]:=by cases a<;>first|rfl|exact absurd ⟨_,rfl⟩ hagg
  rw[hc]at h ⊢
  simp only[List.all_cons,List.all_nil,Bool.and_true]at h
  have h1:=hf a u h hr
  rw[a8D h1]
  exact⟨by simpa using hr,by simpa using h1⟩
theorem b6H(T:TOK P ti)(hs:Sim w0 A0 F0 c Φ [])(hro:c.ro=st.ro)(hgn:c.gn=st.gn){t:Nat}(ho:o.op= .alloc t)
  (h:opC ti b st.ro st.gn st.ev (.alloc t)=some e):a1w P w0 A0 F0 c st ρ o e:=by
 simp only[opC]at h
 cases hi:ti t with
 |none=>simp[hi]at h
 |some inf=>
  simp only[hi,Option.some.injEq]at h
  subst h
  have hz:=(T.ok t inf hi).zl
  obtain⟨c',Φ',h1,h2,h3,h4,h5,h6,_⟩:=a7o hs true b (inf.zero.map .sc) inf.zero (a3F c _) (by simp) c.w rfl rfl rfl (Ou.refl _) inf.zero.toArray t inf.zero.length (Nat.le_refl _) (by simp) (by unfold maxLen;omega) (fun i u hu=>by simpa using hu)
  refine⟨.pointer (some ⟨c.w.heap.size,0,none⟩),_,c',Φ',.inl ?_,h1,?_,?_,h5,h4,?_⟩
  ·have:=b6u T hi c.w
   simp[execOp,ho,this]
  ·rw[h2,hro,hgn];rfl
  ·rw[h3,hgn];rfl
  ·rw[←hgn];exact h6
theorem c1M(hs:Sim w0 A0 F0 c Φ [])(hro:c.ro=st.ro)(hgn:c.gn=st.gn)(hev: ∀x,Rel c (st.ev x) (ρ x) []){t:Nat}{x:Operand}(ho:o.op= .box t x)
  (h:opC ti b st.ro st.gn st.ev (.box t x)=some e):a1w P w0 A0 F0 c st ρ o e:=by
 simp only[opC]at h
 split at h
 ·rename_i hall
  split at h
  ·rename_i hlen
   simp only[Option.some.injEq]at h
   subst h
   rw[←hro]at hall
   obtain⟨k1,k2⟩:=a4f (hev x) (a1n c.ro) (fun a u=>a4z) hall
   have hl:(ρ x).cells.size≤65536:=by rw[←Array.length_toList, ←k1.len];exact hlen
   obtain⟨c',Φ',h1,h2,h3,h4,h5,h6,_⟩:=a7o hs true b (zem (st.ev x)) (ρ x).cells.toList k1 (by simp) c.w rfl rfl rfl (Ou.refl _) (ρ x).cells t (ρ x).cells.size (by simp) (Nat.le_refl _) (by unfold maxLen;omega) (fun i u hu=>by simpa using hu)
   refine⟨.pointer (some ⟨c.w.heap.size,0,none⟩),_,c',Φ',.inl ?_,h1,?_,?_,h5,h4,?_⟩
   ·have:=c0i (P:=P) c.w t (ρ x)
    simp[execOp,ho,this]
   ·rw[h2,hro,hgn];rfl
   ·rw[h3,hgn];rfl
   ·rw[←hgn];exact h6
  ·cases h
 ·cases h
theorem b8d(T:TOK P ti)(hs:Sim w0 A0 F0 c Φ [])(hro:c.ro=st.ro)(hgn:c.gn=st.gn)(hev: ∀x,Rel c (st.ev x) (ρ x) []){t:Nat}{x y:Operand}(ho:o.op= .store t x y)
  (h:opC ti b st.ro st.gn st.ev (.store t x y)=some e):a1w P w0 A0 F0 c st ρ o e:=by
 simp only[opC]at h
 cases hi:ti t with
 |none=>simp[hi]at h
 |some inf=>
  simp only[hi]at h
  have hx:=hev x
  split at h
  ·rename_i s g p i hxe
   rw[hxe]at hx
   cases hcs:st.ro.cells s g p with
   |none=>simp[hcs]at h
   |some cs=>
    simp only[hcs]at h
    by_cases hc:i+inf.size≤cs.length∧(zem (st.ev y)).length=inf.size∧(zem (st.ev y)).all (if a1L st.ro s g p then a1n st.ro else zez)=true
    ·rw[if_pos hc]at h
     obtain⟨hle,hsz,hall⟩:=hc
     simp only[Option.some.injEq]at h
     subst h
     rw[←hro]at hcs hall
     have hone: ∀a u,(if a1L c.ro s g p then a1n c.ro else zez) a=true→Rel c a u []→a1O u=true:=by
      intro a u h1 h2
      split at h1
      ·exact a4z h1 h2
      ·exact a4i h1 h2
     obtain⟨k1,k2⟩:=a4f (hev y) _ hone hall
     obtain⟨z,hz,hv⟩:=a5r hx hcs
     obtain⟨z',arr,E,e1,e2,e3,c',Φ',h1,h2,h3,h4,h5,h6⟩:=hs.store hcs i (zem (st.ev y)) (ρ y).cells.toList (by omega) k1 (fun a ha ds e=>by
      have:=List.all_eq_true.1 hall a ha
      subst e
      split at this<;>simp[a1n,zez]at this)
     rw[hz]at e1
     simp only[Option.some.injEq]at e1
     subst e1
     have hsz':(ρ y).cells.size=inf.size:=by rw[←Array.length_toList, ←k1.len];exact hsz
     have hr:=a9V T hi c.w z.1 (z.2+i) (ρ y) arr E e2 hsz' (by simpa using e3) k2
     refine⟨undef,_,c',Φ',.inr ⟨rfl,?_⟩,h1,?_,?_,h6,h5,.sc _ .nil⟩
     ·simp[execOp,ho,hv,hr]
     ·rw[h2,hro];rfl
     ·rw[h3,hgn];rfl
    ·rw[if_neg hc]at h;cases h
  ·cases h
theorem b5Y(z:Value)(n:Nat):((Array.range (n*(#[z]:Array Value).size)).map fun i=>(#[z]:Array Value)[i % (#[z]:Array Value).size]!).toList=List.replicate n z:=by
 apply List.ext_getElem?
 intro i
 simp[List.getElem?_replicate]
 by_cases h:i<n
 ·simp[h,Nat.mod_one]
 ·simp[h]
theorem b7A(T:TOK P ti)(hs:Sim w0 A0 F0 c Φ [])(hro:c.ro=st.ro)(hgn:c.gn=st.gn)(hev: ∀x,Rel c (st.ev x) (ρ x) []){cl:Call}{x:Operand}{t:Nat}(ho:o.op= .call cl)(hc:cl.callee= .builtin .clear)
  (ha:cl.args.toList=[x]) (ht:cl.argTypes.toList=[t]) (h:opC ti b st.ro st.gn st.ev (.call cl)=some e):a1w P w0 A0 F0 c st ρ o e:=by
 have hx:=hev x
 have ha':cl.args= #[x]:=by rw[←Array.toArray_toList (xs:=cl.args),ha]
 have ht':cl.argTypes= #[t]:=by rw[←Array.toArray_toList (xs:=cl.argTypes),ht]
 simp only[opC,hc,ha,ht]at h
 cases hi:ti t with
 |none=>simp[hi]at h
 |some inf=>
  simp only[hi]at h
  cases hel:inf.elem with
  |none=>simp[hel]at h
  |some el=>
   simp only[hel]at h
   obtain⟨hd,ie',in2,z,q1,q2,q3,q4,q5,q6⟩:=(T.ok t inf hi).elem el hel
   simp only[q1]at h
   generalize ie'.zero.getD 0 undef=zz at h q6
   split at h
   ·rename_i s g p off n hxe
    rw[hxe]at hx
    cases hcs:st.ro.cells s g p with
    |none=>simp[hcs]at h
    |some cs=>
     simp only[hcs]at h
     split at h
     ·rename_i hcnd
      obtain⟨hle,hn,hone⟩:=hcnd
      simp only[Option.some.injEq]at h
      subst h
      rw[←hro]at hcs
      obtain⟨_,k⟩:=hx.ref_inv
      obtain⟨y,hy,hh,_⟩:=k _ hcs
      obtain⟨b',cap,arr0,E0,hv,hb,_,_,hnc,_⟩:=hh
      have hb':b'=y.2+off:=by
       rcases hb with hb|hb
       ·exact hb
       ·omega
      subst hb'
      obtain⟨z',arr,E,e1,e2,e3,c',Φ',h1,h2,h3,h4,h5,h6⟩:=hs.store hcs off ((List.replicate n zz).map .sc) (List.replicate n zz) (by simp;omega) (a3F c _) (fun a ha ds e=>by
       obtain⟨y,_,rfl⟩:=List.mem_map.1 ha
       cases e)
      rw[hy]at e1
      simp only[Option.some.injEq]at e1
      subst e1
      have hst:=run_storeCells_at P y.1 (y.2+off) E (List.replicate n zz) 0 arr c.w e2 (by simpa using e3) (fun u hu=>by
       rw[←a5Z,(List.mem_replicate.1 hu).2]
       exact hone)
      simp only[Nat.add_zero]at hst
      obtain⟨m,rfl⟩: ∃m,n=m+1:=⟨n-1,by omega⟩
      have hz:(Builtin.zeroCells z.cells (m+1)).toList=List.replicate (m+1) zz:=by
       unfold Builtin.zeroCells
       rw[q6]
       exact b5Y _ _
      generalize c.w.setRow y.1 _=W' at hst h1
      refine⟨.tuple #[],W',c',Φ',.inl ?_,h1,?_,?_,h6,h5,.tup .nil (by simp) .nil⟩
      ·simp[execOp,ho,resolve,hc,ha',ht',invoke,builtin,hv,Builtin.clear_,run_underlying hd,zeroValue,typeInfo,q2,q5,hz,hst]
      ·rw[h2,hro,List.map_replicate]
       rfl
      ·rw[h3,hgn];rfl
     ·cases h
   ·cases h
theorem a8S(T:TOK P ti)(hs:Sim w0 A0 F0 c Φ [])(hro:c.ro=st.ro)(hgn:c.gn=st.gn)(hev: ∀x,Rel c (st.ev x) (ρ x) []){t:Nat}{x y:Operand}(ho:o.op= .makeSlice t x y)
  (h:opC ti b st.ro st.gn st.ev (.makeSlice t x y)=some e):a1w P w0 A0 F0 c st ρ o e:=by
 simp only[opC]at h
 cases hi:ti t with
 |none=>simp[hi]at h
 |some inf=>
  simp only[hi]at h
  cases hel:inf.elem with
  |none=>simp[hel]at h
  |some el=>
   simp only[hel]at h
   split at h
   ·rename_i ie n m hie hxe hye
    have hx:=hev x;rw[hxe]at hx
    have hy:=hev y;rw[hye]at hy
    obtain⟨hx,_⟩:=Rel.sc_inv hx
    obtain⟨hy,_⟩:=Rel.sc_inv hy
    split at h
    ·rename_i hc
     obtain⟨h0,h1,h2⟩:=hc
     simp only[Option.some.injEq]at h
     subst h
     obtain⟨hd,ie',in2,z,q1,q2,q3,q4,q5,q6⟩:=(T.ok t inf hi).elem el hel
     rw[hie]at q1
     simp only[Option.some.injEq]at q1
     subst q1
     have hm:m≤4294967296:=h2
     have hbytes:(in2.bytes:Int)*m≤281474976710656:=by
      have:(in2.bytes:Int)*m≤1024*4294967296:=by
       have hb:(in2.bytes:Int)≤1024:=by omega
       exact Int.mul_le_mul hb hm (by omega) (by omega)
      omega
     have hr:=run_make (P:=P) c.w t el in2 z hd q2 q5 .i64 .i64 n m h0 h1 hbytes (by omega)
     have hsz:(madeCells z.cells (m.toNat*in2.size)).size=m.toNat:=by rw[size_madeCells,q3,Nat.mul_one]
     obtain⟨c',Φ',k1,k2,k3,k4,k5,_,k6⟩:=a7o hs ie.elem.isSome b ((List.replicate n.toNat (ie.zero.getD 0 undef)).map .sc) (List.replicate n.toNat (ie.zero.getD 0 undef)) (a3F c _) (by simp) c.w rfl rfl rfl (Ou.refl _)
      (madeCells z.cells (m.toNat*in2.size)) el m.toNat (by simp;omega) (by rw[hsz];exact Nat.le_refl _) (by unfold maxLen;omega) (fun i u hu=>by
       have hlt:i<n.toNat:=by have:=(List.getElem?_eq_some_iff.1 hu).1;simpa using this
       have:u=ie.zero.getD 0 undef:=by
        rw[List.getElem?_replicate,if_pos hlt]at hu
        exact(Option.some.inj hu).symm
       subst this
       rw[q3,Nat.mul_one,q6]
       have hlt2:i<m.toNat:=by omega
       generalize ie.zero.getD 0 undef=zz
       simp[madeCells,hlt2,Nat.mod_one])
     refine⟨.slice (some ⟨c.w.heap.size,0,none⟩) n.toNat m.toNat,_,c',Φ',.inl ?_,k1,?_,?_,k5,k4,?_⟩
     ·simp[execOp,ho,hx,hy,hr]
     ·rw[k2,hro,hgn]
      simp[St.eff,St.al,Ro.wrO,Ro.dl]
     ·rw[k3,hgn];rfl
     ·rw[←hgn];exact k6 n.toNat (by simp)
    ·cases h
   ·cases h
theorem Sim.sub9{w0 A0 F0 c Φ R R'}(h:Sim w0 A0 F0 c Φ R)(hs: ∀x,x∈R'→x∈R):Sim w0 A0 F0 c Φ R':=
 ⟨h.rt,h.no,h.dj,h.own,fun s g x hx hr=>h.rd s g x hx (hs x hr),fun x hx=>h.rown x (hs x hx),h.a0,h.al,h.bw,h.gd⟩
theorem a4M(hs:Sim w0 A0 F0 c Φ R){a:AV}{u:Value}(hr:Rel c a u []){a':AV}{dl:List (Nat×Nat)}(h:zes c.ro a=some (a',dl)):
  ∃c' Φ' F,c'.w=c.w∧c'.ro=c.ro.dl dl∧c'.gn=c.gn∧c'.L=c.L∧c'.A=c.A∧a1y c c'∧Sim w0 A0 F0 c' Φ' (R++F)∧Rel c' a' u F∧a1O u=true∧(∀x,x∈R→x∉F):=by
 have hplain:zez a=true→a'=a→dl=[]→ ∃c' Φ' F,c'.w=c.w∧c'.ro=c.ro.dl dl∧c'.gn=c.gn∧c'.L=c.L∧c'.A=c.A∧a1y c c'∧Sim w0 A0 F0 c' Φ' (R++F)∧Rel c' a' u F∧a1O u=true∧(∀x,x∈R→x∉F):=by
  rintro h1 rfl rfl
  exact⟨c,Φ,[],rfl,rfl,rfl,rfl,rfl,a1y.refl c,by simpa using hs,hr,a4i h1 hr,by simp⟩
 unfold zes at h
 split at h
 ·rename_i s g n
  cases hro:c.ro s g with
  |none=>simp[hro]at h
  |some x=>
   cases x<;>simp only[hro,reduceCtorEq]at h
   rename_i cs
   split at h
   ·rename_i hn
    simp only[Option.some.injEq,Prod.mk.injEq]at h
    obtain⟨rfl,rfl⟩:=h
    have hl:c.ro.cells s g []=some cs:=by simp[Ro.cells,hro,blk]
    obtain⟨x,cs',h1,h2,h3,h4⟩:=a2w hr (by rw[hl];rfl)
    rw[hl]at h1
    simp only[Option.some.injEq]at h1
    subst h1
    simp only[locp,Option.some.injEq]at h2
    subst h2
    obtain⟨b',cap,arr,E,e1,e2,e3,e4,e5,e6⟩:=h3
    obtain⟨c',Φ',v,rfl,k1,k2,k3,k4⟩:=hs.take hro
    obtain⟨g1,b1,cap1,us,F',q1,q2,q3,q4,q5⟩:=Rel.row_inv k3
    obtain⟨cap2,q6⟩:=k4
    rw[q1]at q6
    simp only[Value.slice.injEq,Option.some.injEq,Addr.mk.injEq]at q6
    obtain⟨⟨q7,q8,_⟩,q9,_⟩:=q6
    refine⟨{c with ro:=upr c.ro s g .dead},Φ',Φ s g,rfl,rfl,rfl,rfl,rfl,k1,k2,?_,by rw[e1];rfl,fun y hy hy'=>hs.rd s g y hy' hy⟩
    have hb:ownB c.w g1 b' us cap:=by
     obtain⟨arr1,E1,p1,p2,p3,p4,p5⟩:=q4
     have p1':c.w.heap[g1]?=some (.cells arr1 E1 (0,0)):=p1
     rw[q7,e3]at p1'
     simp only[Option.some.injEq,Obj.cells.injEq]at p1'
     obtain⟨rfl,rfl,_⟩:=p1'
     refine⟨arr,E,by rw[q7];exact e3,e4,by rw[q9, ←hn];exact e5,e6,fun i u hu=>?_⟩
     rcases e2 with e2|e2
     ·have:=p5 i u hu
      rw[e2,Nat.add_zero, ←q8];exact this
     ·have:us.length=0:=by omega
      have:=(List.getElem?_eq_some_iff.1 hu).1
      omega
    have:=Rel.mk_row (c:={c with ro:=upr c.ro s g .dead}) g1 b' cap q3 hb q5
    rw[q2,e1, ←q7]
    rw[q9]at this
    rw[hn]
    exact this
   ·cases h
 ·rename_i s g k p n
  cases hl:c.ro.cells s g (k::p)with
  |none=>simp[hl]at h
  |some cs=>
   simp only[hl]at h
   split at h
   ·rename_i hn
    simp only[Option.some.injEq,Prod.mk.injEq]at h
    obtain⟨rfl,rfl⟩:=h
    obtain⟨x,cs',h1,h2,h3,h4⟩:=a2w hr (by rw[hl];rfl)
    rw[hl]at h1
    simp only[Option.some.injEq]at h1
    subst h1
    obtain⟨b',cap,arr,E,e1,e2,e3,e4,e5,e6⟩:=h3
    obtain⟨x',us,F,cap1,j1,j2,j3,j4,j5,j6,_⟩:=hs.place hl
    rw[h2]at j1
    obtain rfl:=Option.some.inj j1
    have hro: ∃a,c.ro s g=some a:=by
     cases h:c.ro s g with
     |none=>simp[Ro.cells,Ro.at,h]at hl
     |some a=>exact⟨a,rfl⟩
    obtain⟨a,hro⟩:=hro
    obtain⟨c',Φ',v,rfl,k1,k2,k3,k4⟩:=hs.takeG hro
    have hul:us.length=cs.length:=j2.len.symm
    have hsub: ∀y,y∈x.1::F→y∈Φ s g:=fun y hy=>by
     rcases List.mem_cons.1 hy with rfl|hy
     ·exact j5
     ·exact j6 y hy
    have hb:ownB c.w x.1 b' us cap:=by
     obtain⟨arr1,E1,p1,p2,p3,p4,p5⟩:=j3
     rw[e3]at p1
     simp only[Option.some.injEq,Obj.cells.injEq]at p1
     obtain⟨rfl,rfl,_⟩:=p1
     refine⟨arr,E,e3,e4,by rw[hul, ←hn];exact e5,e6,fun i u hu=>?_⟩
     rcases e2 with e2|e2
     ·have:=p5 i u hu
      rw[e2,Nat.add_zero];exact this
     ·have:us.length=0:=by omega
      have:=(List.getElem?_eq_some_iff.1 hu).1
      omega
    refine⟨{c with ro:=upr c.ro s g .dead},Φ',x.1::F,rfl,rfl,rfl,rfl,rfl,k1,k2.sub9 (fun y hy=>?_),?_,by rw[e1];rfl,fun y hy hy'=>hs.rd s g y (hsub y hy') hy⟩
    ·rcases List.mem_append.1 hy with hy|hy
     ·exact List.mem_append.2 (.inl hy)
     ·exact List.mem_append.2 (.inr (hsub y hy))
    ·have:=(Rel.mk_row (c:=c) x.1 b' cap j2 hb j4)
     rw[hul, ←hn, ←e1]at this
     exact a0h.mono this k1 (fun _ _=>rfl)
   ·cases h
 ·split at h
  ·rename_i hok
   simp only[Option.some.injEq,Prod.mk.injEq]at h
   exact hplain hok h.1.symm h.2.symm
  ·cases h
end
section
variable{P:Program}{ti:Nat→Option TI}{w0:World}{A0:Nat→Prop}{F0:List Nat}{c:Cx}{Φ:Nat→Nat→List Nat}{R:List Nat}{st:St}{ρ:Operand→Value}{o:Oper}{e:Eff}{b:Nat}
theorem a0h.set{cs us F}(h:a0h c cs us F){i:Nat}(hi:i<cs.length){a:AV}{u:Value}{Fa:List Nat}(ha:Rel c a u Fa)(hd: ∀x,x∈Fa→x∉F):
  ∃F',a0h c (cs.set i a) (us.set i u) F'∧ ∀x,x∈F'→x∈F∨x∈Fa:=by
 obtain⟨a0,ha0⟩: ∃a0,cs[i]?=some a0:=⟨_,List.getElem?_eq_getElem hi⟩
 obtain⟨l,r,vl,v,vr,Fl,Fx,Fr,rfl,hli,rfl,hvl,rfl,hL,hX,hRr,d1,d2,d3⟩:=h.nth ha0
 have e1:(l++a0::r).set i a=l++a::r:=by rw[←hli];simp
 have e2:(vl++v::vr).set i u=vl++u::vr:=by rw[←hvl];simp
 rw[e1,e2]
 refine⟨_,a0h.append hL (a0h.cons ha hRr (fun x hx h=>hd x hx (by simp[h]))) (fun x hx h=>?_),fun x hx=>?_⟩
 ·rcases List.mem_append.1 h with h|h
  ·exact hd x h (by simp[hx])
  ·exact d2 x hx h
 ·simp only[List.mem_append]at hx ⊢
  rcases hx with hx|hx|hx
  ·exact .inl (.inl hx)
  ·exact .inr hx
  ·exact .inl (.inr (.inr hx))
theorem a0h.cut{cs us F}(h:a0h c cs us F)(i n:Nat): ∃F',a0h c ((cs.drop i).take n) ((us.drop i).take n) F'∧ ∀x,x∈F'→x∈F:=by
 have hlen:=h.len
 have e1:cs=cs.take i++cs.drop i:=(List.take_append_drop i cs).symm
 have e2:us=us.take i++us.drop i:=(List.take_append_drop i us).symm
 rw[e1]at h
 obtain⟨vl,vr,Fl,Fr,hvs,hF,hl,hr,_⟩:=h.split
 have hll:=hl.len
 have hvr:vr=us.drop i:=by
  rw[hvs,List.drop_append]
  rw[List.length_take]at hll
  by_cases hi:i≤cs.length
  ·have h1:vl.drop i=[]:=List.drop_eq_nil_of_le (by omega)
   have h2:i-vl.length=0:=by omega
   rw[h1,h2];simp
  ·have h0:cs.drop i=[]:=List.drop_eq_nil_of_le (by omega)
   rw[h0]at hr
   obtain⟨rfl,_⟩:=a0h.nilF hr
   rw[List.drop_eq_nil_of_le (by omega)];simp
 subst hvr
 have e3:cs.drop i=(cs.drop i).take n++(cs.drop i).drop n:=(List.take_append_drop n _).symm
 have hlr:=hr.len
 rw[e3]at hr
 obtain⟨vl',vr',Fl',Fr',hvs',hF',hl',hr',_⟩:=hr.split
 have hll':=hl'.len
 rw[List.length_take]at hll'
 have hvl':vl'=(us.drop i).take n:=by
  rw[hvs']
  by_cases hn:n≤(cs.drop i).length
  ·have h2:vl'.length=n:=by omega
   rw[←h2];simp
  ·have h0:(cs.drop i).drop n=[]:=List.drop_eq_nil_of_le (by omega)
   rw[h0]at hr'
   obtain⟨rfl,_⟩:=a0h.nilF hr'
   rw[List.append_nil,List.take_of_length_le (by omega)]
 rw[←hvl']
 exact⟨Fl',hl',fun x hx=>by rw[hF,hF'];simp[hx]⟩
def c1V(v:Value):Value:=v.cells.getD 0 undef
theorem c0e{v:Value}(h:a1O v=true):v.cells= #[c1V v]∧c1V v=v:=by
 unfold c1V
 rw[a8D h]
 exact⟨rfl,rfl⟩
theorem b7j(hs:Sim w0 A0 F0 c Φ R){a:AV}{u:Value}(hr:Rel c a u []){a':AV}{dl:List (Nat×Nat)}(h:zhu c.ro a=some (a',dl)):
  ∃c' Φ' F,c'.w=c.w∧c'.ro=c.ro.dl dl∧c'.gn=c.gn∧c'.L=c.L∧c'.A=c.A∧a1y c c'∧Sim w0 A0 F0 c' Φ' (R++F)∧Rel c' a' (c1V u) F∧(u.cells= #[c1V u]∧a1O (c1V u)=true)∧(∀x,x∈R→x∉F):=by
 have plain:zes c.ro a=some (a',dl)→ ∃c' Φ' F,c'.w=c.w∧c'.ro=c.ro.dl dl∧c'.gn=c.gn∧c'.L=c.L∧c'.A=c.A∧a1y c c'∧Sim w0 A0 F0 c' Φ' (R++F)∧Rel c' a' (c1V u) F∧(u.cells= #[c1V u]∧a1O (c1V u)=true)∧(∀x,x∈R→x∉F):=by
  intro h
  obtain⟨c',Φ',F,e1,e2,e3,e4,e5,e6,e7,e8,e9,e10⟩:=a4M hs hr h
  obtain⟨q1,q2⟩:=c0e e9
  exact⟨c',Φ',F,e1,e2,e3,e4,e5,e6,e7,by rw[q2];exact e8,⟨q1,by rw[q2];exact e9⟩,e10⟩
 unfold zhu at h
 split at h
 ·rename_i x
  obtain⟨us,rfl,h1⟩:=Rel.agg_inv hr
  obtain⟨v,vs,Fa,G,rfl,hF,ha,hn,_⟩:=a0h.uncons h1
  obtain⟨rfl, -⟩:=a0h.nilF hn
  have:Fa=[]:=by
   cases Fa with
   |nil=>rfl
   |cons y ys=>simp at hF
  subst this
  obtain⟨c',Φ',F,e1,e2,e3,e4,e5,e6,e7,e8,e9,e10⟩:=a4M hs ha h
  exact⟨c',Φ',F,e1,e2,e3,e4,e5,e6,e7,e8,⟨rfl,e9⟩,e10⟩
 ·exact plain h
theorem a5C(hev: ∀x,Rel c (st.ev x) (ρ x) []): ∀(parts:List (Nat×Operand)) {c1:Cx} {Φ:Nat→Nat→List Nat} {R:List Nat},a1y c c1→Sim w0 A0 F0 c1 Φ R→ ∀ {as dl},zer c1.ro st.ev parts=some (as,dl)→
  ∃c' Φ' F,c'.w=c1.w∧c'.ro=c1.ro.dl dl∧c'.gn=c1.gn∧c'.L=c1.L∧c'.A=c1.A∧a1y c1 c'∧Sim w0 A0 F0 c' Φ' (R++F)∧a0h c' (as.map (·.2)) (parts.map (fun p=>c1V (ρ p.2))) F∧(∀u,u∈parts.map (fun p=>ρ p.2)→u.cells= #[c1V u]∧a1O (c1V u)=true)∧
   as.map (·.1)=parts.map (·.1)∧(∀x,x∈R→x∉F)
 | [],c1,Φ,R,k,hs,as,dl,h=>by
  simp only[zer,Option.some.injEq,Prod.mk.injEq]at h
  obtain⟨rfl,rfl⟩:=h
  exact⟨c1,Φ,[],rfl,rfl,rfl,rfl,rfl,a1y.refl _,by simpa using hs,.nil,by simp,rfl,by simp⟩
 |(i,x)::r,c1,Φ,R,k,hs,as,dl,h=>by
  simp only[zer]at h
  cases hm:zhu c1.ro (st.ev x)with
  |none=>simp[hm]at h
  |some q=>
   obtain⟨a,d1⟩:=q
   simp only[hm]at h
   obtain⟨c2,Φ2,F,e1,e2,e3,e4,e5,e6,e7,e8,e9,e10⟩:=b7j hs ((hev x).mono k (by simp)) hm
   rw[←e2]at h
   cases hm2:zer c2.ro st.ev r with
   |none=>simp[hm2]at h
   |some q2=>
    obtain⟨as2,d2⟩:=q2
    simp only[hm2,Option.some.injEq,Prod.mk.injEq]at h
    obtain⟨rfl,rfl⟩:=h
    obtain⟨c3,Φ3,F2,f1,f2,f3,f4,f5,f6,f7,f8,f9,f10,f11⟩:=a5C hev r (k.trans e6) e7 hm2
    refine⟨c3,Φ3,F++F2,f1.trans e1,?_,f3.trans e3,f4.trans e4,f5.trans e5,e6.trans f6,by simpa using f7,?_,?_,?_,?_⟩
    ·have hdl: ∀(l1 l2:List (Nat×Nat)) (ro:Ro),ro.dl (l1++l2)=(ro.dl l1).dl l2:=by
      intro l1
      induction l1 with
      |nil=>intro l2 ro;rfl
      |cons y l1 ih=>intro l2 ro;obtain⟨s,g⟩:=y;exact ih l2 _
     rw[f2,e2,hdl]
    ·have ha:Rel c3 a (c1V (ρ x)) F:=e8.mono f6 (fun y hy=>by rw[f1])
     exact a0h.cons ha f8 (fun y hy hy2=>f11 y (by simp[hy]) hy2)
    ·intro u hu
     simp only[List.map_cons,List.mem_cons]at hu
     rcases hu with rfl|hu
     ·exact e9
     ·exact f9 u hu
    ·simp[f10]
    ·intro y hy
     simp only[List.mem_append,not_or]
     exact⟨e10 y hy,f11 y (by simp[hy])⟩
theorem a8U: ∀(as:List (Nat×AV)) (vs:List (Nat×Value)) {cs us F G},as.map (·.1)=vs.map (·.1)→a0h c (as.map (·.2)) (vs.map (·.2)) G→a0h c cs us F→(∀p,p∈as→p.1<cs.length)→(∀x,x∈G→x∉F)→
  ∃F',a0h c (zet cs as) (vs.foldl (fun l p=>l.set p.1 p.2) us) F'∧ ∀x,x∈F'→x∈F∨x∈G
 | [],vs,cs,us,F,G,h1,h2,h3,_,_=>by
  cases vs with
  |nil=>exact⟨F,h3,fun x hx=> .inl hx⟩
  |cons v vs=>simp at h1
 |(i,a)::as,vs,cs,us,F,G,h1,h2,h3,h4,h5=>by
  cases vs with
  |nil=>simp at h1
  |cons v vs=>
   obtain⟨j,v⟩:=v
   simp only[List.map_cons,List.cons.injEq]at h1
   obtain⟨rfl,h1⟩:=h1
   simp only[List.map_cons]at h2
   obtain⟨v',vs',Fa,G',hvv,rfl,ha,hr,hd⟩:=a0h.uncons h2
   simp only[List.cons.injEq]at hvv
   obtain⟨rfl,rfl⟩:=hvv
   obtain⟨F1,k1,k2⟩:=a0h.set h3 (h4 (i,a) (by simp)) ha (fun x hx=>h5 x (by simp[hx]))
   obtain⟨F2,k3,k4⟩:=a8U as vs h1 hr k1 (fun p hp=>by rw[List.length_set];exact h4 p (by simp[hp])) (fun x hx hx1=>by
    rcases k2 x hx1 with h|h
    ·exact h5 x (by simp[hx]) h
    ·exact hd x h hx)
   refine⟨F2,k3,fun x hx=>?_⟩
   rcases k4 x hx with h|h
   ·rcases k2 x h with h|h
    ·exact .inl h
    ·exact .inr (by simp[h])
   ·exact .inr (by simp[h])
theorem b1p: ∀(vs:List (Nat×Value)) (arr:Array Value),(∀p,p∈vs→p.1<arr.size∧p.2.cells= #[c1V p.2])→Instr.fill (fun i=>some (i*1,1)) arr vs=some (vs.foldl (fun l p=>l.set p.1 (c1V p.2)) arr.toList).toArray
 | [],arr,_=>by simp[Instr.fill]
 |(i,v)::vs,arr,h=>by
  obtain⟨h1,h2⟩:=h (i,v) (by simp)
  have hc:v.cells= #[c1V v]:=h2
  have ih:=b1p vs (arr.setIfInBounds i (c1V v)) (fun p hp=>by simpa using h p (by simp[hp]))
  simp only[Instr.fill,hc,Nat.mul_one]
  have hlt: ¬(i+1>arr.size):=by simp only at h1;omega
  simp[hlt]
  have:=ih
  simp only[Nat.mul_one]at this
  rw[this]
  simp
theorem a1S: ∀(vs:List (Nat×Value)) (l:List Value),(vs.foldl (fun l p=>l.set p.1 (c1V p.2)) l).length=l.length
 | [],_=>rfl
 |v::vs,l=>by rw[List.foldl_cons,a1S vs,List.length_set]
theorem a6Q(T:TOK P ti){t el n:Nat}{inf ie:TI}(hi:ti t=some inf)(hel:inf.elem=some el)(hie:ti el=some ie)(hn:n≤65536)(vs:List (Nat×Value))
  (hv: ∀p,p∈vs→p.1<n∧p.2.cells= #[c1V p.2]) (w:World):
  (Instr.buildSlice t n vs.toArray).run P w= .ok (.slice (some ⟨w.heap.size,0,none⟩) n n) (w.alloc (.cells (vs.foldl (fun l p=>l.set p.1 (c1V p.2)) (List.replicate n (ie.zero.getD 0 undef))).toArray el)):=by
 obtain⟨hd,ie',in2,z,q1,q2,q3,q4,q5,q6⟩:=(T.ok t inf hi).elem el hel
 rw[hie]at q1
 simp only[Option.some.injEq]at q1
 subst q1
 generalize ie.zero.getD 0 undef=zz at*
 have hfill:Instr.fill (fun i=>some (i*1,1)) (List.replicate n zz).toArray vs=some (vs.foldl (fun l p=>l.set p.1 (c1V p.2)) (List.replicate n zz)).toArray:=by
  have:=b1p vs (List.replicate n zz).toArray (fun p hp=>⟨by simpa using(hv p hp).1,(hv p hp).2⟩)
  simpa using this
 have hnl: ¬(n*1>2 ^ 24):=by omega
 have hz: ∀zero:Array Value,(n=0∨zero= #[zz])→((Array.range (n*1)).map (fun i=>zero[i % zero.size]!))=(List.replicate n zz).toArray:=by
  intro zero h
  apply Array.ext'
  apply List.ext_getElem?
  intro i
  rcases h with h|h
  ·subst h;simp
  ·subst h
   by_cases hlt:i<n
   ·simp[hlt,Nat.mod_one]
   ·simp[hlt]
 by_cases h0:n=0
 ·have:=hz #[] (.inl h0)
  unfold Instr.buildSlice
  simp only[Sem.run_bind,run_underlying hd,Result.andThen_ok,sizeOf,typeInfo,run_program,q2,Sem.run_pure,q3]
  rw[if_neg hnl,if_pos (by omega)]
  simp only[Sem.run_pure,Result.andThen_ok,this,hfill,newRow,Sem.run_bind,run_newObj_alloc]
 ·have:=hz #[zz] (.inr rfl)
  unfold Instr.buildSlice
  simp only[Sem.run_bind,run_underlying hd,Result.andThen_ok,sizeOf,typeInfo,run_program,q2,Sem.run_pure,q3]
  rw[if_neg hnl,if_neg (by omega)]
  simp only[zeroValue,typeInfo,Sem.run_bind,run_program,Result.andThen_ok,q2,Sem.run_pure,q5,q6,this,hfill,newRow,run_newObj_alloc]
theorem a7F(i:Nat): ∀(us:List Value) (arr:Array Value) (k:Nat),(us.zipIdx k).foldl (fun cs p=>cs.setIfInBounds (i+p.2) p.1) arr=(setL (i+k) us arr.toList).toArray
 | [],arr,k=>by simp[setL]
 |u::us,arr,k=>by
  simp only[List.zipIdx_cons,List.foldl_cons,setL]
  rw[a7F i us (arr.setIfInBounds (i+k) u) (k+1)]
  simp[Nat.add_assoc]
theorem a6q{α:Type}: ∀(i:Nat) (as bs cs:List α),setL i (as++bs) cs=setL (i+as.length) bs (setL i as cs)
 |i,[],bs,cs=>rfl
 |i,a::as,bs,cs=>by
  simp only[List.cons_append,setL,List.length_cons]
  rw[a6q (i+1) as bs (cs.set i a),Nat.add_assoc,Nat.add_comm 1]
theorem b6T{α:Type}(us l:List α)(h:us.length=l.length):setL 0 us l=us:=by
 apply List.ext_getElem?
 intro j
 rw[getElem?_setL]
 by_cases hj:j<us.length
 ·rw[if_neg (by omega),if_pos (by omega),Nat.sub_zero]
 ·rw[if_neg (by omega),if_neg (by omega),List.getElem?_eq_none (by omega),List.getElem?_eq_none (by omega)]
theorem c2U{cs:List AV}(h:cs.all c5f=true):cs.all zez=true:=by
 rw[List.all_eq_true]at h ⊢
 intro x hx
 have:=h x hx
 cases x<;>simp[c5f]at this
 exact this
theorem b1Q(hev: ∀x,Rel c (st.ev x) (ρ x) [])(k:Nat): ∀(parts:List (Nat×Operand)) (j:Nat) {ds:List AV},a6x k st.ev j parts=some ds→
  ∃us:List Value,a0h c ds us []∧us.length=k*parts.length∧(∀v,v∈us→a1O v=true)∧
   ∀arr:Array Value,(j+parts.length)*k≤arr.size→Instr.fill (fun i=>some (i*k,k)) arr (parts.map fun p=>(p.1,ρ p.2))=some (setL (j*k) us arr.toList).toArray
 | [],j,ds,h=>by
  simp only[a6x,Option.some.injEq]at h
  subst h
  exact⟨[],.nil,by simp,by simp,fun arr _=>by simp[Instr.fill,setL]⟩
 |(i,x)::r,j,ds,h=>by
  simp only[a6x]at h
  split at h
  ·rename_i hij
   subst hij
   split at h
   ·rename_i cs hxe
    split at h
    ·rename_i hc
     obtain⟨hl,hall⟩:=hc
     cases hf:a6x k st.ev (i+1) r with
     |none=>simp[hf]at h
     |some es=>
      simp only[hf,Option.some.injEq]at h
      subst h
      obtain⟨us,k1,k2,k3,k4⟩:=b1Q hev k r (i+1) hf
      have hx:=hev x
      rw[hxe]at hx
      obtain⟨q1,q2⟩:=a4f hx zez (fun a u=>a4i) (c2U hall)
      have hsz:(ρ x).cells.size=k:=by rw[←Array.length_toList, ←q1.len];exact hl
      refine⟨(ρ x).cells.toList++us,a0h.append q1 k1 (by simp),?_,?_,fun arr ha=>?_⟩
      ·rw[List.length_append,k2,Array.length_toList,hsz,List.length_cons,Nat.mul_succ];omega
      ·intro v hv
       rcases List.mem_append.1 hv with hv|hv
       ·exact q2 v hv
       ·exact k3 v hv
      ·simp only[List.length_cons]at ha
       have ha':(i+1+r.length)*k≤arr.size:=by rw[show i+1+r.length=i+(r.length+1) by omega];exact ha
       have hin:i*k+k≤arr.size:=by
        have:(i+1)*k≤(i+1+r.length)*k:=Nat.mul_le_mul_right k (by omega)
        rw[Nat.succ_mul]at this;omega
       have e2:Array.foldl (fun cs (p:Value×Nat)=>cs.setIfInBounds (i*k+p.2) p.1) arr (ρ x).cells.zipIdx=(setL (i*k) (ρ x).cells.toList arr.toList).toArray:=by
        rw[←Array.foldl_toList,Array.toList_zipIdx]
        exact a7F (i*k) (ρ x).cells.toList arr 0
       simp only[List.map_cons,Instr.fill,hsz]
       rw[if_neg (by simp;omega)]
       rw[e2,k4 _ (by simp only[List.size_toArray,a1u,Array.length_toList];exact ha'),a6q]
       simp only[Array.length_toList,hsz,Nat.succ_mul]
    ·cases h
   ·cases h
  ·cases h
theorem c0u(h:Sim w0 A0 F0 c Φ R)(s:Nat)(cs:List AV)(us:List Value)(hR:a0h c cs us [])(w1:World)(hw1:w1.heap=c.w.heap)(hos:w1.os=c.w.os)(htp:w1.tape=c.w.tape)(hout:Ou c.w w1)
  (arr:Array Value) (E k n cap:Nat) (h0:0<k) (hn:n≤cap) (hl:us.length=k*n) (hc2:k*cap≤arr.size) (hc3:us.length≤maxLen) (harr: ∀(i:Nat) (u:Value),us[i]?=some u→arr[i]?=some u):
  ∃c' Φ',c'.w=w1.alloc (.cells arr E)∧c'.ro=upr c.ro s (c.gn s+1) (.bx cs)∧c'.gn=upg c.gn s (c.gn s+1)∧a1y c c'∧Sim w0 A0 F0 c' Φ' []∧
   Rel c' (.refk k s (c.gn s+1) n) (.slice (some ⟨c.w.heap.size,0,none⟩) n cap) []:=by
 have hkn:k*n≤k*cap:=Nat.mul_le_mul_left k hn
 obtain⟨c',Φ',h1,h2,h3,h4,h5,h6,_⟩:=a7o h true s cs us hR (by simp) w1 hw1 hos htp hout arr E us.length (Nat.le_refl _) (by omega) hc3 harr
 refine⟨c',Φ',h1,h2,h3,h4,h5,?_⟩
 have hcells: ∀ds,c'.ro.cells s (c.gn s+1) []=some ds→ds=cs:=by
  intro ds hds
  rw[h2]at hds
  simp[Ro.cells,upr,blk]at hds
  exact hds.symm
 obtain⟨g1,g2⟩:=Rel.ptr_inv h6
 refine .refk k s _ n _ g1 (fun ds hds=>?_) .nil
 obtain⟨x,e1,e2⟩:=g2 ds hds
 simp only[locp,Option.some.injEq]at e1
 simp only[Value.pointer.injEq,Option.some.injEq,Addr.mk.injEq,Nat.add_zero]at e2
 obtain⟨e3,e4, -⟩:=e2
 rw[hcells ds hds,hR.len,hl]
 refine⟨⟨cap,arr,E,by rw[e1, ←e3, ←e4],?_,by rw[e1, ←e4];omega,hn,h0⟩,Nat.le_refl _⟩
 rw[e1, ←e3,h1]
 have:=heap_alloc_new w1 (.cells arr E)
 rwa [hw1]at this
theorem a5K(T:TOK P ti){t el k n:Nat}{inf:TI}(hi:ti t=some inf)(hel:inf.elk=some (el,k))(hn:n≤65536)(h0:0<n)(us:List Value)(hl:us.length=k*n)(vs:Array (Nat×Value))
  (hf: ∀arr:Array Value,n*k≤arr.size→Instr.fill (fun i=>some (i*k,k)) arr vs.toList=some (setL 0 us arr.toList).toArray) (w:World):
  (Instr.buildSlice t n vs).run P w= .ok (.slice (some ⟨w.heap.size,0,none⟩) n n) (w.alloc (.cells us.toArray el)):=by
 obtain⟨hd,in2,z,q2,q3,hk0,hk,q4,q5,q6⟩:=(T.ok t inf hi).elkA el k hel
 have hnk:n*k≤65536*64:=Nat.mul_le_mul hn hk
 have hpos:0<n*k:=Nat.mul_pos h0 hk0
 have hfill:=hf ((Array.range (n*k)).map fun i=>z.cells[i % z.cells.size]!) (by simp)
 rw[b6T us _ (by simp[hl,Nat.mul_comm])]at hfill
 unfold Instr.buildSlice
 simp only[Sem.run_bind,run_underlying hd,Result.andThen_ok,sizeOf,typeInfo,run_program,q2,Sem.run_pure,q3]
 rw[if_neg (by omega),if_neg (by omega)]
 simp only[zeroValue,typeInfo,Sem.run_bind,run_program,Result.andThen_ok,q2,Sem.run_pure,q5,hfill,newRow,run_newObj_alloc]
theorem a7V(T:TOK P ti)(hs:Sim w0 A0 F0 c Φ [])(hro:c.ro=st.ro)(hgn:c.gn=st.gn)(hev: ∀x,Rel c (st.ev x) (ρ x) []){t n:Nat}{parts:Array (Nat×Operand)}(ho:o.op= .buildSlice t n parts)
  (h:opC ti b st.ro st.gn st.ev (.buildSlice t n parts)=some e):a1w P w0 A0 F0 c st ρ o e:=by
 simp only[opC]at h
 cases hi:ti t with
 |none=>simp[hi]at h
 |some inf=>
  simp only[hi]at h
  cases hel:inf.elem with
  |none=>
   simp only[hel]at h
   cases hek:inf.elk with
   |none=>simp[hek]at h
   |some q=>
    obtain⟨el,k⟩:=q
    simp only[hek]at h
    cases hfl:a6x k st.ev 0 parts.toList with
    |none=>simp[hfl]at h
    |some cs=>
     simp only[hfl]at h
     split at h
     ·rename_i hc
      obtain⟨hn,h0,hle⟩:=hc
      simp only[Option.some.injEq]at h
      subst h
      obtain⟨us,k1,k2,k3,k4⟩:=b1Q hev k parts.toList 0 hfl
      obtain⟨hd,in2,z,q2,q3,hk0,hk,q4,q5,q6⟩:=(T.ok t inf hi).elkA el k hek
      have hpa:(parts.map fun x=>(x.1,ρ x.2)).toList=parts.toList.map (fun p=>(p.1,ρ p.2)):=by simp
      rw[←hn]at k2 k4
      have hrun:=a5K T hi hek hle h0 us k2 (parts.map fun x=>(x.1,ρ x.2)) (fun arr ha=>by rw[hpa,k4 arr (by rw[Nat.zero_add];exact ha),Nat.zero_mul]) c.w
      have hkn:k*n≤64*65536:=Nat.mul_le_mul hk hle
      obtain⟨c',Φ',h1,h2,h3,h4,h5,h6⟩:=c0u hs b cs us k1 c.w rfl rfl rfl (Ou.refl _) us.toArray el k n n hk0 (Nat.le_refl _) k2 (by simp[k2]) (by unfold maxLen;omega) (fun i u hu=>by simpa using hu)
      refine⟨.slice (some ⟨c.w.heap.size,0,none⟩) n n,_,c',Φ',.inl ?_,h1,?_,?_,h5,h4,?_⟩
      ·simp only[execOp,ho]
       rw[Sem.run_bind,hrun];rfl
      ·rw[h2,hro,hgn];rfl
      ·rw[h3,hgn];rfl
      ·rw[←hgn];exact h6
     ·cases h
  |some el=>
   simp only[hel]at h
   cases hie:ti el with
   |none=>simp[hie]at h
   |some ie=>
    simp only[hie]at h
    cases hm:zer st.ro st.ev parts.toList with
    |none=>simp[hm]at h
    |some q=>
     obtain⟨as,dl⟩:=q
     simp only[hm]at h
     split at h
     ·rename_i hc
      obtain⟨hn,hidx⟩:=hc
      simp only[Option.some.injEq]at h
      subst h
      obtain⟨hd,ie',in2,z,q1,q2,q3,q4,q5,q6⟩:=(T.ok t inf hi).elem el hel
      rw[hie]at q1
      simp only[Option.some.injEq]at q1
      subst q1
      rw[←hro]at hm
      obtain⟨c1,Φ1,F,e1,e2,e3,e4,e5,e6,e7,e8,e9,e10,_⟩:=a5C hev parts.toList (a1y.refl c) hs hm
      let vs:List (Nat×Value):=parts.toList.map (fun p=>(p.1,ρ p.2))
      have hvs1:as.map (·.1)=vs.map (·.1):=by rw[e10];simp[vs]
      let vc:List (Nat×Value):=vs.map (fun p=>(p.1,c1V p.2))
      have hvc1:as.map (·.1)=vc.map (·.1):=by rw[hvs1];simp[vc,Function.comp_def]
      have hvs0:vc.map (·.2)=parts.toList.map (fun p=>c1V (ρ p.2)):=by simp[vs,vc,Function.comp_def]
      have hvs2:a0h c1 (as.map (·.2)) (vc.map (·.2)) F:=by rw[hvs0];exact e8
      have hfo: ∀l:List Value,vc.foldl (fun l p=>l.set p.1 p.2) l=vs.foldl (fun l p=>l.set p.1 (c1V p.2)) l:=fun l=>by simp only[vc,List.foldl_map]
      have hlen: ∀p,p∈as→p.1<n:=fun p hp=>by have:=List.all_eq_true.1 hidx p hp;simpa using this
      obtain⟨F',k1,k2⟩:=a8U (c:=c1) as vc hvc1 hvs2 (by simpa using a3F c1 (List.replicate n (ie.zero.getD 0 undef))) (fun p hp=>by simpa using hlen p hp) (by simp)
      rw[hfo]at k1
      have hv: ∀p,p∈vs→p.1<n∧p.2.cells= #[c1V p.2]:=by
       intro p hp
       constructor
       ·have:p.1∈as.map (·.1):=by rw[hvs1];exact List.mem_map_of_mem hp
        obtain⟨q,hq,e⟩:=List.mem_map.1 this
        rw[←e];exact hlen q hq
       ·obtain⟨q,hq,rfl⟩:=List.mem_map.1 hp
        exact(e9 _ (List.mem_map_of_mem (f:=fun p:Nat×Operand=>ρ p.2) hq)).1
      have hrun:=a6Q T hi hel hie hn vs hv c.w
      have hpa:(parts.map fun x=>(x.1,ρ x.2))=vs.toArray:=by apply Array.ext';simp[vs]
      obtain⟨c',Φ',h1,h2,h3,h4,h5,_,h6⟩:=a7o e7 false b _ _ k1 (fun x hx=>by simpa using k2 x hx) c1.w rfl rfl rfl (Ou.refl _) (vs.foldl (fun l p=>l.set p.1 (c1V p.2)) (List.replicate n (ie.zero.getD 0 undef))).toArray el n (by simp[a1S]) (by simp[a1S]) (by unfold maxLen;omega) (fun i u hu=>by simpa using hu)
      refine⟨.slice (some ⟨c.w.heap.size,0,none⟩) n n,_,c',Φ',.inl ?_,h1,?_,?_,h5,e6.trans h4,?_⟩
      ·simp only[execOp,ho,hpa]
       rw[Sem.run_bind,hrun,e1];rfl
      ·rw[h2,e2,e3,hro,hgn];rfl
      ·rw[h3,e3,hgn];rfl
      ·rw[←hgn, ←e3, ←e1]
       exact h6 n (by simp[a1S])
     ·cases h
theorem a3x(flds:List (Nat×Nat))(hev: ∀x,Rel c (st.ev x) (ρ x) [])(place:Nat→Option (Nat×Nat))
  (hpl: ∀k off ft fi,flds[k]?=some (off,ft)→ti ft=some fi→place k=some (off,fi.size)):
  ∀(parts:List (Nat×Operand)) {cs:List AV} {us:List Value} {cs':List AV},a0h c cs us []→zfa ti c.ro flds st.ev cs parts=some cs'→
   ∃us',a0h c cs' us' []∧Instr.fill place us.toArray (parts.map (fun p=>(p.1,ρ p.2)))=some us'.toArray
 | [],cs,us,cs',h,hb=>by
  simp only[zfa,Option.some.injEq]at hb
  subst hb
  exact⟨us,h,by simp[Instr.fill]⟩
 |(i,x)::r,cs,us,cs',h,hb=>by
  simp only[zfa]at hb
  cases hf:flds[i]? with
  |none=>simp[hf]at hb
  |some q=>
   obtain⟨off,ft⟩:=q
   simp only[hf]at hb
   cases hfi:ti ft with
   |none=>simp[hfi]at hb
   |some fi=>
    simp only[hfi]at hb
    split at hb
    ·rename_i hc
     obtain⟨h1,h2,h3⟩:=hc
     obtain⟨k1,k2⟩:=a4f (hev x) (a1n c.ro) (fun a u=>a4z) h2
     obtain⟨F',k3,k4⟩:=a0h.setL (zem (st.ev x)) (ρ x).cells.toList off h k1 (by omega)
     have hF:F'=[]:=List.eq_nil_iff_forall_not_mem.2 (fun y hy=>by simpa using k4 y hy)
     subst hF
     obtain⟨us',k5,k6⟩:=a3x flds hev place hpl r k3 hb
     refine⟨us',k5,?_⟩
     have hsz:(ρ x).cells.size=fi.size:=by rw[←Array.length_toList, ←k1.len];exact h1
     simp only[List.map_cons,Instr.fill,hpl i off ft fi hf hfi]
     have hlen:=h.len
     rw[if_neg (by rw[hsz];simp;omega)]
     rw[←k6]
     congr 1
     rw[←Array.foldl_toList,Array.toList_zipIdx]
     exact a7F off (ρ x).cells.toList us.toArray 0
    ·cases hb
theorem b2K(fs:Array Field)(h: ∀f,f∈fs.toList→ ∃in3,P.info? f.type=some in3)(w:World):
  (fs.mapM fun f=>do pure (f.offset, ←sizeOf f.type):Sem (Array (Nat×Nat))).run P w= .ok (fs.map fun f=>(f.offset,P.cellsOf f.type)) w:=by
 rw[Array.mapM_eq_mapM_toList]
 have hl: ∀l:List Field,(∀f,f∈l→ ∃in3,P.info? f.type=some in3)→(l.mapM fun f=>do pure (f.offset, ←sizeOf f.type):Sem (List (Nat×Nat))).run P w= .ok (l.map fun f=>(f.offset,P.cellsOf f.type)) w:=by
  intro l
  induction l with
  |nil=>intro _;rfl
  |cons f l ih=>
   intro h
   obtain⟨in3,h3⟩:=h f (by simp)
   have ih':=ih (fun f hf=>h f (by simp[hf]))
   simp only[List.mapM_cons,Sem.run_bind,sizeOf,typeInfo,run_program,Result.andThen_ok,h3,Sem.run_pure]at ih' ⊢
   simp only[ih',Result.andThen_ok,List.map_cons,Program.cellsOf,h3]
   rfl
 have:=hl fs.toList h
 simp only[Sem.run_map,this,Result.andThen_ok]
 congr 1
 apply Array.ext'
 simp
theorem b8g(T:TOK P ti)(hs:Sim w0 A0 F0 c Φ [])(hro:c.ro=st.ro)(hgn:c.gn=st.gn)(hev: ∀x,Rel c (st.ev x) (ρ x) []){t:Nat}{parts:Array (Nat×Operand)}(ho:o.op= .build t parts)
  (h:opC ti b st.ro st.gn st.ev (.build t parts)=some e):a1w P w0 A0 F0 c st ρ o e:=by
 simp only[opC]at h
 cases hi:ti t with
 |none=>simp[hi]at h
 |some inf=>
  simp only[hi]at h
  split at h
  ·rename_i hag
   rw[←hro]at h
   obtain⟨in2,z,hin,hsz,hz,hzc⟩:=(T.ok t inf hi).info
   have hpa:(parts.map fun x=>(x.1,ρ x.2)).toList=parts.toList.map (fun p=>(p.1,ρ p.2)):=by simp
   have hzc':z.cells=inf.zero.toArray:=by rw[←hzc]
   cases har:inf.arr with
   |none=>
    simp only[har]at h
    cases hb:zfa ti c.ro inf.flds st.ev (inf.zero.map .sc) parts.toList with
    |none=>simp[hb]at h
    |some cs=>
     simp only[hb,Option.some.injEq]at h
     subst h
     obtain⟨fs,hd,hfs⟩:=(T.ok t inf hi).agg hag har
     have hmap:=b2K (P:=P) fs ((T.ok t inf hi).all fs hd) c.w
     obtain⟨us',k1,k2⟩:=a3x inf.flds hev (fun i=>(fs.map fun f=>(f.offset,P.cellsOf f.type))[i]?) (fun k off ft fi h1 h2=>by
      obtain⟨f,in3,e1,e2,e3,e4,e5,e6⟩:=hfs k off ft h1
      have:=e6 fi h2
      simp[e1,e2,e3,Program.cellsOf,e4,this]) parts.toList (a3F c inf.zero) hb
     refine a1w.pure (v:= .agg us'.toArray) hs hro hgn ?_ (by simpa using a0h.agg k1 (by simp) (a0h.nil (c:=c)))
     simp only[execOp,ho]
     unfold Instr.build
     simp only[Sem.run_bind,zeroValue,typeInfo,run_program,Result.andThen_ok,hin,Sem.run_pure,hz,run_underlying hd,hmap,hpa,hzc',k2]
   |some q=>
    obtain⟨m,el⟩:=q
    simp only[har]at h
    cases hb:zfa ti c.ro ((List.range m).map fun j=>(j,el)) st.ev (inf.zero.map .sc) parts.toList with
    |none=>simp[hb]at h
    |some cs=>
     simp only[hb,Option.some.injEq]at h
     subst h
     obtain⟨_,_,hd,_,in3,hi3,hz3,hfi⟩:=(T.ok t inf hi).arrA m el har
     obtain⟨us',k1,k2⟩:=a3x ((List.range m).map fun j=>(j,el)) hev (fun i=>some (i*1,1)) (fun k off ft fi h1 h2=>by
      simp only[List.getElem?_map,Option.map_eq_some_iff,Prod.mk.injEq]at h1
      obtain⟨j,e1,rfl,rfl⟩:=h1
      have:=List.getElem?_eq_some_iff.1 e1
      obtain⟨_,e3⟩:=this
      simp only[List.getElem_range]at e3
      subst e3
      rw[hfi fi h2,Nat.mul_one]) parts.toList (a3F c inf.zero) hb
     refine a1w.pure (v:= .agg us'.toArray) hs hro hgn ?_ (by simpa using a0h.agg k1 (by simp) (a0h.nil (c:=c)))
     simp only[execOp,ho]
     unfold Instr.build
     simp only[Sem.run_bind,zeroValue,typeInfo,run_program,Result.andThen_ok,hin,Sem.run_pure,hz,run_underlying hd,sizeOf,hi3,hz3,hpa,hzc',k2]
  ·cases h
end
section
variable{P:Program}{ti:Nat→Option TI}{w0:World}{A0:Nat→Prop}{F0:List Nat}{c:Cx}{Φ:Nat→Nat→List Nat}{R:List Nat}{st:St}{ρ:Operand→Value}{o:Oper}{e:Eff}{b:Nat}
theorem a0h.flat{as us F}(h:a0h c as us F):as.all zez=true→F=[]:=by
 induction h<;>simp_all [zez]
theorem a0h.ones{as us F}(h:a0h c as us F):as.all (fun a=>zez a||zey a)=true→ ∀v,v∈us→a1O v=true:=by
 induction h<;>simp_all [zez,zey,a1O]
theorem b8C{as:List AV}(h:as.all zez=true):as.all (fun a=>zez a||zey a)=true:=by
 rw[List.all_eq_true]at h ⊢
 intro x hx
 simp[h x hx]
theorem a2Q(g b cap n:Nat)(us:List Value)(hn:us.length=n)(w:World)(h: ∀(i:Nat) (u:Value),us[i]?=some u→w.cell? ⟨g,b+i,none⟩=some u):
  (Builtin.firstCells 1 n (.slice (some ⟨g,b,none⟩) n cap)).run P w= .ok us.toArray w:=
 run_firstCells_some (P:=P) w 1 n ⟨g,b,none⟩ n cap us (by omega) (fun j v hj=>by rw[a2f];exact h j v hj)
theorem a6o(hs:Sim w0 A0 F0 c Φ []){a:AV}{u:Value}(hr:Rel c a u []){el:List AV}{dl:List (Nat×Nat)}(h:zeu c.ro a=some (el,dl)):
  ∃c' Φ' R' F us,c'.w=c.w∧c'.ro=c.ro.dl dl∧c'.gn=c.gn∧c'.L=c.L∧c'.A=c.A∧a1y c c'∧Sim w0 A0 F0 c' Φ' R'∧a0h c' el us F∧(∀y,y∈F→y∈R')∧(∀v,v∈us→a1O v=true)∧(∀w,(Builtin.lenOf u).run P w= .ok us.length w)∧
   (∀w',w'.heap=c.w.heap→(Builtin.firstCells 1 us.length u).run P w'= .ok us.toArray w'):=by
 have hcell: ∀w':World,w'.heap=c.w.heap→ ∀a,w'.cell? a=c.w.cell? a:=fun w' hw a=>by simp[World.cell?,hw]
 unfold zeu at h
 split at h
 ·rename_i cs
  split at h
  ·rename_i hall
   simp only[Option.some.injEq,Prod.mk.injEq]at h
   obtain⟨rfl,rfl⟩:=h
   obtain⟨g1,b1,cap,us,rfl,k1,k2,k3,_⟩:=Rel.imm_inv hr
   refine⟨c,Φ,[],[],us,rfl,rfl,rfl,rfl,rfl,a1y.refl c,hs,k1,by simp,k1.ones (b8C hall),fun w=>rfl,fun w' hw=>?_⟩
   exact a2Q g1 b1 cap us.length us rfl w' (fun i v hv=>by rw[hcell w' hw];exact k2.2.2 i v hv)
  ·cases h
 ·split at h
  ·rename_i hn
   simp only[Option.some.injEq,Prod.mk.injEq]at h
   obtain⟨rfl,rfl⟩:=h
   obtain⟨rfl,_⟩:=Rel.sc_inv hr
   rw[a3Y hn]
   exact⟨c,Φ,[],[],[],rfl,rfl,rfl,rfl,rfl,a1y.refl c,hs,.nil,by simp,by simp,fun w=>rfl,fun w' hw=>run_firstCells_none (P:=P) w' 1 0 0 0⟩
  ·cases h
 ·rename_i s g p off n
  cases hcs:c.ro.cells s g p with
  |none=>simp[hcs]at h
  |some cs=>
   simp only[hcs]at h
   obtain⟨x,cs',e0,e1,e2,e3⟩:=a2w hr (by rw[hcs];rfl)
   rw[hcs]at e0
   simp only[Option.some.injEq]at e0
   subst e0
   obtain⟨x',us,F,cap,q0,q1,q2,q3,q4,q5,q6⟩:=hs.place hcs
   rw[e1]at q0
   simp only[Option.some.injEq]at q0
   subst q0
   obtain⟨b',cap',arr,E,f1,f2,f3,f4,f5,f6⟩:=e2
   have hul:us.length=cs.length:=q1.len.symm
   have hlen:((us.drop off).take n).length=n:=by rw[List.length_take,List.length_drop];omega
   have hfirst: ∀w',w'.heap=c.w.heap→(Builtin.firstCells 1 n u).run P w'= .ok ((us.drop off).take n).toArray w':=by
    intro w' hw
    rw[f1]
    rcases f2 with f2|f2
    ·rw[f2]
     exact a2Q x.1 (x.2+off) cap' n _ hlen w' (fun i v hv=>by
      rw[hcell w' hw,Nat.add_assoc]
      refine q2.cell ?_
      rw[List.getElem?_take]at hv
      split at hv
      ·rw[List.getElem?_drop]at hv;exact hv
      ·cases hv)
    ·have hn0:n=0:=by omega
     subst hn0
     exact a2Q x.1 b' cap' 0 _ hlen w' (fun i v hv=>by simp at hv)
   split at h
   ·rename_i hall
    simp only[Option.some.injEq,Prod.mk.injEq]at h
    obtain⟨rfl,rfl⟩:=h
    obtain⟨F',k1,_⟩:=q1.cut off n
    have:=k1.flat hall
    subst this
    refine⟨c,Φ,[],[],_,rfl,rfl,rfl,rfl,rfl,a1y.refl c,hs,k1,by simp,k1.ones (b8C hall),fun w=>by rw[f1,hlen];rfl,fun w' hw=>by rw[hlen];exact hfirst w' hw⟩
   ·split at h
    ·rename_i hc
     obtain⟨rfl,rfl,rfl,hall,hbx⟩:=hc
     simp only[Option.some.injEq,Prod.mk.injEq]at h
     obtain⟨rfl,rfl⟩:=h
     have hR9:c.ro s g=some (.row cs):=by
      simp only[Ro.cells]at hcs
      cases hq:c.ro s g with
      |none=>simp[hq]at hcs
      |some a=>
       simp only[hq]at hcs
       cases a<;>simp[blk]at hcs
       case row l=>subst hcs;rfl
       case bx l=>simp[a1L,Ro.at,hq,ath]at hbx
     obtain⟨c',Φ',v,rfl,k1,k2,k3,k4⟩:=hs.take hR9
     obtain⟨g1,b1,cap1,us1,F1,p1,p2,p3,p4,p5⟩:=Rel.row_inv k3
     obtain⟨cap2,k4⟩:=k4
     rw[p1]at k4
     simp only[Value.slice.injEq,Option.some.injEq,Addr.mk.injEq]at k4
     obtain⟨⟨e4,e5,_⟩,e6,_⟩:=k4
     simp only[locp,Option.some.injEq]at e1
     have hus:us1=us:=by
      apply List.ext_getElem?
      intro i
      by_cases hi:i<cs.length
      ·have h1:=p4.cell (List.getElem?_eq_getElem (show i<us1.length by omega))
       have h2:=q2.cell (List.getElem?_eq_getElem (show i<us.length by omega))
       rw[e4,e5,e1]at h1
       have h1':c.w.cell? ⟨x.1,x.2+i,none⟩=some us1[i]:=h1
       rw[h1']at h2
       rw[List.getElem?_eq_getElem (show i<us1.length by omega),List.getElem?_eq_getElem (show i<us.length by omega)]
       exact h2
      ·rw[List.getElem?_eq_none (by omega),List.getElem?_eq_none (by omega)]
     subst hus
     have hfl:(us1.drop 0).take cs.length=us1:=by rw[List.drop_zero,List.take_of_length_le (by omega)]
     rw[hfl]at hfirst hlen
     refine⟨{c with ro:=upr c.ro s g .dead},Φ',[]++Φ s g,F1,us1,rfl,rfl,rfl,rfl,rfl,k1,k2,p3,fun y hy=>by rw[p2];simp[hy],p3.ones hall,fun w=>by rw[f1,hlen];rfl,fun w' hw=>by rw[hlen];exact hfirst w' hw⟩
    ·cases h
 ·cases h
theorem a8u(T:TOK P ti)(hs:Sim w0 A0 F0 c Φ [])(hro:c.ro=st.ro)(hgn:c.gn=st.gn)(hev: ∀x,Rel c (st.ev x) (ρ x) []){cl:Call}{x y:Operand}{t:Nat}{inf:TI}(ho:o.op= .call cl)(hc:cl.callee= .builtin .append)
  (ha:cl.args.toList=[x,y]) (ht:cl.argTypes.toList=[t,t]) (hi:ti t=some inf) {elt:Nat} (hel:inf.elem=some elt) {el:List AV} {ws:List (Nat×Nat)} (hsrc:zeu st.ro (st.ev y)=some (el,ws)) (hx:st.ev x= .sc (.slice none 0 0))
  (h:(if el.length=0 then some (⟨.sc (.slice none 0 0),none,[],[]⟩:Eff)
      else if el.length≤a0G then some ⟨.ref b (st.gn b+1) [] 0 el.length,none,ws,[(b,.row el)]⟩else none)=some e):a1w P w0 A0 F0 c st ρ o e:=by
 have hxv:=hev x
 rw[hx]at hxv
 obtain⟨hxv,_⟩:=Rel.sc_inv hxv
 have ha':cl.args= #[x,y]:=by rw[←Array.toArray_toList (xs:=cl.args),ha]
 have ht':cl.argTypes= #[t,t]:=by rw[←Array.toArray_toList (xs:=cl.argTypes),ht]
 rw[←hro]at hsrc
 obtain⟨c1,Φ1,R1,F,us,e1,e2,e3,e4,e5,e6,e7,e8,e9,e10,e11,e12⟩:=a6o (P:=P) hs (hev y) hsrc
 have hrun: ∀v w',(Builtin.append_ #[t,t] o.type #[.slice none 0 0,ρ y]).run P c.w= .ok v w'→(execOp ρ o).run P c.w= .ok (.value v) w':=by
  intro v w' hv
  simp[execOp,ho,resolve,hc,ha',ht',invoke,builtin,hxv,hv]
 split at h
 ·rename_i h0
  simp only[Option.some.injEq]at h
  subst h
  have hus:us=[]:=List.eq_nil_of_length_eq_zero (by rw[←e8.len];exact h0)
  subst hus
  refine a1w.pure (v:= .slice none 0 0) hs hro hgn (hrun _ _ ?_) (.sc _ .nil)
  obtain⟨hd,ie,in2,z,_,h2,h3,_⟩:=(T.ok t inf hi).elem elt hel
  have hl:=e11 c.w
  have hf:=e12 c.w rfl
  simp only[List.length_nil]at hl hf
  simp[Builtin.append_,run_underlying hd,sizeOf,typeInfo,h2,h3,hl,hf]
 ·rename_i h0
  split at h
  ·rename_i hle
   simp only[Option.some.injEq]at h
   subst h
   have hul:us.length=el.length:=e8.len.symm
   have hle':us.length≤4294967296:=by rw[hul];exact hle
   obtain⟨nc,rest,n1,n2,n3,n4⟩:=a5D T hi hel c.w o.type (.slice none 0 0) none 0 0 rfl [] (fun w' _=>run_firstCells_none (P:=P) w' 1 0 0 0) (ρ y) us us.length rfl (e11 c.w) e12 (by omega) (by omega)
   obtain⟨c',Φ',h1,h2,h3,h4,h5,_,h6⟩:=a7o e7 false b el us e8 e9 c1.w.drew rfl rfl rfl (Ou.drew _) ([]++us++rest).toArray elt nc (by omega) (by simp;omega) n2 (fun i u hu=>by
    have:=(List.getElem?_eq_some_iff.1 hu).1
    simp only[List.nil_append,List.getElem?_toArray]
    rw[List.getElem?_append_left this];exact hu)
   refine⟨.slice (some ⟨c.w.heap.size,0,none⟩) us.length nc,_,c',Φ',.inl (hrun _ _ ?_),h1,?_,?_,h5,e6.trans h4,?_⟩
   ·rw[n4,e1];simp
   ·rw[h2,e2,e3,hro,hgn];rfl
   ·rw[h3,e3,hgn];rfl
   ·rw[←hgn, ←e3, ←e1, ←hul]
    exact h6 us.length (Nat.le_refl _)
  ·cases h
theorem a8W: ∀(l1 l2:List (Nat×Nat)) (ro:Ro),ro.dl (l1++l2)=(ro.dl l1).dl l2
 | [],_,_=>rfl
 |(s,g)::l1,l2,ro=>a8W l1 l2 (upr ro s g .dead)
theorem a7K(T:TOK P ti)(hs:Sim w0 A0 F0 c Φ [])(hro:c.ro=st.ro)(hgn:c.gn=st.gn)(hev: ∀x,Rel c (st.ev x) (ρ x) []){cl:Call}{x y:Operand}{t:Nat}{inf:TI}(ho:o.op= .call cl)(hc:cl.callee= .builtin .append)
  (ha:cl.args.toList=[x,y]) (ht:cl.argTypes.toList=[t,t]) (hi:ti t=some inf) {elt:Nat} (hel:inf.elem=some elt) {el:List AV} {ws:List (Nat×Nat)} (hsrc:zeu st.ro (st.ev y)=some (el,ws)) {s g off n:Nat} (hx:st.ev x= .ref s g [] off n)
  {cs:List AV} (hR9:(st.ro.dl ws) s g=some (.row cs)) (hle:n+el.length≤a0G)
  (h:e=⟨.ref s (st.gn s+1) [] 0 (n+el.length),none,ws++ [(s,g)],[(s,.row ((cs.drop off).take n++el))]⟩):a1w P w0 A0 F0 c st ρ o e:=by
 subst h
 have hxv:=hev x
 rw[hx]at hxv
 have ha':cl.args= #[x,y]:=by rw[←Array.toArray_toList (xs:=cl.args),ha]
 have ht':cl.argTypes= #[t,t]:=by rw[←Array.toArray_toList (xs:=cl.argTypes),ht]
 rw[←hro]at hsrc hR9
 obtain⟨c1,Φ1,R1,F,us,e1,e2,e3,e4,e5,e6,e7,e8,e9,e10,e11,e12⟩:=a6o (P:=P) hs (hev y) hsrc
 rw[←e2]at hR9
 have hxv1:Rel c1 (.ref s g [] off n) (ρ x) []:=hxv.mono e6 (by simp)
 have hcells:c1.ro.cells s g []=some cs:=by simp[Ro.cells,hR9,blk]
 obtain⟨z,cs',p0,p1,p2,p3⟩:=a2w hxv1 (by rw[hcells];rfl)
 rw[hcells]at p0
 simp only[Option.some.injEq]at p0
 subst p0
 simp only[locp,Option.some.injEq]at p1
 obtain⟨b',cap,arr,E,f1,f2,f3,f4,f5,f6⟩:=p2
 have hΦR: ∀q,q∈Φ1 s g→q∉R1:=fun q hq=>e7.rd s g q hq
 obtain⟨c2,Φ2,v,hc2,k1,k2,k3,k4⟩:=e7.take hR9
 have hc2w:c2.w=c1.w:=by rw[hc2]
 have hc2r:c2.ro=upr c1.ro s g .dead:=by rw[hc2]
 have hc2g:c2.gn=c1.gn:=by rw[hc2]
 obtain⟨g1,b1,cap1,us1,F1,q1,q2,q3,q4,q5⟩:=Rel.row_inv k3
 obtain⟨cap2,k4⟩:=k4
 rw[q1]at k4
 simp only[Value.slice.injEq,Option.some.injEq,Addr.mk.injEq]at k4
 obtain⟨⟨r1,r2,_⟩,r3,_⟩:=k4
 rw[p1]at r1 r2
 obtain⟨F2,m1,m2⟩:=q3.cut off n
 have hlen:((us1.drop off).take n).length=n:=by rw[List.length_take,List.length_drop];omega
 have hel2:a0h c2 el us F:=e8.mono k1 (fun y _=>by rw[hc2w])
 have hdisj: ∀q,q∈F2→q∉F:=fun q hq hq2=>hΦR q (by rw[q2];simp[m2 q hq]) (e9 q hq2)
 have hnew:a0h c2 ((cs.drop off).take n++el) ((us1.drop off).take n++us) (F2++F):=m1.append hel2 hdisj
 have hg1F:g1∉F2++F:=by
  intro hq
  rcases List.mem_append.1 hq with hq|hq
  ·exact q5 (m2 _ hq)
  ·exact hΦR g1 (by rw[q2];simp) (e9 _ hq)
 have hP9: ∀q,q∈g1::(F2++F)→q∈R1++Φ1 s g:=by
  intro q hq
  simp only[List.mem_cons,List.mem_append]at hq ⊢
  rcases hq with rfl|hq|hq
  ·right;rw[q2];simp
  ·right;rw[q2];simp[m2 q hq]
  ·left;exact e9 q hq
 have hul:us.length=el.length:=e8.len.symm
 have hcellv: ∀(i:Nat) (u:Value),((us1.drop off).take n)[i]?=some u→c.w.cell? ⟨z.1,z.2+off+i,none⟩=some u:=by
  intro i u hu
  rw[List.getElem?_take]at hu
  split at hu
  ·rw[List.getElem?_drop]at hu
   have:=q4.cell hu
   rw[r1,r2,hc2w,e1, ←Nat.add_assoc]at this
   exact this
  ·cases hu
 have holds: ∀w',w'.heap=c.w.heap→(Builtin.firstCells 1 n (ρ x)).run P w'= .ok ((us1.drop off).take n).toArray w':=by
  intro w' hw
  rw[f1]
  rcases f2 with f2|f2
  ·rw[f2]
   exact a2Q z.1 (z.2+off) cap n _ hlen w' (fun i v hv=>by
    have:=hcellv i v hv
    simpa [World.cell?,hw]using this)
  ·have hn0:n=0:=by omega
   subst hn0
   exact a2Q z.1 b' cap 0 _ hlen w' (fun i v hv=>by simp at hv)
 have hrun: ∀v w',(Builtin.append_ #[t,t] o.type #[ρ x,ρ y]).run P c.w= .ok v w'→(execOp ρ o).run P c.w= .ok (.value v) w':=by
  intro v w' hv
  simp[execOp,ho,resolve,hc,ha',ht',invoke,builtin,hv]
 -- how it ends, once the new row reads as it should
 have hend: ∀(w':World) (g2 b2 cap3:Nat),w'.os=c2.w.os→w'.tape=c2.w.tape→Ou c2.w w'→c2.w.heap.size≤w'.heap.size→(∀a,w'.frozen? a=c2.w.frozen? a)→(∀q,q<c2.w.heap.size→q∉R1++Φ1 s g→w'.heap[q]?=c2.w.heap[q]?)→
   (g2=g1∨(c2.w.heap.size≤g2∧g2<w'.heap.size))→(∀q,q∈F2++F→w'.heap[q]?=c2.w.heap[q]?)→ownB w' g2 b2 ((us1.drop off).take n++us) cap3→(execOp ρ o).run P c.w= .ok (.value (.slice (some ⟨g2,b2,none⟩) (n+us.length) cap3)) w'→
   a1w P w0 A0 F0 c st ρ o ⟨.ref s (st.gn s+1) [] 0 (n+el.length),none,ws++ [(s,g)],[(s,.row ((cs.drop off).take n++el))]⟩:=by
  intro w' g2 b2 cap3 hos htp hout hsz hfr hold hg2 hkeep hown hr
  have hg2F:g2∉F2++F:=by
   rcases hg2 with rfl|hg2
   ·exact hg1F
   ·intro hq
    have:=k2.al g2 (k2.rown g2 (hP9 g2 (by simp[List.mem_append.1 hq]))).1
    omega
  obtain⟨c3,d1,d2,d3,d4,d5,d6,d7⟩:=k2.wchg w' (g2::(F2++F)) hos htp hout hsz hold (fun q hq=>by
   rcases List.mem_cons.1 hq with rfl|hq
   ·rcases hg2 with rfl|hg2
    ·left;exact hP9 _ (by simp)
    ·right;exact hg2
   ·left;exact hP9 q (by simp[List.mem_append.1 hq]))
  have hnew3:a0h c3 ((cs.drop off).take n++el) ((us1.drop off).take n++us) (F2++F):=hnew.mono d6 (fun q hq=>by rw[d1];exact hkeep q hq)
  have hrow:=Rel.mk_row (c:=c3) g2 b2 cap3 hnew3 (by rw[d1];exact hown) hg2F
  obtain⟨c4,Φ4,g41,g42,g43,g44⟩:=Sim.renew (R:=[]) (by simpa using d7) s (g2,b2) hrow ⟨cap3,by rw[hnew3.len]⟩ (by simp)
  have hlen2:((us1.drop off).take n++us).length=n+us.length:=by rw[List.length_append,hlen]
  refine⟨_,w',c4,Φ4,.inl hr,by rw[g41];exact d1,?_,?_,g43,e6.trans (k1.trans (d6.trans g42)),?_⟩
  ·rw[g41]
   simp only[d2,d3,hc2r,hc2g,e3,hgn,e2,hro]
   simp[St.eff,St.al,Ro.wrO,a8W,Ro.dl]
  ·rw[g41]
   simp only[d3,hc2g,e3,hgn]
   rfl
  ·have hgs:c3.gn s=st.gn s:=by rw[d3,hc2g,e3,hgn]
   rw[hgs]at g44
   rw[←hul]
   refine .ref s _ [] 0 _ _ (by rw[g41];simp[upg,hgs]) (fun ds hds=>⟨(g2,b2),by simp[locp,g44],?_,?_⟩) .nil
   ·obtain⟨arr3,E3,o1,o2,o3,o4,o5⟩:=hown
    exact⟨b2,cap3,arr3,E3,rfl,.inl rfl,by rw[g41];show c3.w.heap[g2]?=_;rw[d1];exact o1,o2,by rw[←hlen2];exact o3,o4⟩
   ·have hd3:ds=(cs.drop off).take n++el:=by
     rw[g41]at hds
     simp[Ro.cells,upr,hgs,blk]at hds
     exact hds.symm
    rw[hd3,hnew3.len,hlen2];omega
 by_cases hroom:n+us.length≤cap
 ·-- there is room
  have hbr:b'=z.2+off∨us.length=0:=by
   rcases f2 with f2|f2
   ·exact .inl f2
   ·right;omega
  obtain⟨arr1,E1,o1,o2,o3,o4,o5⟩:=q4
  have harr:arr1=arr∧E1=E:=by
   rw[r1,hc2w,f3]at o1
   simp only[Option.some.injEq,Obj.cells.injEq]at o1
   exact⟨o1.1.symm,o1.2.1.symm⟩
  obtain⟨rfl,rfl⟩:=harr
  have f3':c.w.heap[z.1]?=some (.cells arr1 E1 (0,0)):=by rw[←e1];exact f3
  have hr:=a9v T hi hel c.w o.type z.1 b' n cap arr1 E1 f3' (ρ y) us us.length rfl (e11 c.w) (e12 c.w rfl) e10 hroom (by omega)
  have hsz: ∀l:Array Value,(c.w.setRow z.1 l).heap.size=c.w.heap.size:=fun l=>by simp[World.setRow]
  have hw2:c2.w=c.w:=by rw[hc2w,e1]
  refine hend _ z.1 b' cap ?_ ?_ ?_ ?_ ?_ ?_ (.inl r1.symm) ?_ ?_ (hrun _ _ (by rw[f1];exact hr))
  ·rw[hw2];rfl
  ·rw[hw2];rfl
  ·rw[hw2];exact⟨rfl,trivial⟩
  ·rw[hw2,hsz];exact Nat.le_refl _
  ·refine a9A fun k=>?_
   rw[hw2]
   by_cases e:k=z.1
   ·subst e;exact .inr ⟨⟨_,_,setRow_heap _ _ _ _ _ _ f3'⟩,.inr ⟨_,_,f3'⟩⟩
   ·exact .inl (setRow_other _ _ _ _ e)
  ·intro q hq hnq
   rw[hw2]
   refine setRow_other _ _ _ _ (fun eq=>hnq ?_)
   rw[eq, ←r1,List.mem_append,q2];right;simp
  ·intro q hq
   rw[hw2]
   refine setRow_other _ _ _ _ (fun eq=>hg1F ?_)
   rw[r1, ←eq];exact hq
  ·refine⟨_,E1,setRow_heap _ _ _ _ _ _ f3',?_,by rw[List.length_append,hlen];exact hroom,f6,fun i u hu=>?_⟩
   ·simp;omega
   ·simp only[List.getElem?_toArray]
    have hla:(arr1.toList.take (b'+n)).length=b'+n:=by rw[List.length_take,Array.length_toList];omega
    by_cases hin:i<n
    ·rw[List.getElem?_append_left (by rw[hlen];exact hin)]at hu
     have hb2:b'=z.2+off:=by
      rcases f2 with f2|f2
      ·exact f2
      ·omega
     rw[List.append_assoc,List.getElem?_append_left (by omega),List.getElem?_take,if_pos (by omega)]
     rw[List.getElem?_take,if_pos hin,List.getElem?_drop]at hu
     have:=o5 (off+i) u hu
     rw[r2]at this
     simp only[Array.getElem?_toList]
     rw[hb2,Nat.add_assoc];exact this
    ·rw[List.getElem?_append_right (by rw[hlen];omega),hlen]at hu
     have hiu:=(List.getElem?_eq_some_iff.1 hu).1
     rw[List.getElem?_append_left (by rw[List.length_append,hla];omega),List.getElem?_append_right (by rw[hla];omega),hla]
     have:b'+i-(b'+n)=i-n:=by omega
     rw[this];exact hu
 ·-- it grows
  obtain⟨nc,rest,n1,n2,n3,n4⟩:=a5D T hi hel c.w o.type (ρ x) _ n cap f1 ((us1.drop off).take n) holds (ρ y) us us.length rfl (e11 c.w) e12 (by omega) (by rw[hul];exact hle)
  have hw2:c2.w=c.w:=by rw[hc2w,e1]
  have hnb: ∀q,q<c.w.heap.size→(c.w.drew.alloc (.cells ((us1.drop off).take n++us++rest).toArray elt)).heap[q]?=c.w.heap[q]?:=fun q hq=>Below.heap_alloc c.w.drew _ q hq
  refine hend _ c.w.heap.size 0 nc ?_ ?_ ?_ ?_ (fun a=>by rw[hw2];exact(frozen?_alloc_cells _ _ _ a).trans rfl) ?_ (.inr ?_) ?_ ?_ (hrun _ _ n4)
  ·rw[hw2];rfl
  ·rw[hw2];rfl
  ·rw[hw2];exact⟨rfl,trivial⟩
  ·rw[hw2];simp
  ·intro q hq _;rw[hw2]at hq ⊢;exact hnb q hq
  ·rw[hw2];simp
  ·intro q hq
   rw[hw2]
   have:=k2.al q (k2.rown q (hP9 q (by simp[List.mem_append.1 hq]))).1
   rw[hw2]at this
   exact hnb q this
  ·refine⟨((us1.drop off).take n++us++rest).toArray,elt,heap_alloc_new c.w.drew _,?_,by rw[List.length_append,hlen];exact n1,n2,fun i u hu=>?_⟩
   ·simp only[List.size_toArray,List.length_append,hlen];omega
   ·simp only[Nat.zero_add,List.getElem?_toArray]
    rw[List.getElem?_append_left (List.getElem?_eq_some_iff.1 hu).1];exact hu
theorem c3c(z:Array Value)(z0:Value)(h:z= #[z0])(m:Nat):Builtin.zeroCells z m=(List.replicate m z0).toArray:=by
 subst h
 apply Array.ext'
 simp only[Builtin.zeroCells,Array.toList_map,Array.toList_range]
 apply List.ext_getElem?
 intro i
 by_cases hi:i<m
 ·simp[hi,Nat.mod_one]
 ·simp[hi]
theorem a7W(T:TOK P ti){t e t':Nat}{i i':TI}(hi:ti t=some i)(he:i.elem=some e)(hi':ti t'=some i')(hk:i'.ik=some .i64){ie:TI}(hie:ti e=some ie)(w:World)(ty g b n cap:Nat)(arr:Array Value)(E:Nat)(hg:w.heap[g]?=some (.cells arr E (0,0)))
  (m:Nat) (hm0:0<m) (hm:m≤4294967296) (h1:a1O (ie.zero.getD 0 undef)=true)
  (hroom:n+m≤cap) (hfit:b+n+m≤arr.size):
  (Builtin.append_ #[t,t'] ty #[.slice (some ⟨g,b,none⟩) n cap,.int .i64 (m:Int)]).run P w=
   .ok (.slice (some ⟨g,b,none⟩) (n+m) cap) (w.setRow g (arr.toList.take (b+n)++List.replicate m (ie.zero.getD 0 undef)++arr.toList.drop (b+n+m)).toArray):=by
 obtain⟨hd,ie2,inf,z,g1,h2,h3,h4,h5,h6⟩:=(T.ok t i hi).elem e he
 rw[hie]at g1
 obtain rfl:=Option.some.inj g1
 generalize ie.zero.getD 0 undef=z0 at*
 have hd':=(T.ok t' i' hi').ik .i64 hk
 have hst:=run_storeCells_at P g (b+n) E (List.replicate m z0) 0 arr w hg (by simp;omega) (fun u hu=>by rw[←a5Z];rw[List.eq_of_mem_replicate hu];exact h1)
 simp only[Nat.add_zero,List.length_replicate]at hst
 have hw:IntKind.i64.wrap ((m:Nat):Int)=m:=by rw[IntKind.wrap_i64];omega
 have hb1:m*inf.bytes≤4398046511104:=Nat.le_trans (Nat.mul_le_mul hm h4) (by decide)
 have hb: ¬(281474976710656<(m:Int)*(inf.bytes:Int)):=by
  rw[←Int.natCast_mul];omega
 have hm1: ¬m=0:=by omega
 have hm2: ¬((m:Nat):Int)<0:=by omega
 have hz:=c3c z.cells _ h6 m
 simp[Builtin.append_,run_underlying hd,run_underlying hd',sizeOf,typeInfo,zeroValue,h2,h3,h5,hw,hb,hm1,hm2,hroom,a2f,hst,hz,asInt,asIntOf]
theorem a7O(T:TOK P ti){t e t':Nat}{i i':TI}(hi:ti t=some i)(he:i.elem=some e)(hi':ti t'=some i')(hk:i'.ik=some .i64){ie:TI}(hie:ti e=some ie)(w:World)(ty:Nat)(s:Value)(a:Option Addr)(n cap:Nat)(hs:s= .slice a n cap)(olds:List Value)
  (hold: ∀w',w'.heap=w.heap→(Builtin.firstCells 1 n s).run P w'= .ok olds.toArray w')
  (m:Nat) (hm0:0<m) (hg:cap<n+m) (hb:n+m≤4294967296):
  ∃newcap rest,n+m≤newcap∧newcap≤maxLen∧rest.length=newcap-(n+m)∧
  (Builtin.append_ #[t,t'] ty #[s,.int .i64 (m:Int)]).run P w=
   .ok (.slice (some ⟨w.heap.size,0,none⟩) (n+m) newcap) (w.drew.alloc (.cells (olds++List.replicate m (ie.zero.getD 0 undef)++rest).toArray e)):=by
 obtain⟨hd,ie2,inf,z,g1,h2,h3,h4,h5,h6⟩:=(T.ok t i hi).elem e he
 rw[hie]at g1
 obtain rfl:=Option.some.inj g1
 generalize ie.zero.getD 0 undef=z0 at*
 have hd':=(T.ok t' i' hi').ik .i64 hk
 refine⟨grownCap w (n+m) cap e,(Builtin.zeroCells z.cells (grownCap w (n+m) cap e-(n+m))).toList,grownCap_ge _ _ _ _,grownCap_le_maxLen _ _ _ _ (by unfold maxLen;omega),?_,?_⟩
 ·rw[Array.length_toList,size_zeroCells,h6];simp
 have hw:IntKind.i64.wrap ((m:Nat):Int)=m:=by rw[IntKind.wrap_i64];omega
 have hb1:m*inf.bytes≤4398046511104:=Nat.le_trans (Nat.mul_le_mul (show m≤4294967296 by omega) h4) (by decide)
 have hb2: ¬(281474976710656<(m:Int)*(inf.bytes:Int)):=by
  rw[←Int.natCast_mul];omega
 have hm1: ¬m=0:=by omega
 have hm2: ¬((m:Nat):Int)<0:=by omega
 have hz:=c3c z.cells _ h6 m
 have hn: ¬(n+m≤cap):=by omega
 have h63': ¬(9223372036854775807<((n:Int)+(m:Int))):=by omega
 have h48:Builtin.nextslicecap (n+m) cap*inf.bytes≤281474976710656:=growslice_fits (by omega) (by
  have:(n+m)*inf.bytes≤4294967296*1024:=Nat.mul_le_mul hb h4
  omega)
 have h48': ¬(281474976710656<Builtin.nextslicecap (n+m) cap*inf.bytes):=by omega
 have ho:=hold w.drew rfl
 subst hs
 simp[Builtin.append_,run_underlying hd,run_underlying hd',sizeOf,typeInfo,zeroValue,h2,h3,h5,hw,hb2,hm1,hm2,hn,h63',h48',Question.forced,ho,hz,newRow,grownCap,asInt,asIntOf]
 try(congr 2;apply Array.ext';simp)
theorem a0h.repl{c:Cx}(v:Value): ∀m,a0h c (List.replicate m (AV.sc v)) (List.replicate m v) []
 |0=> .nil
 |m+1=>a0h.cons (.sc _ .nil) (a0h.repl v m) (by simp)
theorem a8g(T:TOK P ti)(hs:Sim w0 A0 F0 c Φ [])(hro:c.ro=st.ro)(hgn:c.gn=st.gn)(hev: ∀x,Rel c (st.ev x) (ρ x) []){cl:Call}{x y:Operand}{t t':Nat}{inf inf':TI}(ho:o.op= .call cl)(hc:cl.callee= .builtin .append)
  (ha:cl.args.toList=[x,y]) (ht:cl.argTypes.toList=[t,t']) (hi:ti t=some inf) {elt:Nat} (hel:inf.elem=some elt) (hi':ti t'=some inf') (hk:inf'.ik=some .i64) {ie:TI} (hie:ti elt=some ie) (h1z:a1O (ie.zero.getD 0 undef)=true) {m:Nat} (hm0:0<m) (hy:st.ev y= .sc (.int .i64 (m:Int))) {s g off n:Nat} (hx:st.ev x= .ref s g [] off n)
  {cs:List AV} (hR9:st.ro s g=some (.row cs)) (hle:n+m≤a0G)
  (h:e=⟨.ref s (st.gn s+1) [] 0 (n+m),none,[(s,g)],[(s,.row ((cs.drop off).take n++List.replicate m (.sc (ie.zero.getD 0 undef))))]⟩):a1w P w0 A0 F0 c st ρ o e:=by
 subst h
 have hxv:=hev x
 rw[hx]at hxv
 have ha':cl.args= #[x,y]:=by rw[←Array.toArray_toList (xs:=cl.args),ha]
 have ht':cl.argTypes= #[t,t']:=by rw[←Array.toArray_toList (xs:=cl.argTypes),ht]
 rw[←hro]at hR9
 have hyv:=hev y
 rw[hy]at hyv
 obtain⟨hyv,_⟩:=Rel.sc_inv hyv
 generalize hz0:ie.zero.getD 0 undef=z0 at h1z
 obtain⟨c1,hc1⟩: ∃c1,c1=c:=⟨c,rfl⟩
 obtain⟨Φ1,hΦ1⟩: ∃p,p=Φ:=⟨Φ,rfl⟩
 obtain⟨R1,hR1⟩: ∃p:List Nat,p=[]:=⟨[],rfl⟩
 obtain⟨F,hF⟩: ∃p:List Nat,p=[]:=⟨[],rfl⟩
 obtain⟨us,hus⟩: ∃p,p=List.replicate m z0:=⟨_,rfl⟩
 obtain⟨el,hel0⟩: ∃p,p=List.replicate m (AV.sc z0):=⟨_,rfl⟩
 have e1:c1.w=c.w:=by rw[hc1]
 have e2:c1.ro=c.ro:=by rw[hc1]
 have e3:c1.gn=c.gn:=by rw[hc1]
 have e6:a1y c c1:=by rw[hc1];exact a1y.refl c
 have e7:Sim w0 A0 F0 c1 Φ1 R1:=by rw[hc1,hΦ1,hR1];exact hs
 have e8:a0h c1 el us F:=by rw[hel0,hus,hF];exact a0h.repl z0 m
 have e9: ∀y,y∈F→y∈R1:=by rw[hF];intro y h;cases h
 have hel1:el.length=m:=by rw[hel0];exact List.length_replicate
 rw[←hel0]
 rw[←e2]at hR9
 have hxv1:Rel c1 (.ref s g [] off n) (ρ x) []:=hxv.mono e6 (by simp)
 have hcells:c1.ro.cells s g []=some cs:=by simp[Ro.cells,hR9,blk]
 obtain⟨z,cs',p0,p1,p2,p3⟩:=a2w hxv1 (by rw[hcells];rfl)
 rw[hcells]at p0
 simp only[Option.some.injEq]at p0
 subst p0
 simp only[locp,Option.some.injEq]at p1
 obtain⟨b',cap,arr,E,f1,f2,f3,f4,f5,f6⟩:=p2
 have hΦR: ∀q,q∈Φ1 s g→q∉R1:=fun q hq=>e7.rd s g q hq
 obtain⟨c2,Φ2,v,hc2,k1,k2,k3,k4⟩:=e7.take hR9
 have hc2w:c2.w=c1.w:=by rw[hc2]
 have hc2r:c2.ro=upr c1.ro s g .dead:=by rw[hc2]
 have hc2g:c2.gn=c1.gn:=by rw[hc2]
 obtain⟨g1,b1,cap1,us1,F1,q1,q2,q3,q4,q5⟩:=Rel.row_inv k3
 obtain⟨cap2,k4⟩:=k4
 rw[q1]at k4
 simp only[Value.slice.injEq,Option.some.injEq,Addr.mk.injEq]at k4
 obtain⟨⟨r1,r2,_⟩,r3,_⟩:=k4
 rw[p1]at r1 r2
 obtain⟨F2,m1,m2⟩:=q3.cut off n
 have hlen:((us1.drop off).take n).length=n:=by rw[List.length_take,List.length_drop];omega
 have hel2:a0h c2 el us F:=e8.mono k1 (fun y _=>by rw[hc2w])
 have hdisj: ∀q,q∈F2→q∉F:=fun q hq hq2=>hΦR q (by rw[q2];simp[m2 q hq]) (e9 q hq2)
 have hnew:a0h c2 ((cs.drop off).take n++el) ((us1.drop off).take n++us) (F2++F):=m1.append hel2 hdisj
 have hg1F:g1∉F2++F:=by
  intro hq
  rcases List.mem_append.1 hq with hq|hq
  ·exact q5 (m2 _ hq)
  ·exact hΦR g1 (by rw[q2];simp) (e9 _ hq)
 have hP9: ∀q,q∈g1::(F2++F)→q∈R1++Φ1 s g:=by
  intro q hq
  simp only[List.mem_cons,List.mem_append]at hq ⊢
  rcases hq with rfl|hq|hq
  ·right;rw[q2];simp
  ·right;rw[q2];simp[m2 q hq]
  ·left;exact e9 q hq
 have hul:us.length=el.length:=e8.len.symm
 have hcellv: ∀(i:Nat) (u:Value),((us1.drop off).take n)[i]?=some u→c.w.cell? ⟨z.1,z.2+off+i,none⟩=some u:=by
  intro i u hu
  rw[List.getElem?_take]at hu
  split at hu
  ·rw[List.getElem?_drop]at hu
   have:=q4.cell hu
   rw[r1,r2,hc2w,e1, ←Nat.add_assoc]at this
   exact this
  ·cases hu
 have holds: ∀w',w'.heap=c.w.heap→(Builtin.firstCells 1 n (ρ x)).run P w'= .ok ((us1.drop off).take n).toArray w':=by
  intro w' hw
  rw[f1]
  rcases f2 with f2|f2
  ·rw[f2]
   exact a2Q z.1 (z.2+off) cap n _ hlen w' (fun i v hv=>by
    have:=hcellv i v hv
    simpa [World.cell?,hw]using this)
  ·have hn0:n=0:=by omega
   subst hn0
   exact a2Q z.1 b' cap 0 _ hlen w' (fun i v hv=>by simp at hv)
 have hrun: ∀v w',(Builtin.append_ #[t,t'] o.type #[ρ x,ρ y]).run P c.w= .ok v w'→(execOp ρ o).run P c.w= .ok (.value v) w':=by
  intro v w' hv
  simp[execOp,ho,resolve,hc,ha',ht',invoke,builtin,hv]
 -- how it ends, once the new row reads as it should
 have hend: ∀(w':World) (g2 b2 cap3:Nat),w'.os=c2.w.os→w'.tape=c2.w.tape→Ou c2.w w'→c2.w.heap.size≤w'.heap.size→(∀a,w'.frozen? a=c2.w.frozen? a)→(∀q,q<c2.w.heap.size→q∉R1++Φ1 s g→w'.heap[q]?=c2.w.heap[q]?)→
   (g2=g1∨(c2.w.heap.size≤g2∧g2<w'.heap.size))→(∀q,q∈F2++F→w'.heap[q]?=c2.w.heap[q]?)→ownB w' g2 b2 ((us1.drop off).take n++us) cap3→(execOp ρ o).run P c.w= .ok (.value (.slice (some ⟨g2,b2,none⟩) (n+us.length) cap3)) w'→
   a1w P w0 A0 F0 c st ρ o ⟨.ref s (st.gn s+1) [] 0 (n+m),none,[(s,g)],[(s,.row ((cs.drop off).take n++el))]⟩:=by
  intro w' g2 b2 cap3 hos htp hout hsz hfr hold hg2 hkeep hown hr
  have hg2F:g2∉F2++F:=by
   rcases hg2 with rfl|hg2
   ·exact hg1F
   ·intro hq
    have:=k2.al g2 (k2.rown g2 (hP9 g2 (by simp[List.mem_append.1 hq]))).1
    omega
  obtain⟨c3,d1,d2,d3,d4,d5,d6,d7⟩:=k2.wchg w' (g2::(F2++F)) hos htp hout hsz hold (fun q hq=>by
   rcases List.mem_cons.1 hq with rfl|hq
   ·rcases hg2 with rfl|hg2
    ·left;exact hP9 _ (by simp)
    ·right;exact hg2
   ·left;exact hP9 q (by simp[List.mem_append.1 hq]))
  have hnew3:a0h c3 ((cs.drop off).take n++el) ((us1.drop off).take n++us) (F2++F):=hnew.mono d6 (fun q hq=>by rw[d1];exact hkeep q hq)
  have hrow:=Rel.mk_row (c:=c3) g2 b2 cap3 hnew3 (by rw[d1];exact hown) hg2F
  obtain⟨c4,Φ4,g41,g42,g43,g44⟩:=Sim.renew (R:=[]) (by simpa using d7) s (g2,b2) hrow ⟨cap3,by rw[hnew3.len]⟩ (by simp)
  have hlen2:((us1.drop off).take n++us).length=n+us.length:=by rw[List.length_append,hlen]
  refine⟨_,w',c4,Φ4,.inl hr,by rw[g41];exact d1,?_,?_,g43,e6.trans (k1.trans (d6.trans g42)),?_⟩
  ·rw[g41]
   simp only[d2,d3,hc2r,hc2g,e3,hgn,e2,hro]
   simp[St.eff,St.al,Ro.wrO,Ro.dl]
  ·rw[g41]
   simp only[d3,hc2g,e3,hgn]
   rfl
  ·have hgs:c3.gn s=st.gn s:=by rw[d3,hc2g,e3,hgn]
   rw[hgs]at g44
   have hmu:m=us.length:=by omega
   rw[hmu]
   refine .ref s _ [] 0 _ _ (by rw[g41];simp[upg,hgs]) (fun ds hds=>⟨(g2,b2),by simp[locp,g44],?_,?_⟩) .nil
   ·obtain⟨arr3,E3,o1,o2,o3,o4,o5⟩:=hown
    exact⟨b2,cap3,arr3,E3,rfl,.inl rfl,by rw[g41];show c3.w.heap[g2]?=_;rw[d1];exact o1,o2,by rw[←hlen2];exact o3,o4⟩
   ·have hd3:ds=(cs.drop off).take n++el:=by
     rw[g41]at hds
     simp[Ro.cells,upr,hgs,blk]at hds
     exact hds.symm
    rw[hd3,hnew3.len,hlen2];omega
 by_cases hroom:n+us.length≤cap
 ·-- there is room
  have hbr:b'=z.2+off∨us.length=0:=by
   rcases f2 with f2|f2
   ·exact .inl f2
   ·right;omega
  obtain⟨arr1,E1,o1,o2,o3,o4,o5⟩:=q4
  have harr:arr1=arr∧E1=E:=by
   rw[r1,hc2w,f3]at o1
   simp only[Option.some.injEq,Obj.cells.injEq]at o1
   exact⟨o1.1.symm,o1.2.1.symm⟩
  obtain⟨rfl,rfl⟩:=harr
  have f3':c.w.heap[z.1]?=some (.cells arr1 E1 (0,0)):=by rw[←e1];exact f3
  have hr:=a7W T hi hel hi' hk hie c.w o.type z.1 b' n cap arr1 E1 f3' m hm0 (by unfold a0G at hle;omega) (by rw[hz0];exact h1z) (by omega) (by omega)
  rw[hz0, ←hus, ←hyv, ←hel1, ←hul]at hr
  have hsz: ∀l:Array Value,(c.w.setRow z.1 l).heap.size=c.w.heap.size:=fun l=>by simp[World.setRow]
  have hw2:c2.w=c.w:=by rw[hc2w,e1]
  refine hend _ z.1 b' cap ?_ ?_ ?_ ?_ ?_ ?_ (.inl r1.symm) ?_ ?_ (hrun _ _ (by rw[f1];exact hr))
  ·rw[hw2];rfl
  ·rw[hw2];rfl
  ·rw[hw2];exact⟨rfl,trivial⟩
  ·rw[hw2,hsz];exact Nat.le_refl _
  ·refine a9A fun k=>?_
   rw[hw2]
   by_cases e:k=z.1
   ·subst e;exact .inr ⟨⟨_,_,setRow_heap _ _ _ _ _ _ f3'⟩,.inr ⟨_,_,f3'⟩⟩
   ·exact .inl (setRow_other _ _ _ _ e)
  ·intro q hq hnq
   rw[hw2]
   refine setRow_other _ _ _ _ (fun eq=>hnq ?_)
   rw[eq, ←r1,List.mem_append,q2];right;simp
  ·intro q hq
   rw[hw2]
   refine setRow_other _ _ _ _ (fun eq=>hg1F ?_)
   rw[r1, ←eq];exact hq
  ·refine⟨_,E1,setRow_heap _ _ _ _ _ _ f3',?_,by rw[List.length_append,hlen];exact hroom,f6,fun i u hu=>?_⟩
   ·simp;omega
   ·simp only[List.getElem?_toArray]
    have hla:(arr1.toList.take (b'+n)).length=b'+n:=by rw[List.length_take,Array.length_toList];omega
    by_cases hin:i<n
    ·rw[List.getElem?_append_left (by rw[hlen];exact hin)]at hu
     have hb2:b'=z.2+off:=by
      rcases f2 with f2|f2
      ·exact f2
      ·omega
     rw[List.append_assoc,List.getElem?_append_left (by omega),List.getElem?_take,if_pos (by omega)]
     rw[List.getElem?_take,if_pos hin,List.getElem?_drop]at hu
     have:=o5 (off+i) u hu
     rw[r2]at this
     simp only[Array.getElem?_toList]
     rw[hb2,Nat.add_assoc];exact this
    ·rw[List.getElem?_append_right (by rw[hlen];omega),hlen]at hu
     have hiu:=(List.getElem?_eq_some_iff.1 hu).1
     rw[List.getElem?_append_left (by rw[List.length_append,hla];omega),List.getElem?_append_right (by rw[hla];omega),hla]
     have:b'+i-(b'+n)=i-n:=by omega
     rw[this];exact hu
 ·-- it grows
  obtain⟨nc,rest,n1,n2,n3,n4⟩:=a7O T hi hel hi' hk hie c.w o.type (ρ x) _ n cap f1 ((us1.drop off).take n) holds m hm0 (by omega) (by unfold a0G at hle;omega)
  rw[hz0, ←hus, ←hyv, ←hel1, ←hul]at n4
  rw[←hel1, ←hul]at n1 n3
  have hw2:c2.w=c.w:=by rw[hc2w,e1]
  have hnb: ∀q,q<c.w.heap.size→(c.w.drew.alloc (.cells ((us1.drop off).take n++us++rest).toArray elt)).heap[q]?=c.w.heap[q]?:=fun q hq=>Below.heap_alloc c.w.drew _ q hq
  refine hend _ c.w.heap.size 0 nc ?_ ?_ ?_ ?_ (fun a=>by rw[hw2];exact(frozen?_alloc_cells _ _ _ a).trans rfl) ?_ (.inr ?_) ?_ ?_ (hrun _ _ n4)
  ·rw[hw2];rfl
  ·rw[hw2];rfl
  ·rw[hw2];exact⟨rfl,trivial⟩
  ·rw[hw2];simp
  ·intro q hq _;rw[hw2]at hq ⊢;exact hnb q hq
  ·rw[hw2];simp
  ·intro q hq
   rw[hw2]
   have:=k2.al q (k2.rown q (hP9 q (by simp[List.mem_append.1 hq]))).1
   rw[hw2]at this
   exact hnb q this
  ·refine⟨((us1.drop off).take n++us++rest).toArray,elt,heap_alloc_new c.w.drew _,?_,by rw[List.length_append,hlen];exact n1,n2,fun i u hu=>?_⟩
   ·simp only[List.size_toArray,List.length_append,hlen];omega
   ·simp only[Nat.zero_add,List.getElem?_toArray]
    rw[List.getElem?_append_left (List.getElem?_eq_some_iff.1 hu).1];exact hu
theorem b9t(T:TOK P ti)(hs:Sim w0 A0 F0 c Φ [])(hro:c.ro=st.ro)(hgn:c.gn=st.gn)(hev: ∀x,Rel c (st.ev x) (ρ x) []){cl:Call}{x y:Operand}{t t':Nat}(ho:o.op= .call cl)(hc:cl.callee= .builtin .copy)
  (ha:cl.args.toList=[x,y]) (ht:cl.argTypes.toList=[t,t']) (h:opC ti b st.ro st.gn st.ev (.call cl)=some e):a1w P w0 A0 F0 c st ρ o e:=by
 have hx:=hev x
 have ha':cl.args= #[x,y]:=by rw[←Array.toArray_toList (xs:=cl.args),ha]
 have ht':cl.argTypes= #[t,t']:=by rw[←Array.toArray_toList (xs:=cl.argTypes),ht]
 simp only[opC,hc,ha,ht]at h
 split at h
 ·rename_i hel
  cases hi:ti t with
  |none=>simp[hi]at hel
  |some inf=>
   simp only[hi,Option.bind_some]at hel
   obtain⟨elt,hel⟩:=Option.isSome_iff_exists.1 hel
   obtain⟨hd,ie',in2,z,q1,q2,q3,q4,q5,q6⟩:=(T.ok t inf hi).elem elt hel
   split at h
   ·rename_i s g p off n hxe
    rw[hxe]at hx
    split at h
    ·rename_i cs el hcs hsrc
     split at h
     ·rename_i hcnd
      obtain⟨hall,hn,h0,hle⟩:=hcnd
      simp only[Option.some.injEq]at h
      subst h
      rw[←hro]at hcs hsrc
      obtain⟨c1,Φ1,R1,F,us,e1,e2,e3,e4,e5,e6,e7,e8,e9,e10,e11,e12⟩:=a6o (P:=P) hs (hev y) hsrc
      have ec:c1=c:=by
       cases c1
       cases c
       simp only at e1 e2 e3 e4 e5
       subst e1 e2 e3 e4 e5
       rfl
      subst ec
      obtain rfl:=e8.flat hall
      have hul:us.length=n:=by rw[←hn];exact e8.len.symm
      obtain⟨_,k⟩:=hx.ref_inv
      obtain⟨y',hy,hh,_⟩:=k _ hcs
      obtain⟨b',cap,arr0,E0,hv,hb,_,_,hnc,_⟩:=hh
      have hb':b'=y'.2+off:=by
       rcases hb with hb|hb
       ·exact hb
       ·omega
      subst hb'
      obtain⟨z',arr,E,f1,f2,f3,c',Φ',h1,h2,h3,h4,h5,h6⟩:=hs.store hcs off el us (by omega) e8 (fun a hm ds e=>by
       rw[e]at hm
       have:=List.all_eq_true.1 hall _ hm
       simp[zez]at this)
      rw[hy]at f1
      simp only[Option.some.injEq]at f1
      subst f1
      have hst:=run_storeCells_at P y'.1 (y'.2+off) E us 0 arr c1.w f2 (by simpa using f3) (fun u hu=>by
       rw[←a5Z]
       exact e10 u hu)
      simp only[Nat.add_zero]at hst
      generalize c1.w.setRow y'.1 _=W' at hst h1
      refine⟨.int .i64 n,W',c',Φ',.inl ?_,h1,?_,?_,h6,h5,.sc _ .nil⟩
      ·have hl:=e11 c1.w
       have hf:=e12 c1.w rfl
       rw[hul]at hl hf
       simp[execOp,ho,resolve,hc,ha',ht',invoke,builtin,hv,Builtin.copy_,run_underlying hd,sizeOf,typeInfo,q2,q3,hl,hf,hst,goInt]
      ·rw[h2,hro]
       rfl
      ·rw[h3,hgn];rfl
     ·cases h
    ·cases h
   ·cases h
 ·cases h
end
section
variable{P:Program}{ti:Nat→Option TI}{w0:World}{A0:Nat→Prop}{F0:List Nat}{c c':Cx}{Φ:Nat→Nat→List Nat}{R:List Nat}{st:St}{ρ:Operand→Value}{o:Oper}{e:Eff}{b:Nat}
theorem a0h.lt{as us G}(h:a0h c as us G): ∀x,x∈G→x<c.w.heap.size:=by
 induction h with
 |nil=>simp
 |sc v _ ih=>exact ih
 |dead v _ ih=>exact ih
 |imm g b cap _ _ _ _ _ ih=>exact ih
 |row g b cap _ h2 _ _ _ ih1 ih=>
  intro x hx
  simp only[List.mem_cons,List.mem_append]at hx
  rcases hx with rfl|hx|hx
  ·exact h2.lt
  ·exact ih1 x hx
  ·exact ih x hx
 |bx g b cap _ h2 _ _ _ ih1 ih=>
  intro x hx
  simp only[List.mem_cons,List.mem_append]at hx
  rcases hx with rfl|hx|hx
  ·exact h2.lt
  ·exact ih1 x hx
  ·exact ih x hx
 |ref s g p off n v _ _ _ ih=>exact ih
 |ptr s g p i v _ _ _ ih=>exact ih
 |iptr g b _ _ _ _ ih=>exact ih
 |agg _ _ _ ih1 ih=>
  intro x hx
  rcases List.mem_append.1 hx with hx|hx
  ·exact ih1 x hx
  ·exact ih x hx
 |tup _ _ _ ih1 ih=>
  intro x hx
  rcases List.mem_append.1 hx with hx|hx
  ·exact ih1 x hx
  ·exact ih x hx
 |fn f _ _ _ ih=>exact ih
 |immk k g b n cap _ _ _ _ _ _ ih=>exact ih
 |refk k s g n v _ _ _ ih=>exact ih
theorem a0h.ctx{as us G}(h:a0h c as us G)(hw:c'.w=c.w)(hA: ∀b,c'.A b→c.A b):a0j as=true→a0h c' as us G:=by
 induction h with
 |nil=>intro _;exact .nil
 |sc v _ ih=>intro hn;exact .sc v (ih (by simpa [a0j,a0C]using hn))
 |dead v _ ih=>intro hn;exact .dead v (ih (by simpa [a0j,a0C]using hn))
 |imm g b cap _ h2 h3 _ ih1 ih=>
  intro hn
  simp only[a0j,a0C,Bool.and_eq_true]at hn
  exact .imm g b cap (ih1 hn.1) ⟨fun ha=>h2.1 (hA _ ha),by rw[hw];exact h2.2.1,by rw[hw];exact h2.2.2⟩ h3 (ih hn.2)
 |row g b cap _ h2 h3 h4 _ ih1 ih=>
  intro hn
  simp only[a0j,a0C,Bool.and_eq_true]at hn
  exact .row g b cap (ih1 hn.1) (by rw[hw];exact h2) h3 h4 (ih hn.2)
 |bx g b cap _ h2 h3 h4 _ ih1 ih=>
  intro hn
  simp only[a0j,a0C,Bool.and_eq_true]at hn
  exact .bx g b cap (ih1 hn.1) (by rw[hw];exact h2) h3 h4 (ih hn.2)
 |ref s g p off n v _ _ _ ih=>intro hn;simp[a0j,a0C]at hn
 |ptr s g p i v _ _ _ ih=>intro hn;simp[a0j,a0C]at hn
 |iptr g b _ h2 _ ih1 ih=>
  intro hn
  simp only[a0j,a0C,Bool.and_eq_true]at hn
  exact .iptr g b (ih1 hn.1) ⟨fun ha=>h2.1 (hA _ ha),by rw[hw];exact h2.2.1,by rw[hw];exact h2.2.2⟩ (ih hn.2)
 |agg _ h2 _ ih1 ih=>
  intro hn
  simp only[a0j,a0C,Bool.and_eq_true]at hn
  exact .agg (ih1 hn.1) h2 (ih hn.2)
 |tup _ h2 _ ih1 ih=>
  intro hn
  simp only[a0j,a0C,Bool.and_eq_true]at hn
  exact .tup (ih1 hn.1) h2 (ih hn.2)
 |fn f _ _ ih1 ih=>
  intro hn
  simp only[a0j,a0C,Bool.and_eq_true]at hn
  exact .fn f (ih1 hn.1) (ih hn.2)
 |immk k g b n cap _ h2 h3 h4 _ ih1 ih=>
  intro hn
  simp only[a0j,a0C,Bool.and_eq_true]at hn
  exact .immk k g b n cap (ih1 hn.1) ⟨fun ha=>h2.1 (hA _ ha),by rw[hw];exact h2.2.1,by rw[hw];exact h2.2.2⟩ h3 h4 (ih hn.2)
 |refk k s g n v _ _ _ ih=>intro hn;simp[a0j,a0C]at hn
theorem a0h.ctxI{as us G}(h:a0h c as us G)(hw:c'.w=c.w):a2R as=true→a0h c' as us G:=by
 induction h with
 |nil=>intro _;exact .nil
 |sc v _ ih=>intro hn;exact .sc v (ih (by simpa [a2R,noI]using hn))
 |dead v _ ih=>intro hn;exact .dead v (ih (by simpa [a2R,noI]using hn))
 |imm g b cap _ h2 h3 _ ih1 ih=>intro hn;simp[a2R,noI]at hn
 |row g b cap _ h2 h3 h4 _ ih1 ih=>
  intro hn
  simp only[a2R,noI,Bool.and_eq_true]at hn
  exact .row g b cap (ih1 hn.1) (by rw[hw];exact h2) h3 h4 (ih hn.2)
 |bx g b cap _ h2 h3 h4 _ ih1 ih=>
  intro hn
  simp only[a2R,noI,Bool.and_eq_true]at hn
  exact .bx g b cap (ih1 hn.1) (by rw[hw];exact h2) h3 h4 (ih hn.2)
 |ref s g p off n v _ _ _ ih=>intro hn;simp[a2R,noI]at hn
 |ptr s g p i v _ _ _ ih=>intro hn;simp[a2R,noI]at hn
 |iptr g b _ h2 _ ih1 ih=>intro hn;simp[a2R,noI]at hn
 |agg _ h2 _ ih1 ih=>
  intro hn
  simp only[a2R,noI,Bool.and_eq_true]at hn
  exact .agg (ih1 hn.1) h2 (ih hn.2)
 |tup _ h2 _ ih1 ih=>
  intro hn
  simp only[a2R,noI,Bool.and_eq_true]at hn
  exact .tup (ih1 hn.1) h2 (ih hn.2)
 |fn f _ _ ih1 ih=>
  intro hn
  simp only[a2R,noI,Bool.and_eq_true]at hn
  exact .fn f (ih1 hn.1) (ih hn.2)
 |immk k g b n cap _ _ _ _ _ _ ih=>intro hn;simp[a2R,noI]at hn
 |refk k s g n v _ _ _ ih=>intro hn;simp[a2R,noI]at hn
theorem a0h.own0{as us G}(h:a0h c as us G):a5F as=true→G=[]:=by
 induction h<;>simp_all [a5F,b5x]
mutual
theorem b2Y: ∀a,a0W a=true→a0C a=true
 | .sc _,_=>rfl
 | .dead,_=>rfl
 | .imm cs,h=>by simp only[a0W]at h;simp only[a0C];exact a1C cs h
 | .iptr cs,h=>by simp only[a0W]at h;simp only[a0C];exact a1C cs h
 | .agg cs,h=>by simp only[a0W]at h;simp only[a0C];exact a1C cs h
 | .tup cs,h=>by simp only[a0W]at h;simp only[a0C];exact a1C cs h
 | .fn _ cs,h=>by simp only[a0W]at h;simp only[a0C];exact a1C cs h
 | .row _,h=>by simp[a0W]at h
 | .bx _,h=>by simp[a0W]at h
 | .ref ..,h=>by simp[a0W]at h
 | .ptr ..,h=>by simp[a0W]at h
 | .immk _ _ cs,h=>by simp only[a0W]at h;simp only[a0C];exact a1C cs h
 | .refk ..,h=>by simp[a0W]at h
 | .mp ..,_=>rfl
theorem a1C: ∀as,a0Q as=true→a0j as=true
 | [],_=>rfl
 |a::as,h=>by
  simp only[a0Q,Bool.and_eq_true]at h
  simp only[a0j,Bool.and_eq_true]
  exact⟨b2Y a h.1,a1C as h.2⟩
end
theorem b9C(hs:Sim w0 A0 F0 c Φ R): ∀(n:Nat),(∀ {a v F},Rel c a v F→Rel (cx0 c.w (fun _=>False)) (ex c.ro n a) v [])∧
  (∀ {as us F},a0h c as us F→a0h (cx0 c.w (fun _=>False)) (as.map (ex c.ro n)) us [])
 |0=>by
  have h1: ∀ {a v F},Rel c a v F→Rel (cx0 c.w (fun _=>False)) (ex c.ro 0 a) v []:=fun {a v F} _=> .dead v .nil
  refine⟨h1,fun {as}=>?_⟩
  induction as with
  |nil=>intro us F h;obtain⟨rfl,_⟩:=a0h.nilF h;exact .nil
  |cons a as ih=>
   intro us F h
   obtain⟨v,vs,Fa,G,rfl,_,ha,hr,_⟩:=a0h.uncons h
   exact a0h.cons (h1 ha) (ih hr) (by simp)
 |n+1=>by
  obtain⟨_,ih2⟩:=b9C hs n
  have himm: ∀(g b cap:Nat) (cs:List AV) (us:List Value) (F:List Nat),a0h c cs us F→g<c.w.heap.size→(∀(i:Nat) (u:Value),us[i]?=some u→c.w.cell? ⟨g,b+i,none⟩=some u)→us.length≤cap→
    Rel (cx0 c.w (fun _=>False)) (.imm (cs.map (ex c.ro n))) (.slice (some ⟨g,b,none⟩) us.length cap) []:=by
   intro g b cap cs us F h1 h2 h3 h4
   exact .imm g b cap (ih2 h1) ⟨fun h=>h,h2,h3⟩ h4 .nil
  have hiptr: ∀(g b:Nat) (cs:List AV) (us:List Value) (F:List Nat),a0h c cs us F→g<c.w.heap.size→(∀(i:Nat) (u:Value),us[i]?=some u→c.w.cell? ⟨g,b+i,none⟩=some u)→
    Rel (cx0 c.w (fun _=>False)) (.iptr (cs.map (ex c.ro n))) (.pointer (some ⟨g,b,none⟩)) []:=by
   intro g b cs us F h1 h2 h3
   exact .iptr g b (ih2 h1) ⟨fun h=>h,h2,h3⟩ .nil
  have h1: ∀ {a v F},Rel c a v F→Rel (cx0 c.w (fun _=>False)) (ex c.ro (n+1) a) v []:=by
   intro a v F h
   cases a<;>simp only[ex]
   case sc u=>obtain⟨rfl,_⟩:=Rel.sc_inv h;exact .sc _ .nil
   case dead=>exact .dead _ .nil
   case imm cs=>
    obtain⟨g,b,cap,us,rfl,k1,k2,k3,_⟩:=Rel.imm_inv h
    exact himm g b cap cs us _ k1 k2.2.1 k2.2.2 k3
   case row cs=>
    obtain⟨g,b,cap,us,F',rfl,_,k1,k2,_⟩:=Rel.row_inv h
    exact himm g b cap cs us _ k1 k2.lt (fun i u hu=>k2.cell hu) (by obtain⟨_,_,_,_,h5,_⟩:=k2;exact h5)
   case bx cs=>
    obtain⟨g,b,cap,us,F',rfl,_,k1,k2,_⟩:=Rel.bx_inv h
    exact hiptr g b cs us _ k1 k2.lt (fun i u hu=>k2.cell hu)
   case iptr cs=>
    obtain⟨g,b,us,rfl,k1,k2,_⟩:=Rel.iptr_inv h
    exact hiptr g b cs us _ k1 k2.2.1 k2.2.2
   case agg cs=>
    obtain⟨us,rfl,k1⟩:=Rel.agg_inv h
    simpa using a0h.agg (ih2 k1) (by simp) a0h.nil
   case tup cs=>
    obtain⟨us,rfl,k1⟩:=Rel.tup_inv h
    simpa using a0h.tup (ih2 k1) (by simp) a0h.nil
   case fn f cs=>
    obtain⟨us,rfl,k1⟩:=Rel.fn_inv h
    exact .fn f (ih2 k1) .nil
   case mp r es=>exact .dead _ .nil
   case immk k m cs=>
    obtain⟨g,b,cap,us,rfl,k1,k2,k3,k4,_⟩:=Rel.immk_inv h
    exact .immk k g b m cap (ih2 k1) ⟨fun h=>h,k2.2.1,k2.2.2⟩ k3 k4 .nil
   case refk k s g m=>
    cases hcs:c.ro.cells s g []with
    |none=>exact .dead _ .nil
    |some cs=>
     simp only
     obtain⟨_,h2⟩:=Rel.refk_inv h
     obtain⟨⟨cap,arr,E,e1,e2,e3,e4,e5⟩,h5⟩:=h2 cs hcs
     obtain⟨x',us,F',cap',q0,q1,q2,q3,q4,q5,q6⟩:=hs.place hcs
     simp only[locp,Option.some.injEq]at q0
     subst q0
     obtain⟨F2,m1,_⟩:=q1.cut 0 (k*m)
     simp only[List.drop_zero]at m1
     have hlen:(us.take (k*m)).length=k*m:=by rw[List.length_take, ←q1.len];omega
     rw[e1]
     exact .immk k _ _ m cap (ih2 m1) ⟨fun h=>h,q2.lt,fun i u hu=>by
      rw[List.getElem?_take]at hu
      split at hu
      ·exact q2.cell hu
      ·cases hu⟩ hlen e4 .nil
   case ref s g p off k=>
    cases hcs:c.ro.cells s g p with
    |none=>exact .dead _ .nil
    |some cs=>
     simp only
     obtain⟨_,h2⟩:=Rel.ref_inv h
     obtain⟨x,h3,h4,h5⟩:=h2 cs hcs
     obtain⟨x',us,F',cap,q0,q1,q2,q3,q4,q5,q6⟩:=hs.place hcs
     rw[h3]at q0
     simp only[Option.some.injEq]at q0
     subst q0
     obtain⟨b',cap',arr,E,f1,f2,f3,f4,f5,f6⟩:=h4
     obtain⟨F2,m1,_⟩:=q1.cut off k
     have hlen:((us.drop off).take k).length=k:=by rw[List.length_take,List.length_drop, ←q1.len];omega
     have hg:x.1<c.w.heap.size:=q2.lt
     rw[f1]
     have:=himm x.1 b' cap' _ _ F2 m1 hg (fun i u hu=>by
      rcases f2 with f2|f2
      ·rw[f2,Nat.add_assoc]
       refine q2.cell ?_
       rw[List.getElem?_take]at hu
       split at hu
       ·rw[List.getElem?_drop]at hu;exact hu
       ·cases hu
      ·have:=(List.getElem?_eq_some_iff.1 hu).1
       omega) (by omega)
     rw[hlen]at this
     exact this
   case ptr s g p i=>
    cases hcs:c.ro.cells s g p with
    |none=>exact .dead _ .nil
    |some cs=>
     simp only
     obtain⟨x,h3,rfl⟩:=(Rel.ptr_inv h).2 cs hcs
     obtain⟨x',us,F',cap,q0,q1,q2,q3,q4,q5,q6⟩:=hs.place hcs
     rw[h3]at q0
     simp only[Option.some.injEq]at q0
     subst q0
     obtain⟨F2,m1,_⟩:=q1.cut i cs.length
     have e1:(cs.drop i).take cs.length=cs.drop i:=List.take_of_length_le (by simp)
     have e2:(us.drop i).take cs.length=us.drop i:=List.take_of_length_le (by rw[List.length_drop,q1.len];omega)
     rw[e1,e2]at m1
     exact hiptr x.1 (x.2+i) _ _ F2 m1 q2.lt (fun j u hu=>by
      rw[Nat.add_assoc]
      refine q2.cell ?_
      rw[List.getElem?_drop]at hu;exact hu)
  refine⟨h1,fun {as}=>?_⟩
  induction as with
  |nil=>intro us F h;obtain⟨rfl,_⟩:=a0h.nilF h;exact .nil
  |cons a as ih=>
   intro us F h
   obtain⟨v,vs,Fa,G,rfl,_,ha,hr,_⟩:=a0h.uncons h
   exact a0h.cons (h1 ha) (ih hr) (by simp)
def a8w:Ro→(Nat→Nat)→List (Nat×AV)→Ro×(Nat→Nat)
 |ro,gn,[]=>(ro,gn)
 |ro,gn,(s,a)::r=>a8w (upr ro s (gn s+1) a) (upg gn s (gn s+1)) r
theorem St.al_eq: ∀(l:List (Nat×AV)) (st:St),(st.al l).ro=(a8w st.ro st.gn l).1∧(st.al l).gn=(a8w st.ro st.gn l).2∧(st.al l).sl=st.sl
 | [],st=>⟨rfl,rfl,rfl⟩
 |(s,a)::r,st=>St.al_eq r _
theorem a4s: ∀(l1 l2:List (Nat×AV)) (ro:Ro) (gn:Nat→Nat),a8w ro gn (l1++l2)=a8w (a8w ro gn l1).1 (a8w ro gn l1).2 l2
 | [],_,_,_=>rfl
 |(s,a)::l1,l2,ro,gn=>a4s l1 l2 _ _
theorem b3A{a:AV}{v:Value}{F:List Nat}(hs:Sim w0 A0 F0 c Φ (F++R))(hv:Rel c a v F)(hd': ∀y,y∈F→y∉R)(s:Nat)(ha:(∃cs,a= .row cs)∨ ∃cs,a= .bx cs):
  ∃c' Φ',c'.w=c.w∧c'.ro=upr c.ro s (c.gn s+1) a∧c'.gn=upg c.gn s (c.gn s+1)∧c'.A=c.A∧a1y c c'∧Sim w0 A0 F0 c' Φ' R∧
   (∀cs,a= .row cs→Rel c' (.ref s (c.gn s+1) [] 0 cs.length) v [])∧(∀cs,a= .bx cs→Rel c' (.ptr s (c.gn s+1) [] 0) v []):=by
 obtain⟨x,hx⟩: ∃x,hd x a v:=by
  rcases ha with⟨cs,rfl⟩|⟨cs,rfl⟩
  ·obtain⟨g,b,cap,us,F',rfl,_,h1,_,_⟩:=Rel.row_inv hv
   exact⟨(g,b),cap,by rw[h1.len]⟩
  ·obtain⟨g,b,cap,us,F',rfl,_,h1,_,_⟩:=Rel.bx_inv hv
   exact⟨(g,b),rfl⟩
 obtain⟨c',Φ',e1,e2,e3,e4⟩:=hs.renew s x hv hx hd'
 have eg:c'.gn=upg c.gn s (c.gn s+1):=by rw[e1]
 have er:c'.ro=upr c.ro s (c.gn s+1) a:=by rw[e1]
 have ew:c'.w=c.w:=by rw[e1]
 refine⟨c',Φ',ew,er,eg,by rw[e1],e2,e3,?_,?_⟩
 ·rintro cs rfl
  obtain⟨g,b,cap,us,F',rfl,_,h1,h2,_⟩:=Rel.row_inv hv
  obtain⟨cap',hx⟩:=hx
  simp only[Value.slice.injEq,Option.some.injEq,Addr.mk.injEq]at hx
  obtain⟨⟨e5,e6,_⟩,e7,_⟩:=hx
  refine .ref s _ [] 0 _ _ (by rw[eg];simp[upg]) (fun ds hds=>⟨x,by simp[locp,e4],?_,?_⟩) .nil
  ·obtain⟨arr,E,o1,o2,o3,o4,_⟩:=h2
   exact⟨b,cap,arr,E,by rw[e5,e7],.inl e6,by rw[ew, ←e5];exact o1,o2,by rw[←e7];exact o3,o4⟩
  ·rw[er]at hds
   simp[Ro.cells,upr,blk]at hds
   subst hds
   omega
 ·rintro cs rfl
  refine .ptr s _ [] 0 _ (by rw[eg];simp[upg]) (fun ds hds=>⟨x,by simp[locp,e4],hx⟩) .nil
theorem a8c: ∀(as:List AV) (b:Nat) (gn:Nat→Nat) {c:Cx} {Φ:Nat→Nat→List Nat} {F R:List Nat} {vs:List Value},(∀s,b≤s→c.gn s=gn s)→Sim w0 A0 F0 c Φ (F++R)→a0h c as vs F→a0j as=true→as.all c3R=true→(∀y,y∈F→y∉R)→
  ∃c' Φ',c'.w=c.w∧(c'.ro,c'.gn)=a8w c.ro c.gn (a3y b gn as).2.1∧c'.A=c.A∧a1y c c'∧Sim w0 A0 F0 c' Φ' R∧a0h c' (a3y b gn as).1 vs []∧(∀s,(a3y b gn as).2.2≤s→c'.gn s=gn s)∧b≤(a3y b gn as).2.2
 | [],b,gn,c,Φ,F,R,vs,hg,hs,h,_,_,_=>by
  obtain⟨rfl,rfl⟩:=a0h.nilF h
  exact⟨c,Φ,rfl,rfl,rfl,a1y.refl c,by simpa using hs,.nil,hg,Nat.le_refl _⟩
 |a::as,b,gn,c,Φ,F,R,vs,hg,hs,h,hn,hi,hd=>by
  obtain⟨v,vs',Fa,G,rfl,rfl,ha,hr,hdd⟩:=a0h.uncons h
  simp only[a0j,Bool.and_eq_true]at hn
  simp only[List.all_cons,Bool.and_eq_true]at hi
  by_cases hrow:(∃cs,a= .row cs)∨ ∃cs,a= .bx cs
  ·have hs':Sim w0 A0 F0 c Φ (Fa++(G++R)):=by simpa using hs
   obtain⟨c1,Φ1,e1,e2,e3,e4,e5,e6,e7,e8⟩:=b3A hs' ha (fun y hy hq=>by
    rcases List.mem_append.1 hq with hq|hq
    ·exact hdd y hy hq
    ·exact hd y (by simp[hy]) hq) b hrow
   have hgb:c.gn b=gn b:=hg b (Nat.le_refl _)
   obtain⟨c2,Φ2,f1,f2,f3,f4,f5,f6,f7,f8⟩:=a8c as (b+1) gn (c:=c1) (fun s hsb=>by rw[e3];simp only[upg];rw[if_neg (by omega)];exact hg s (by omega)) e6 (hr.mono e5 (fun y _=>by rw[e1])) hn.2 hi.2 (fun y hy=>hd y (by simp[hy]))
   rcases hrow with⟨cs,rfl⟩|⟨cs,rfl⟩
   ·refine⟨c2,Φ2,f1.trans e1,?_,f3.trans e4,e5.trans f4,f5,?_,f7,by simp only[a3y];omega⟩
    ·rw[f2];simp only[a3y,a8w,e2,e3]
    ·simp only[a3y]
     rw[←hgb]
     exact a0h.cons ((e7 cs rfl).mono f4 (by simp)) f6 (by simp)
   ·refine⟨c2,Φ2,f1.trans e1,?_,f3.trans e4,e5.trans f4,f5,?_,f7,by simp only[a3y];omega⟩
    ·rw[f2];simp only[a3y,a8w,e2,e3]
    ·simp only[a3y]
     rw[←hgb]
     exact a0h.cons ((e8 cs rfl).mono f4 (by simp)) f6 (by simp)
  ·have hown:b5x a=true:=by
    cases a<;>first|exact absurd (.inl ⟨_,rfl⟩) hrow|exact absurd (.inr ⟨_,rfl⟩) hrow|exact hi.1
   have hFa:Fa=[]:=ha.own0 (by simp[a5F,hown])
   subst hFa
   have himp:a3y b gn (a::as)=(a::(a3y b gn as).1,(a3y b gn as).2.1,(a3y b gn as).2.2):=by
    cases a<;>first|rfl|exact absurd (.inl ⟨_,rfl⟩) hrow|exact absurd (.inr ⟨_,rfl⟩) hrow
   obtain⟨c2,Φ2,f1,f2,f3,f4,f5,f6,f7,f8⟩:=a8c as b gn hg (by simpa using hs) hr hn.2 hi.2 (fun y hy=>hd y (by simp[hy]))
   rw[himp]
   exact⟨c2,Φ2,f1,f2,f3,f4,f5,a0h.cons (ha.mono f4 (by simp)) f6 (by simp),f7,f8⟩
theorem a7N: ∀(as:List AV) (b:Nat) (gn:Nat→Nat) {c:Cx} {Φ:Nat→Nat→List Nat} {F R:List Nat} {vs:List Value},(∀s,b≤s→c.gn s=gn s)→Sim w0 A0 F0 c Φ (F++R)→a0h c as vs F→a0j as=true→as.all c2T=true→(∀y,y∈F→y∉R)→
  ∃c' Φ',c'.w=c.w∧(c'.ro,c'.gn)=a8w c.ro c.gn (a5H b gn as).2.1∧c'.A=c.A∧a1y c c'∧Sim w0 A0 F0 c' Φ' R∧a0h c' (a5H b gn as).1 vs []∧(∀s,(a5H b gn as).2.2≤s→c'.gn s=gn s)∧b≤(a5H b gn as).2.2
 | [],b,gn,c,Φ,F,R,vs,hg,hs,h,_,_,_=>by
  obtain⟨rfl,rfl⟩:=a0h.nilF h
  exact⟨c,Φ,rfl,rfl,rfl,a1y.refl c,by simpa using hs,.nil,hg,Nat.le_refl _⟩
 |a::as,b,gn,c,Φ,F,R,vs,hg,hs,h,hn,hi,hd=>by
  obtain⟨v,vs',Fa,G,rfl,rfl,ha,hr,hdd⟩:=a0h.uncons h
  simp only[a0j,Bool.and_eq_true]at hn
  simp only[List.all_cons,Bool.and_eq_true]at hi
  have hs':Sim w0 A0 F0 c Φ (Fa++(G++R)):=by simpa using hs
  have hdj: ∀y,y∈Fa→y∉G++R:=fun y hy hq=>by
   rcases List.mem_append.1 hq with hq|hq
   ·exact hdd y hy hq
   ·exact hd y (by simp[hy]) hq
  by_cases hagg: ∃cs,a= .agg cs
  ·obtain⟨cs,rfl⟩:=hagg
   obtain⟨us,rfl,h1⟩:=Rel.agg_inv ha
   obtain⟨c1,Φ1,e1,e2,e3,e4,e5,e6,e7,e8⟩:=a8c cs b gn hg hs' h1 (by simpa [a0C]using hn.1) (by simpa [c2T]using hi.1) hdj
   obtain⟨c2,Φ2,f1,f2,f3,f4,f5,f6,f7,f8⟩:=a7N as (a3y b gn cs).2.2 gn (c:=c1) e7 e5 (hr.mono e4 (fun y _=>by rw[e1])) hn.2 hi.2 (fun y hy=>hd y (by simp[hy]))
   simp only[a5H]
   refine⟨c2,Φ2,f1.trans e1,?_,f3.trans e3,e4.trans f4,f5,?_,f7,by omega⟩
   ·rw[f2,a4s, ←e2]
   ·have hx:Rel c2 (.agg (a3y b gn cs).1) (.agg us.toArray) []:=by simpa using a0h.agg (e6.mono f4 (by simp)) (by simp) a0h.nil
    exact a0h.cons hx f6 (by simp)
  ·have himp:a5H b gn (a::as)=((a3y b gn [a]).1++(a5H (a3y b gn [a]).2.2 gn as).1,(a3y b gn [a]).2.1++(a5H (a3y b gn [a]).2.2 gn as).2.1,(a5H (a3y b gn [a]).2.2 gn as).2.2):=by
    cases a<;>first|rfl|exact absurd ⟨_,rfl⟩ hagg
   have hi1:c3R a=true:=by cases a<;>first|exact absurd ⟨_,rfl⟩ hagg|exact hi.1
   obtain⟨c1,Φ1,e1,e2,e3,e4,e5,e6,e7,e8⟩:=a8c [a] b gn hg hs' ha (by simpa [a0j]using hn.1) (by simpa using hi1) hdj
   obtain⟨c2,Φ2,f1,f2,f3,f4,f5,f6,f7,f8⟩:=a7N as (a3y b gn [a]).2.2 gn (c:=c1) e7 e5 (hr.mono e4 (fun y _=>by rw[e1])) hn.2 hi.2 (fun y hy=>hd y (by simp[hy]))
   rw[himp]
   refine⟨c2,Φ2,f1.trans e1,?_,f3.trans e3,e4.trans f4,f5,?_,f7,by simp only;omega⟩
   ·rw[f2,a4s, ←e2]
   ·exact a0h.append (e6.mono f4 (by simp)) f6 (by simp)
theorem c1J{r:AV}{v:Value}{F:List Nat}(hs:Sim w0 A0 F0 c Φ F)(h:Rel c r v F)(hn:a0C r=true)(hi:a4a r=true)(b:Nat):
  ∃c' Φ',c'.w=c.w∧(c'.ro,c'.gn)=a8w c.ro c.gn (imp b c.gn r).2∧a1y c c'∧Sim w0 A0 F0 c' Φ' []∧Rel c' (imp b c.gn r).1 v []:=by
 by_cases htup: ∃cs,r= .tup cs
 ·obtain⟨cs,rfl⟩:=htup
  obtain⟨us,rfl,h1⟩:=Rel.tup_inv h
  obtain⟨c1,Φ1,e1,e2,e3,e4,e5,e6,_⟩:=a7N cs b c.gn (fun _ _=>rfl) (R:=[]) (by simpa using hs) h1 (by simpa [a0C]using hn) (by simpa [a4a]using hi) (by simp)
  refine⟨c1,Φ1,e1,e2,e4,e5,?_⟩
  simpa [imp]using a0h.tup e6 (by simp) a0h.nil
 ·have himp:imp b c.gn r=((a5H b c.gn [r]).1.headD .dead,(a5H b c.gn [r]).2.1):=by
   cases r<;>first|rfl|exact absurd ⟨_,rfl⟩ htup
  have hi':c2T r=true:=by cases r<;>first|exact absurd ⟨_,rfl⟩ htup|exact hi
  obtain⟨c1,Φ1,e1,e2,e3,e4,e5,e6,_⟩:=a7N [r] b c.gn (fun _ _=>rfl) (R:=[]) (by simpa using hs) h (by simpa [a0j]using hn) (by simpa using hi') (by simp)
  rw[himp]
  refine⟨c1,Φ1,e1,e2,e4,e5,?_⟩
  have hl:=e6.len
  cases hq:(a5H b c.gn [r]).1 with
  |nil=>rw[hq]at hl;simp at hl
  |cons x xs=>
   rw[hq]at e6 hl
   have:xs=[]:=List.eq_nil_of_length_eq_zero (by simpa using hl)
   subst this
   exact e6
end
section
variable{P:Program}{ti:Nat→Option TI}{w0:World}{A0:Nat→Prop}{F0:List Nat}{cS c c':Cx}{Φ:Nat→Nat→List Nat}{R:List Nat}{st:St}{ρ:Operand→Value}{o:Oper}{e:Eff}{b:Nat}{C:Cfg}
theorem b8Z(T:TOK P ti)(hs:Sim w0 A0 F0 c Φ [])(hro:c.ro=st.ro)(hgn:c.gn=st.gn)(hev: ∀x,Rel c (st.ev x) (ρ x) [])(h:opC ti b st.ro st.gn st.ev o.op=some e):a1w P w0 A0 F0 c st ρ o e:=by
 cases hop:o.op
 case move x=>rw[hop]at h;simp only[opC,Option.some.injEq]at h;exact b3V hs hro hgn hev (.inl hop) h.symm
 case assign x=>rw[hop]at h;simp only[opC,Option.some.injEq]at h;exact b3V hs hro hgn hev (.inr hop) h.symm
 case pick=>rw[hop]at h;exact c0K hs hro hgn hev hop h
 case alloc=>rw[hop]at h;exact b6H T hs hro hgn hop h
 case box=>rw[hop]at h;exact c1M hs hro hgn hev hop h
 case build=>rw[hop]at h;exact b8g T hs hro hgn hev hop h
 case buildSlice=>rw[hop]at h;exact a7V T hs hro hgn hev hop h
 case load=>rw[hop]at h;exact c1j T hs hro hgn hev hop h
 case store=>rw[hop]at h;exact b8d T hs hro hgn hev hop h
 case binOp=>rw[hop]at h;exact c1Y T hs hro hgn hev hop h
 case unOp=>rw[hop]at h;exact c4i hs hro hgn hev hop h
 case convert=>rw[hop]at h;exact b9N T hs hro hgn hev hop h
 case makeFunc=>rw[hop]at h;exact b0g hs hro hgn hev hop h
 case makeSlice=>rw[hop]at h;exact a8S T hs hro hgn hev hop h
 case slice=>rw[hop]at h;exact b6Y T hs hro hgn hev hop h
 case nilCheck=>rw[hop]at h;exact a9L hs hro hgn hev hop h
 case fieldAddr=>rw[hop]at h;exact a8P T hs hro hgn hev hop h
 case field=>rw[hop]at h;exact b7s T hs hro hgn hev hop h
 case indexAddr=>rw[hop]at h;exact a9d T hs hro hgn hev hop h
 case index=>rw[hop]at h;exact b8i T hs hro hgn hev hop h
 case extract=>rw[hop]at h;exact b2w hs hro hgn hev hop h
 case call cl=>
  rw[hop]at h
  simp only[opC]at h
  split at h
  ·rename_i x t hc ha ht
   cases hi:ti t with
   |none=>simp[hi]at h
   |some inf=>
    simp only[hi]at h
    exact c2n T hs hro hgn hev hop hc ha ht hi h
  ·rename_i x y t t' hc ha ht
   split at h
   ·rename_i hcnd
    obtain⟨rfl,hel⟩:=hcnd
    cases hi:ti t with
    |none=>simp[hi]at hel
    |some inf=>
     simp only[hi,Option.bind_some]at hel
     obtain⟨elt,hel⟩:=Option.isSome_iff_exists.1 hel
     cases hsrc:zeu st.ro (st.ev y)with
     |none=>simp[hsrc]at h
     |some q=>
      obtain⟨el,ws⟩:=q
      simp only[hsrc]at h
      split at h
      ·rename_i hx
       exact a8u T hs hro hgn hev hop hc ha ht hi hel hsrc hx h
      ·rename_i s g off n hx
       split at h
       ·rename_i cs hR9
        split at h
        ·rename_i hle
         simp only[Option.some.injEq]at h
         exact a7K T hs hro hgn hev hop hc ha ht hi hel hsrc hx hR9 hle h.symm
        ·cases h
       ·cases h
      ·cases h
   ·unfold b6X at h
    split at h
    ·rename_i inf inf' hi hi'
     split at h
     ·rename_i ie hie
      obtain⟨elt,hel,hie⟩:=Option.bind_eq_some_iff.1 hie
      split at h
      ·rename_i m s g off n hy hx
       split at h
       ·rename_i cs hR9
        split at h
        ·rename_i hcd
         obtain⟨k1,k2,k3,k4⟩:=hcd
         obtain⟨q,rfl⟩:=Int.eq_ofNat_of_zero_le (show 0≤m by omega)
         simp only[Option.some.injEq]at h
         exact a8g T hs hro hgn hev hop hc ha ht hi hel hi' k1 hie k4 (m:=q) (by omega) hy hx hR9 (by simpa using k3) (by rw[←h];simp)
        ·cases h
       ·cases h
      ·cases h
     ·cases h
    ·cases h
  ·rename_i x y hc ha
   exact c3r hs hro hgn hev hop hc ha h
  ·rename_i x y z hc ha
   exact c0S hs hro hgn hev hop hc ha h
  ·rename_i x y hc ha
   exact c2s hs hro hgn hev hop hc ha h
  ·rename_i x t hc ha ht
   exact b7A (b:=b) T hs hro hgn hev hop hc ha ht (by simp only[opC,hc,ha,ht];exact h)
  ·rename_i x y t t' hc ha ht
   exact b9t (b:=b) T hs hro hgn hev hop hc ha ht (by simp only[opC,hc,ha,ht];exact h)
  ·cases h
 all_goals (rw[hop]at h;simp[opC]at h)
def b2h(w0:World)(A0:Nat→Prop)(F0:List Nat)(c:Cx)(st:St)(e:Eff):Ending→World→Prop:=fun en w'=>
 ∃v c' Φ',en= .returned v∧c'.w=w'∧c'.ro=(st.eff e).ro∧c'.gn=(st.eff e).gn∧Sim w0 A0 F0 c' Φ' []∧a1y c c'∧Rel c' e.v v []
theorem c0s(hs:Sim w0 A0 F0 c Φ [])(hro:c.ro=st.ro)(hgn:c.gn=st.gn){f:Nat}{as:List AV}{vs:List Value}(hv:a0h c as vs [])(h:b2H C b st f as e):
  b5b C.P f∧Calls C.P f vs.toArray c.w (b2h w0 A0 F0 c st e):=by
 have hend: ∀(r:AV) (v:Value) (w':World) (A':Nat→Prop) (F':List Nat),Rel (cx0 w' A') r v F'→a0C r=true→a4a r=true→Blw c.w w' []→(∀x,x∈F'→c.w.heap.size≤x)→
   ((∀x,c.A x→A' x)∧(∀x,x∈F'→A' x)∨noI r=true)→e=⟨(imp b st.gn r).1,none,[],(imp b st.gn r).2⟩→b2h w0 A0 F0 c st e (.returned v) w':=by
  intro r v w' A' F' hr hn hi hb hF hA he
  subst he
  obtain⟨c1,e1,e2,e3,e4,e5,e6,e7⟩:=hs.wchg w' F' hb.os hb.tape hb.output hb.size (fun k hk _=>hb.block k hk (by simp)) (fun x hx=> .inr ⟨hF x hx,hr.lt x hx⟩)
  have hr1:Rel c1 r v F':=by
   rcases hA with⟨h1,h2⟩|h1
   ·exact hr.ctx e1 (fun x hx=>by
     rcases(e5 x).1 hx with hx|hx
     ·exact h1 x hx
     ·exact h2 x hx) (by simp[a0j,hn])
   ·exact hr.ctxI e1 (by simp[a2R,h1])
  obtain⟨c2,Φ2,f1,f2,f3,f4,f5⟩:=c1J e7 hr1 hn hi b
  have hal:=St.al_eq (imp b st.gn r).2 st
  have hg1:c1.gn=st.gn:=e3.trans hgn
  rw[hg1]at f2 f5
  rw[e2,hro]at f2
  have h1:=congrArg Prod.fst f2
  have h2:=congrArg Prod.snd f2
  refine⟨v,c2,Φ2,rfl,f1.trans e1,?_,?_,f4,e6.trans f3,f5⟩
  ·exact h1.trans hal.1.symm
  ·exact h2.trans hal.2.1.symm
 unfold b2H at h
 split at h
 ·rename_i hp
  obtain⟨r,⟨hE,hn,hC⟩,hi,he⟩:=h
  have hA9:a0h (cx0 c.w c.A) as vs []:=hv.ctx rfl (fun _ h=>h) (a1C as hp)
  refine⟨hE,(hC c.w c.A vs hA9 hs.al hs.gdc).mono ?_⟩
  rintro en w' ⟨v,A',F',rfl,h1,h2,h3,h4⟩
  exact hend r v w' A' F' h1 hn hi h4 (fun x hx=>(h3 x hx).2) (.inl ⟨h2,fun x hx=>(h3 x hx).1⟩) he
 ·obtain⟨r,⟨hE,hn,hC⟩,hi,hI,he⟩:=h
  have hA9:a0h (cx0 c.w (fun _=>False)) (as.map (ex st.ro 8)) vs []:=by rw[←hro];exact(b9C hs 8).2 hv
  refine⟨hE,(hC c.w _ vs hA9 (fun _ h=>h.elim) hs.gdc).mono ?_⟩
  rintro en w' ⟨v,A',F',rfl,h1,h2,h3,h4⟩
  exact hend r v w' A' F' h1 hn hi h4 (fun x hx=>(h3 x hx).2) (.inr hI) he
def DfO(m1 m2:Nat)(c:Cx):List Deferred→Prop
 | []=>True
 |d::ds=>(∃D,d={target:= .collected D,args:= #[]}∧m1≤D∧m2≤D∧D<c.w.heap.size∧ ¬c.A D∧c.w.heap[D]?=some (.deferred (some []))∧ ∀e,e∈ds→e.target≠ .collected D)∧DfO m1 m2 c ds
theorem DfO.mono{m1 m2:Nat}{c c':Cx}(k:a1y c c'): ∀ {ds:List Deferred},DfO m1 m2 c ds→DfO m1 m2 c' ds
 | [],_=>trivial
 |d::ds,⟨⟨D,h1,h2,h3,h4,h5,h6,h7⟩,h⟩=>⟨⟨D,h1,h2,h3,Nat.lt_of_lt_of_le h4 k.hsz,fun ha=>h5 (k.hA D h4 ha),(k.hI D h4 h5).trans h6,h7⟩,DfO.mono k h⟩
structure SR(w0:World)(A0:Nat→Prop)(F0:List Nat)(cS:Cx)(n:Nat)(st:St)(a:Act)(c:Cx)(Φ:Nat→Nat→List Nat):Prop where
 sim:Sim w0 A0 F0 c Φ []
 kp:a1y cS c
 ro:c.ro=st.ro
 gn:c.gn=st.gn
 sl: ∀k,Rel c (st.sl k) (a.tmps.getD k undef) []
 df:DfO w0.heap.size cS.w.heap.size c a.defers
 sz:a.tmps.size=n
theorem b6q(v:Value):Rel c (zcs v) v []:=by
 by_cases h: ∃cs,v= .agg cs
 ·obtain⟨cs,rfl⟩:=h
  have:=a0h.agg (a3F c cs.toList) (by simp) a0h.nil
  simpa [zcs]using this
 ·have:zcs v= .sc v:=by cases v<;>first|rfl|exact absurd ⟨_,rfl⟩ h
  rw[this];exact .sc v .nil
theorem SR.ev{n:Nat}{a:Act}(h:SR w0 A0 F0 cS n st a c Φ)(x:Operand):Rel c (st.ev x) (a.eval x) []:=by
 cases x with
 |tmp t=>exact h.sl t
 |const v=>exact b6q v
 |global g=>exact .dead _ .nil
 |func f=>exact .fn f .nil .nil
theorem SR.put{n:Nat}{a:Act}{c':Cx}{Φ':Nat→Nat→List Nat}{st':St}(h:SR w0 A0 F0 cS n st a c Φ)(k:a1y c c')(hs:Sim w0 A0 F0 c' Φ' [])(hro:c'.ro=st'.ro)(hgn:c'.gn=st'.gn)(hsl:st'.sl=st.sl)
  {d:Option Tmp} (hd: ∀t,d=some t→t<n) {va:AV} {v:Value} (hv:Rel c' va v []):SR w0 A0 F0 cS n (st'.put d va) (a.put d v) c' Φ':=by
 cases d with
 |none=>
  refine⟨hs,h.kp.trans k,hro,hgn,fun j=>?_,h.df.mono k,h.sz⟩
  show Rel c' (st'.sl j) _ []
  rw[hsl]
  exact(h.sl j).mono k (by simp)
 |some t=>
  have ht:=hd t rfl
  refine⟨hs,h.kp.trans k,hro,hgn,fun j=>?_,h.df.mono k,by simp[Act.put,h.sz]⟩
  simp only[St.put,Act.put]
  by_cases e:j=t
  ·subst e
   rw[upd_same]
   have:(a.tmps.setIfInBounds j v).getD j undef=v:=by simp[Array.getD,h.sz,ht]
   rw[this];exact hv
  ·rw[b8O _ _ _ _ e,hsl]
   have:(a.tmps.setIfInBounds t v).getD j undef=a.tmps.getD j undef:=by
    simp only[Array.getD_eq_getD_getElem?,Array.getElem?_setIfInBounds_ne (fun h=>e h.symm)]
   rw[this]
   exact(h.sl j).mono k (by simp)
theorem a5g{n:Nat}{a:Act}(h:SR w0 A0 F0 cS n st a c Φ){ops:Array Oper}{t:Bool}(hw:zbl ops o st=some t):Region.wanted o (yielded ops a.tmps)=t:=by
 unfold zbl at hw
 unfold Region.wanted
 cases hg:o.guard with
 |none=>simp only[hg,Option.some.injEq]at hw ⊢;exact hw
 |some q=>
  obtain⟨j,x⟩:=q
  simp only[hg]at hw ⊢
  cases hj:(ops[j]?).bind (·.dst)with
  |none=>simp[hj]at hw
  |some d=>
   simp only[hj]at hw
   have hd:=h.sl d
   simp only[yielded,hj,Option.bind_some]
   rw[Array.getD_eq_getD_getElem?]at hd
   split at hw
   ·rename_i y hy
    rw[hy]at hd
    obtain⟨hd,_⟩:=Rel.sc_inv hd
    simp only[Option.some.injEq]at hw
    subst hw
    cases hq:a.tmps[d]? with
    |none=>rw[hq]at hd;cases hd
    |some z=>
     rw[hq]at hd
     simp only[Option.getD_some]at hd
     subst hd
     cases y<;>cases x<;>rfl
   ·rename_i v hnb hy
    rw[hy]at hd
    obtain⟨hd,_⟩:=Rel.sc_inv hd
    have hvt:t=false∧ ∀x,v≠ .bool x:=by
     cases v<;>simp at hw ⊢<;>first|exact hw|exact hw.symm
    obtain⟨rfl,hvn⟩:=hvt
    cases hq:a.tmps[d]? with
    |none=>cases x<;>rfl
    |some z=>
     rw[hq]at hd
     simp only[Option.getD_some]at hd
     subst hd
     cases z<;>first|(cases x<;>rfl)|exact absurd rfl (hvn _)
   ·cases hw
theorem a6v{f:Nat}(hE:b5b P f)(args:Array Value)(w:World):(callFunc f args).run P w= .ok (.enter f args) w:=by
 obtain⟨fn,h1,h2,h3⟩:=hE
 have h4:fn.body.isNone=false:=by cases hb:fn.body<;>simp_all
 unfold callFunc
 simp only[Sem.run_bind,run_program,Result.andThen_ok,h1]
 rw[if_neg (by rw[h3];simp),if_neg (by rw[h4];simp)]
 rfl
theorem a5n(T:TOK C.P C.ti){n rid i:Nat}{ops:Array Oper}{a:Act}{st':St}(h:SR w0 A0 F0 cS n st a c Φ)(hd: ∀t,o.dst=some t→t<n)(hstep:a6V C rid ops i o st st'){K:Act→World→Prop}{Q:Exit→Act→World→Prop}
  (hK: ∀a' c' Φ',SR w0 A0 F0 cS n st' a' c' Φ'→K a' c'.w):if Region.wanted o (yielded ops a.tmps)then o.wp C.P a c.w K Q else K (a.put o.dst undef) c.w:=by
 unfold a6V at hstep
 split at hstep
 ·rename_i hw
  rw[a5g h hw,if_pos rfl]
  obtain⟨e,he,rfl⟩:=hstep
  have hsl:(st.eff e).sl=st.sl:=(St.al_eq e.al _).2.2
  have hop: ∀e,a1w C.P w0 A0 F0 c st a.eval o e→(∀a' c' Φ',SR w0 A0 F0 cS n ((st.eff e).put o.dst e.v) a' c' Φ'→K a' c'.w)→o.wp C.P a c.w K Q:=by
   rintro e ⟨v,w',c',Φ',hrun,hw',h1,h2,h3,h4,h5⟩ hK
   have hsl':(st.eff e).sl=st.sl:=(St.al_eq e.al _).2.2
   unfold Oper.wp
   have hsr:=h.put h4 h3 h1 h2 hsl' hd h5
   rcases hrun with hrun|⟨rfl,hrun⟩
   ·rw[hrun,Oper.upon_value, ←hw'];exact hK _ _ _ hsr
   ·rw[hrun,Oper.upon_skip, ←hw'];exact hK _ _ _ hsr
  unfold opR at he
  split at he
  ·rename_i cl hcl
   split at he
   ·rename_i f hf
    split at he
    ·rename_i f' caps hfe
     have hfv:=h.ev f
     rw[hfe]at hfv
     obtain⟨us,hfv,hcaps⟩:=Rel.fn_inv hfv
     have hA9:a0h c (cl.args.toList.map st.ev++caps) (cl.args.toList.map a.eval++us) []:=a0h.append (a0h.of_map _ h.ev) hcaps (by simp)
     obtain⟨hE,hC⟩:=c0s h.sim h.ro h.gn hA9 he
     have hrun:(execOp a.eval o).run C.P c.w= .ok (.enter f' (cl.args.toList.map a.eval++us).toArray) c.w:=by
      have harr:cl.args.map a.eval++us.toArray=(cl.args.toList.map a.eval++us).toArray:=by apply Array.ext';simp
      simp only[execOp,hcl,resolve,hf,hfv,Deferred.ofValue,Sem.run_bind,Sem.run_pure,Result.andThen_ok,invoke]
      rw[Array.empty_append,harr]
      exact a6v hE _ _
     unfold Oper.wp
     rw[hrun,Oper.upon_enter]
     refine hC.mono ?_
     rintro en w' ⟨v,c',Φ',rfl,hw',h1,h2,h3,h4,h5⟩
     rw[←hw']
     exact hK _ _ _ (h.put h4 h3 h1 h2 hsl hd h5)
    ·exact he.elim
   ·exact hop e (b8Z T h.sim h.ro h.gn h.ev (by rw[hcl];exact he)) hK
  ·exact hop e (b8Z T h.sim h.ro h.gn h.ev he) hK
 ·rename_i hw
  rw[a5g h hw,if_neg (by simp)]
  subst hstep
  exact hK _ _ _ (h.put (a1y.refl c) h.sim h.ro h.gn rfl hd (.sc undef .nil))
 ·exact hstep.elim
def a9B(P:Program)(f:Nat)(args:List AV)(ro:Ro)(gn:Nat→Nat)(r:AV)(ro':Ro)(gn':Nat→Nat):Prop:=
 b5b P f∧ ∀(w0:World) (A0:Nat→Prop) (F0:List Nat) (c:Cx) (Φ:Nat→Nat→List Nat) (vs:List Value),Sim w0 A0 F0 c Φ []→c.ro=ro→c.gn=gn→a0h c args vs []→
  Calls P f vs.toArray c.w fun en w'=> ∃v c' Φ',en= .returned v∧c'.w=w'∧c'.ro=ro'∧c'.gn=gn'∧Sim w0 A0 F0 c' Φ' []∧a1y c c'∧Rel c' r v []
def InS(P:Program)(f:Nat)(args:List AV)(ro:Ro)(gn:Nat→Nat)(Po:AV→Ro→(Nat→Nat)→Prop):Prop:=
 b5b P f∧ ∀(w0:World) (A0:Nat→Prop) (F0:List Nat) (c:Cx) (Φ:Nat→Nat→List Nat) (vs:List Value),Sim w0 A0 F0 c Φ []→c.ro=ro→c.gn=gn→a0h c args vs []→
  Calls P f vs.toArray c.w fun en w'=> ∃v c' Φ' r,en= .returned v∧c'.w=w'∧Po r c'.ro c'.gn∧Sim w0 A0 F0 c' Φ' []∧a1y c c'∧Rel c' r v []
theorem a9B.toS{P:Program}{f:Nat}{args:List AV}{ro ro':Ro}{gn gn':Nat→Nat}{r:AV}(h:a9B P f args ro gn r ro' gn'):InS P f args ro gn (fun a b c=>a=r∧b=ro'∧c=gn'):=by
 refine⟨h.1,fun w0 A0 F0 c Φ vs h1 h2 h3 h4=>(h.2 w0 A0 F0 c Φ vs h1 h2 h3 h4).mono ?_⟩
 rintro en w' ⟨v,c',Φ',k1,k2,k3,k4,k5,k6,k7⟩
 exact⟨v,c',Φ',r,k1,k2,⟨rfl,k3,k4⟩,k5,k6,k7⟩
theorem InS.toOK{P:Program}{f:Nat}{args:List AV}{ro ro':Ro}{gn gn':Nat→Nat}{r:AV}(h:InS P f args ro gn (fun a b c=>a=r∧b=ro'∧c=gn')):a9B P f args ro gn r ro' gn':=by
 refine⟨h.1,fun w0 A0 F0 c Φ vs h1 h2 h3 h4=>(h.2 w0 A0 F0 c Φ vs h1 h2 h3 h4).mono ?_⟩
 rintro en w' ⟨v,c',Φ',r',k1,k2,⟨rfl,k3,k4⟩,k5,k6,k7⟩
 exact⟨v,c',Φ',k1,k2,k3,k4,k5,k6,k7⟩
def b5R(w0:World)(A0:Nat→Prop)(F0:List Nat)(cS:Cx)(n:Nat)(Q:Exit→St→Prop):Exit→Act→World→Prop:=fun e a w=> ∃st c Φ,c.w=w∧SR w0 A0 F0 cS n st a c Φ∧Q e st
def c3i(P:Program)(code:Code)(Q:Exit→St→Prop)(st:St):Prop:=
 ∀(w0:World) (A0:Nat→Prop) (F0:List Nat) (cS:Cx) (n:Nat) (a:Act) (c:Cx) (Φ:Nat→Nat→List Nat),SR w0 A0 F0 cS n st a c Φ→a1z n code=true→code.wp P (b5R w0 A0 F0 cS n Q) a c.w
def OpS(P:Program)(op:Op)(ev:Operand→AV)(ro:Ro)(gn:Nat→Nat)(Po:AV→Ro→(Nat→Nat)→Prop):Prop:=
 ∀(w0:World) (A0:Nat→Prop) (F0:List Nat) (c:Cx) (Φ:Nat→Nat→List Nat) (ρ:Operand→Value) (o:Oper),o.op=op→Sim w0 A0 F0 c Φ []→c.ro=ro→c.gn=gn→(∀x,Rel c (ev x) (ρ x) [])→
  ∃v w' c' Φ' r,((execOp ρ o).run P c.w= .ok (.value v) w'∨(v=undef∧(execOp ρ o).run P c.w= .ok .skip w'))∧c'.w=w'∧Po r c'.ro c'.gn∧Sim w0 A0 F0 c' Φ' []∧a1y c c'∧Rel c' r v []
def a4w(C:Cfg):Prop:=(∀f args ro gn Po,C.inl f args ro gn Po→InS C.P f args ro gn Po)∧(∀code Q st,C.rf code Q st→c3i C.P code Q st)∧ ∀op ev ro gn Po,C.xo op ev ro gn Po→OpS C.P op ev ro gn Po
theorem a4e(hI:a4w C){n:Nat}{a:Act}{Po:AV→Ro→(Nat→Nat)→Prop}(h:SR w0 A0 F0 cS n st a c Φ)(hd: ∀t,o.dst=some t→t<n)(hin:inRX C st o.op Po){K:Act→World→Prop}{Q:Exit→Act→World→Prop}
  (hK: ∀r ro' gn',Po r ro' gn'→ ∀a' c' Φ',SR w0 A0 F0 cS n ((⟨st.sl,ro',gn'⟩:St).put o.dst r) a' c' Φ'→K a' c'.w):o.wp C.P a c.w K Q:=by
 rcases hin with hin|hin
 rotate_left
 ·obtain⟨v,w',c',Φ',r,hrun,hw',hP,h3,h4,h5⟩:=hI.2.2 _ _ _ _ _ hin w0 A0 F0 c Φ a.eval o rfl h.sim h.ro h.gn h.ev
  have hsr:=h.put (st':=⟨st.sl,c'.ro,c'.gn⟩) h4 h3 rfl rfl rfl hd h5
  unfold Oper.wp
  rcases hrun with hrun|⟨rfl,hrun⟩
  ·rw[hrun,Oper.upon_value, ←hw'];exact hK r c'.ro c'.gn hP _ _ _ hsr
  ·rw[hrun,Oper.upon_skip, ←hw'];exact hK r c'.ro c'.gn hP _ _ _ hsr
 unfold inR at hin
 split at hin
 ·rename_i cl hcl
  split at hin
  ·rename_i f hf
   split at hin
   ·rename_i f' caps hfe
    have hfv:=h.ev f
    rw[hfe]at hfv
    obtain⟨us,hfv,hcaps⟩:=Rel.fn_inv hfv
    have hA9:a0h c (cl.args.toList.map st.ev++caps) (cl.args.toList.map a.eval++us) []:=a0h.append (a0h.of_map _ h.ev) hcaps (by simp)
    obtain⟨hE,hC⟩:=hI.1 _ _ _ _ _ hin
    have hC:=hC w0 A0 F0 c Φ _ h.sim h.ro h.gn hA9
    have hrun:(execOp a.eval o).run C.P c.w= .ok (.enter f' (cl.args.toList.map a.eval++us).toArray) c.w:=by
     have harr:cl.args.map a.eval++us.toArray=(cl.args.toList.map a.eval++us).toArray:=by apply Array.ext';simp
     simp only[execOp,hcl,resolve,hf,hfv,Deferred.ofValue,Sem.run_bind,Sem.run_pure,Result.andThen_ok,invoke]
     rw[Array.empty_append,harr]
     exact a6v hE _ _
    unfold Oper.wp
    rw[hrun,Oper.upon_enter]
    refine hC.mono ?_
    rintro en w' ⟨v,c',Φ',r,rfl,hw',hP,h3,h4,h5⟩
    rw[←hw']
    exact hK r c'.ro c'.gn hP _ _ _ (h.put (st':=⟨st.sl,c'.ro,c'.gn⟩) h4 h3 rfl rfl rfl hd h5)
   ·exact hin.elim
  ·exact hin.elim
 ·exact hin.elim
end
section
variable{w0:World}{A0:Nat→Prop}{F0:List Nat}{C:Cfg}{cS:Cx}{n:Nat}
def SRx(w0:World)(A0:Nat→Prop)(F0:List Nat)(cS:Cx)(n:Nat)(st:St)(a:Act)(w:World):Prop:= ∃c Φ,c.w=w∧SR w0 A0 F0 cS n st a c Φ
theorem a9W(T:TOK C.P C.ti)(hI:a4w C)(rid:Nat)(ops:Array Oper){K:Exit→Act→World→Prop}: ∀(l:List Oper) (i:Nat) {Q:St→Prop} {st:St} {a:Act} {c:Cx} {Φ:Nat→Nat→List Nat},SR w0 A0 F0 cS n st a c Φ→
  (∀o,o∈l→ ∀t,o.dst=some t→t<n)→a6T C rid ops l i Q st→(∀st' a' c' Φ',SR w0 A0 F0 cS n st' a' c' Φ'→Q st'→K .normal a' c'.w)→wpList C.P ops K l a c.w
 | [],i,Q,st,a,c,Φ,h,_,hq,hK=>hK _ _ _ _ h hq
 |o::rest,i,Q,st,a,c,Φ,h,hd,hq,hK=>by
  have main: ∀st',a6V C rid ops i o st st'→a6T C rid ops rest (i+1) Q st'→wpList C.P ops K (o::rest) a c.w:=by
   intro st' hs hrest
   have:=a5n (w0:=w0) (A0:=A0) (F0:=F0) T h (hd o (by simp)) hs (K:=wpList C.P ops K rest) (Q:=K) (fun a' c' Φ' h'=>a9W T hI rid ops rest (i+1) h' (fun o ho=>hd o (by simp[ho])) hrest hK)
   unfold wpList
   split
   ·rename_i hw;rw[if_pos hw]at this;exact .inl this
   ·rename_i hw;rw[if_neg hw]at this;exact this
  simp only[a6T]at hq
  cases hw:zbl ops o st with
  |none=>simp[hw]at hq
  |some t=>
   cases t
   ·simp only[hw]at hq;exact main _ (by unfold a6V;rw[hw]) hq
   ·simp only[hw]at hq
    rcases hq with⟨e,h1,h2⟩|⟨Po,h1,h2⟩
    ·exact main _ (by unfold a6V;rw[hw];exact⟨e,h1,rfl⟩) h2
    ·have:=a4e (w0:=w0) (A0:=A0) (F0:=F0) (o:=o) hI h (hd o (by simp)) h1 (K:=wpList C.P ops K rest) (Q:=K) (fun r ro' gn' hP a' c' Φ' h'=>a9W T hI rid ops rest (i+1) h' (fun o ho=>hd o (by simp[ho])) (h2 r ro' gn' hP) hK)
     unfold wpList
     rw[if_pos (a5g h hw)]
     exact .inl this
end
section
variable{ti:Nat→Option TI}{b:Nat}{ro ro':Ro}{gn gn':Nat→Nat}{ev ev':Operand→AV}{e:Eff}
theorem a0K{s g:Nat}{p:List Nat}(h:ro' s=ro s):ro'.cells s g p=ro.cells s g p:=by
 cases p<;>simp[Ro.cells,Ro.at,h]
theorem b8z{s g:Nat}{p:List Nat}(h:ro' s=ro s):ro'.at s g p=ro.at s g p:=by simp[Ro.at,h]
theorem a6i{a:AV}(h: ∀s,s∈zdy a→ro' s=ro s):zee ro' a=zee ro a:=by
 cases a<;>simp only[zee]
 case ref s g p off n=>rw[a0K (h s (by simp[zdy]))]
 case ptr s g p i=>rw[a0K (h s (by simp[zdy]))]
 case refk k s g n=>rw[a0K (h s (by simp[zdy]))]
theorem b0o{a:AV}(h: ∀s,s∈zdy a→ro' s=ro s):a1n ro' a=a1n ro a:=by
 cases a<;>simp only[a1n]
 case ref s g p off n=>rw[a0K (h s (by simp[zdy]))]
 case ptr s g p i=>rw[a0K (h s (by simp[zdy]))]
theorem a2d: ∀ {as:List AV},(∀s,s∈zdz as→ro' s=ro s)→as.all (a1n ro')=as.all (a1n ro)
 | [],_=>rfl
 |a::as,h=>by
  simp only[List.all_cons]
  rw[b0o (a:=a) (fun s hs=>h s (by simp[zdz,hs])),a2d (fun s hs=>h s (by simp[zdz,hs]))]
theorem a3R{a:AV}: ∀s,s∈zdz (zem a)→s∈zdy a:=by
 intro s hs
 cases a<;>simpa [zem,zdz,zdy]using hs
theorem b1E: ∀(l:List (Nat×Nat)) {ro ro':Ro} {s:Nat},ro' s=ro s→(ro'.dl l) s=(ro.dl l) s
 | [],_,_,_,h=>h
 |(x,g)::l,ro,ro',s,h=>b1E l (ro:=upr ro x g .dead) (ro':=upr ro' x g .dead) (by funext g';simp[upr,h])
theorem b8v: ∀(l:List (Nat×Nat)) {ro:Ro} {s:Nat},s∉l.map (·.1)→(ro.dl l) s=ro s
 | [],_,_,_=>rfl
 |(x,g)::l,ro,s,h=>by
  simp only[List.map_cons,List.mem_cons,not_or]at h
  show (Ro.dl (upr ro x g .dead) l) s=ro s
  rw[b8v l h.2]
  funext g'
  simp[upr,h.1]
theorem a7q{a:AV}(h: ∀s,s∈zdy a→ro' s=ro s):zes ro' a=zes ro a:=by
 cases a
 case ref s g p off n=>
  have:=h s (by simp[zdy])
  cases p with
  |nil=>cases off with
   |zero=>simp only[zes,this]
   |succ k=>rfl
  |cons i q=>cases off with
   |zero=>simp only[zes,Ro.cells,Ro.at,this]
   |succ k=>rfl
 all_goals rfl
theorem b3i{a:AV}(h: ∀s,s∈zdy a→ro' s=ro s):zhu ro' a=zhu ro a:=by
 unfold zhu
 split
 ·rename_i x
  exact a7q fun s hs=>h s (by simp[zdy,zdz,hs])
 ·exact a7q h
theorem a4Y: ∀(ps:List (Nat×Operand)) {ro ro':Ro},(∀p,p∈ps→ev' p.2=ev p.2)→(∀s,s∈ps.flatMap (fun p=>zdy (ev p.2))→ro' s=ro s)→zer ro' ev' ps=zer ro ev ps
 | [],_,_,_,_=>rfl
 |(i,x)::r,ro,ro',he,hr=>by
  simp only[zer]
  rw[he (i,x) (by simp),b3i (ro:=ro) (ro':=ro') (fun s hs=>hr s (by simp[hs]))]
  cases hm:zhu ro (ev x)with
  |none=>rfl
  |some q=>
   obtain⟨a,w⟩:=q
   simp only
   rw[a4Y r (ro:=ro.dl w) (ro':=ro'.dl w) (fun p hp=>he p (by simp[hp])) (fun s hs=>b1E w (hr s (by simp only[List.flatMap_cons,List.mem_append];exact .inr hs)))]
theorem a4n(flds:List (Nat×Nat)): ∀(ps:List (Nat×Operand)) (cs:List AV),(∀p,p∈ps→ev' p.2=ev p.2)→(∀s,s∈ps.flatMap (fun p=>zdy (ev p.2))→ro' s=ro s)→zfa ti ro' flds ev' cs ps=zfa ti ro flds ev cs ps
 | [],_,_,_=>rfl
 |(i,x)::r,cs,he,hr=>by
  simp only[zfa]
  rw[he (i,x) (by simp)]
  rw[a2d (ro:=ro) (ro':=ro') (as:=zem (ev x)) (fun s hs=>hr s (by simp[a3R s hs]))]
  cases flds[i]? with
  |none=>rfl
  |some q=>
   simp only
   cases ti q.2 with
   |none=>rfl
   |some inf=>
    simp only
    rw[a4n flds r _ (fun p hp=>he p (by simp[hp])) (fun s hs=>hr s (by simp only[List.flatMap_cons,List.mem_append];exact .inr hs))]
theorem a9e{k:Nat}: ∀(ps:List (Nat×Operand)) {j:Nat},(∀p,p∈ps→ev' p.2=ev p.2)→a6x k ev' j ps=a6x k ev j ps
 | [],_,_=>rfl
 |(i,x)::r,j,he=>by
  simp only[a6x]
  rw[he (i,x) (by simp),a9e r fun p hp=>he p (by simp[hp])]
theorem b7T{ti:Nat→Option TI}{t t':Nat}{gn gn':Nat→Nat}{x y:AV}{e:Eff}(hx: ∀s g p off n,x= .ref s g p off n→ro' s=ro s)(hw: ∀s,s∈e.sites→ro' s=ro s∧gn' s=gn s)(h:b6X ti t t' ro gn x y=some e):b6X ti t t' ro' gn' x y=some e:=by
 unfold b6X at h ⊢
 split at h
 ·split at h
  ·split at h
   ·rename_i s g off n
    have h5:=hx s g [] off n rfl
    rw[h5]
    split at h
    ·split at h
     ·rename_i hcd
      simp only[if_pos hcd]
      simp only[Option.some.injEq]at h ⊢
      have:=(hw s (by rw[←h];simp[Eff.sites])).2
      rw[this];exact h
     ·cases h
    ·cases h
   ·cases h
  ·cases h
 ·cases h
theorem a7f{a:AV}(h: ∀s,s∈zdy a→ro' s=ro s):zeu ro' a=zeu ro a:=by
 cases a
 case ref s g p off n=>
  have e0:=h s (by simp[zdy])
  have e1:ro'.cells s g p=ro.cells s g p:=a0K e0
  have e2:a1L ro' s g p=a1L ro s g p:=by simp only[a1L,b8z e0]
  simp only[zeu,e1,e2]
 all_goals rfl
theorem b0z{op:Op}(h:opC ti b ro gn ev op=some e)(he: ∀x,x∈op.operands→ev' x=ev x)(hr: ∀r,rdS ev op=some r→ ∀s,s∈r→ro' s=ro s)(hw: ∀s,s∈e.sites→ro' s=ro s∧gn' s=gn s)
  (hcall: ∀c f,op= .call c→c.callee≠ .value f):opC ti b ro' gn' ev' op=some e:=by
 cases op
 case move x=>have:=he x (by simp[Op.operands]);simp only[opC,this]at h ⊢;exact h
 case assign x=>have:=he x (by simp[Op.operands]);simp only[opC,this]at h ⊢;exact h
 case pick c x y=>
  have h1:=he c (by simp[Op.operands]);have h2:=he x (by simp[Op.operands]);have h3:=he y (by simp[Op.operands])
  simp only[opC,h1,h2,h3]at h ⊢;exact h
 case unOp op t x=>have:=he x (by simp[Op.operands]);simp only[opC,this]at h ⊢;exact h
 case convert s d x=>
  have hx:=he x (by simp[Op.operands])
  have hl:=hr (zdy (ev x)) (by simp only[rdS])
  simp only[opC,hx]at h ⊢
  split at h
  ·exact h
  ·rename_i i j s' g p off n hi hj hxe
   rw[hxe]at hl
   have:ro'.cells s' g p=ro.cells s' g p:=a0K (hl s' (by simp[zdy]))
   unfold b5E at h ⊢
   rw[this]
   exact h
  ·cases h
 case field t x f=>have:=he x (by simp[Op.operands]);simp only[opC,this]at h ⊢;exact h
 case index t x y=>
  have h1:=he x (by simp[Op.operands]);have h2:=he y (by simp[Op.operands])
  simp only[opC,h1,h2]at h ⊢;exact h
 case extract x i=>have:=he x (by simp[Op.operands]);simp only[opC,this]at h ⊢;exact h
 case makeFunc fn first caps=>
  have h1:caps.toList.map ev'=caps.toList.map ev:=List.map_congr_left fun x hx=>he x (by simp[Op.operands];exact .inr (by simpa using hx))
  cases fn<;>simp only[opC,h1]at h ⊢<;>exact h
 case binOp op t x y t'=>
  have h1:=he x (by simp[Op.operands]);have h2:=he y (by simp[Op.operands])
  have h3:=a6i (ro:=ro) (ro':=ro') (a:=ev x) (hr _ rfl)
  simp only[opC,h1,h2,h3]at h ⊢;exact h
 case nilCheck x=>
  have h1:=he x (by simp[Op.operands])
  have h3:=a6i (ro:=ro) (ro':=ro') (a:=ev x) (hr _ rfl)
  simp only[opC,h1,h3]at h ⊢;exact h
 case fieldAddr t x f=>
  have h1:=he x (by simp[Op.operands])
  have h3:=a6i (ro:=ro) (ro':=ro') (a:=ev x) (hr _ rfl)
  simp only[opC,h1,h3]at h ⊢;exact h
 case indexAddr t x y=>
  have h1:=he x (by simp[Op.operands]);have h2:=he y (by simp[Op.operands])
  have h3:=hr _ rfl
  simp only[opC,h1,h2]at h ⊢
  cases hx:ev x<;>simp only[hx]at h h3 ⊢<;>try exact h
  case ref s g p off n=>rw[a0K (h3 s (by simp[zdy]))];exact h
  case ptr s g p i=>rw[a0K (h3 s (by simp[zdy]))];exact h
  case refk k s g n=>rw[a0K (h3 s (by simp[zdy]))];exact h
 case load t x=>
  have h1:=he x (by simp[Op.operands])
  have h3:=hr _ rfl
  simp only[opC,h1]at h ⊢
  cases hx:ev x<;>simp only[hx]at h h3 ⊢<;>try exact h
  rename_i s g p i
  rw[a0K (h3 s (by simp[zdy]))];exact h
 case store t x y=>
  have h1:=he x (by simp[Op.operands]);have h2:=he y (by simp[Op.operands])
  have h3:=hr _ rfl
  have h4:=a2d (ro:=ro) (ro':=ro') (as:=zem (ev y)) (fun s hs=>h3 s (by simp[a3R s hs]))
  simp only[opC,h1,h2]at h ⊢
  cases hx:ev x<;>simp only[hx]at h h3 ⊢<;>try exact h
  rename_i s g p i
  have h5:ro' s=ro s:=h3 s (by simp[zdy])
  rw[a0K h5]
  have h6:a1L ro' s g p=a1L ro s g p:=by simp only[a1L,b8z h5]
  rw[h6]
  cases hb:a1L ro s g p
  ·simp only[hb]at h ⊢;exact h
  ·simp only[hb,if_true,h4]at h ⊢;exact h
 case alloc t=>
  simp only[opC]at h ⊢
  cases hi:ti t with
  |none=>simp[hi]at h
  |some inf=>
   simp only[hi,Option.some.injEq]at h ⊢
   have:=(hw b (by rw[←h];simp[Eff.sites])).2
   rw[this];exact h
 case box t x=>
  have h1:=he x (by simp[Op.operands])
  have h3:=hr _ rfl
  have h4:=a2d (ro:=ro) (ro':=ro') (as:=zem (ev x)) (fun s hs=>h3 s (a3R s hs))
  simp only[opC,h1,h4]at h ⊢
  split at h
  ·rename_i hc
   rw[if_pos hc]
   split at h
   ·rename_i hc2
    rw[if_pos hc2]
    simp only[Option.some.injEq]at h ⊢
    have:=(hw b (by rw[←h];simp[Eff.sites])).2
    rw[this];exact h
   ·cases h
  ·cases h
 case build t ps=>
  have h1: ∀p,p∈ps.toList→ev' p.2=ev p.2:=fun p hp=>he p.2 (by simp only[Op.operands,List.mem_toArray];exact List.mem_map_of_mem hp)
  have h3:=hr _ rfl
  simp only[opC]at h ⊢
  cases hi:ti t with
  |none=>simp[hi]at h
  |some inf=>
   simp only[hi]at h ⊢
   rw[a4n (ro:=ro) (ev:=ev) _ ps.toList _ h1 h3];exact h
 case buildSlice t n ps=>
  have h1: ∀p,p∈ps.toList→ev' p.2=ev p.2:=fun p hp=>he p.2 (by simp only[Op.operands,List.mem_toArray];exact List.mem_map_of_mem hp)
  have h3:=hr _ rfl
  simp only[opC]at h ⊢
  rw[a4Y (ro:=ro) (ev:=ev) ps.toList h1 h3]
  cases hi:ti t with
  |none=>simp[hi]at h
  |some inf=>
   simp only[hi]at h ⊢
   cases hel:inf.elem with
   |none=>
    simp only[hel]at h ⊢
    cases hek:inf.elk with
    |none=>simp[hek]at h
    |some q=>
     simp only[hek]at h ⊢
     rw[a9e (ev:=ev) ps.toList h1]
     split at h
     ·split at h
      ·rename_i hc
       rw[if_pos hc]
       simp only[Option.some.injEq]at h ⊢
       have:=(hw b (by rw[←h];simp[Eff.sites])).2
       rw[this];exact h
      ·cases h
     ·cases h
   |some el=>
    simp only[hel]at h ⊢
    cases hie:ti el with
    |none=>simp[hie]at h
    |some ie=>
     simp only[hie]at h ⊢
     cases hm:zer ro ev ps.toList with
     |none=>simp[hm]at h
     |some q=>
      simp only[hm]at h ⊢
      split at h
      ·rename_i hc
       rw[if_pos hc]
       simp only[Option.some.injEq]at h ⊢
       have:=(hw b (by rw[←h];simp[Eff.sites])).2
       rw[this];exact h
      ·cases h
 case makeSlice t x y=>
  have h1:=he x (by simp[Op.operands]);have h2:=he y (by simp[Op.operands])
  simp only[opC,h1,h2]at h ⊢
  cases hi:ti t with
  |none=>simp[hi]at h
  |some inf=>
   simp only[hi]at h ⊢
   cases hel:inf.elem with
   |none=>simp[hel]at h
   |some el=>
    simp only[hel]at h ⊢
    split at h
    ·rename_i ie n m q1 q2 q3
     split at h
     ·rename_i hc
      rw[if_pos hc]
      simp only[Option.some.injEq]at h ⊢
      have:=(hw b (by rw[←h];simp[Eff.sites])).2
      rw[this];exact h
     ·cases h
    ·cases h
 case slice t x lo hi mx=>
  cases mx with
  |some y=>simp[opC]at h
  |none=>
   have h1:=he x (by simp[Op.operands])
   have h4:=hr _ rfl
   have hc: ∀s g p off n,ev x= .ref s g p off n→ro'.cells s g p=ro.cells s g p:=fun s g p off n hx=>a0K (h4 s (by simp[hx,zdy]))
   have hlo: ∀y,lo=some y→ev' y=ev y:=fun y hy=>he y (by simp[Op.operands,hy])
   have hhi: ∀y,hi=some y→ev' y=ev y:=fun y hy=>he y (by simp[Op.operands,hy])
   cases lo with
   |none=>
    cases hi with
    |none=>
     simp only[opC,h1]at h ⊢
     cases hx:ev x<;>simp only[hx]at h ⊢<;>first|exact h|(rw[hc _ _ _ _ _ hx];exact h)|(rename_i v;cases v<;>exact h)
    |some z=>
     have e2:=hhi z rfl
     simp only[opC,h1,e2]at h ⊢
     cases hx:ev x<;>simp only[hx]at h ⊢<;>first|exact h|(rw[hc _ _ _ _ _ hx];exact h)|(rename_i v;cases v<;>exact h)
   |some y=>
    have e1:=hlo y rfl
    cases hi with
    |none=>
     simp only[opC,h1,e1]at h ⊢
     cases hx:ev x<;>simp only[hx]at h ⊢<;>first|exact h|(rw[hc _ _ _ _ _ hx];exact h)|(rename_i v;cases v<;>exact h)
    |some z=>
     have e2:=hhi z rfl
     simp only[opC,h1,e1,e2]at h ⊢
     cases hx:ev x<;>simp only[hx]at h ⊢<;>first|exact h|(rw[hc _ _ _ _ _ hx];exact h)|(rename_i v;cases v<;>exact h)
 case call c=>
  have hcv:=fun f=>hcall c f rfl
  simp only[opC]at h
  have hA9: ∀x,x∈c.args.toList→ev' x=ev x:=fun x hx=>he x (by simp only[Op.operands,Call.operands];exact Array.mem_append.2 (.inr (by simpa using hx)))
  have h4: ∀s,s∈c.args.toList.flatMap (fun x=>zdy (ev x))→ro' s=ro s:=by
   refine hr _ ?_
   cases hc:c.callee<;>first|exact absurd hc (hcv _)|simp[rdS,hc]
  split at h
  ·rename_i x t hc ha ht
   have h1:=hA9 x (by simp[ha])
   simp only[opC,hc,ha,ht,h1]
   cases hi:ti t with
   |none=>simp[hi]at h
   |some inf=>
    simp only[hi]at h ⊢
    have hc': ∀s g p off n,ev x= .ref s g p off n→ro'.cells s g p=ro.cells s g p:=fun s g p off n hx=>a0K (h4 s (by simp[ha,hx,zdy]))
    have hck: ∀k s g n,ev x= .refk k s g n→ro'.cells s g []=ro.cells s g []:=fun k s g n hx=>a0K (h4 s (by simp[ha,hx,zdy]))
    cases hx:ev x<;>simp only[hx]at h ⊢<;>first|exact h|(rw[hc' _ _ _ _ _ hx];exact h)|(rw[hck _ _ _ _ hx];exact h)|(rename_i v;cases v<;>first|exact h|(rename_i a n c;cases a<;>first|exact h|(cases n<;>first|exact h|(cases c<;>exact h))))
  ·rename_i x y t t' hc ha ht
   have h1:=hA9 x (by simp[ha])
   have h2:=hA9 y (by simp[ha])
   simp only[opC,hc,ha,ht,h1,h2]
   split at h
   ·rename_i hcnd
    rw[if_pos hcnd,a7f (ro:=ro) (fun s hs=>h4 s (by simp[ha,hs]))]
    cases hsrc:zeu ro (ev y)with
    |none=>simp[hsrc]at h
    |some q=>
     obtain⟨el,ws⟩:=q
     simp only[hsrc]at h ⊢
     split at h
     ·rename_i hx
      split at h
      ·rename_i h0;rw[if_pos h0];exact h
      ·rename_i h0
       rw[if_neg h0]
       split at h
       ·rename_i h5
        rw[if_pos h5]
        simp only[Option.some.injEq]at h ⊢
        have:=(hw b (by rw[←h];simp[Eff.sites])).2
        rw[this];exact h
       ·cases h
     ·rename_i s g off n hx
      have h5:ro' s=ro s:=h4 s (by simp[ha,hx,zdy])
      rw[b1E ws h5]
      split at h
      ·rename_i cs hR9
       split at h
       ·rename_i hle
        rw[if_pos hle]
        simp only[Option.some.injEq]at h ⊢
        have:=(hw s (by rw[←h];simp[Eff.sites])).2
        rw[this];exact h
       ·cases h
      ·cases h
     ·cases h
   ·rename_i hcnd
    rw[if_neg hcnd]
    exact b7T (fun s g p off n hx=>h4 s (by simp[ha,hx,zdy])) hw h
  ·rename_i x y hc ha
   have h1:=hA9 x (by simp[ha])
   have h2:=hA9 y (by simp[ha])
   simp only[opC,hc,ha,h1,h2];exact h
  ·rename_i x y z hc ha
   have h1:=hA9 x (by simp[ha])
   have h2:=hA9 y (by simp[ha])
   have h3:=hA9 z (by simp[ha])
   simp only[opC,hc,ha,h1,h2,h3];exact h
  ·rename_i x y hc ha
   have h1:=hA9 x (by simp[ha])
   have h2:=hA9 y (by simp[ha])
   simp only[opC,hc,ha,h1,h2];exact h
  ·rename_i x t hc ha ht
   have h1:=hA9 x (by simp[ha])
   simp only[opC,hc,ha,ht,h1]
   have hc': ∀s g p off n,ev x= .ref s g p off n→ro'.cells s g p=ro.cells s g p:=fun s g p off n hx=>a0K (h4 s (by simp[ha,hx,zdy]))
   cases hi:ti t with
   |none=>simp[hi]at h
   |some inf=>
    simp only[hi]at h ⊢
    cases hel:inf.elem with
    |none=>simp[hel]at h
    |some el=>
     simp only[hel]at h ⊢
     cases hie:ti el with
     |none=>simp[hie]at h
     |some ie=>
      simp only[hie]at h ⊢
      cases hx:ev x<;>simp only[hx]at h ⊢<;>first|exact h|(rw[hc' _ _ _ _ _ hx];exact h)|cases h
  ·rename_i x y t t' hc ha ht
   have h1:=hA9 x (by simp[ha])
   have h2:=hA9 y (by simp[ha])
   simp only[opC,hc,ha,ht,h1,h2]
   have hc': ∀s g p off n,ev x= .ref s g p off n→ro'.cells s g p=ro.cells s g p:=fun s g p off n hx=>a0K (h4 s (by simp[ha,hx,zdy]))
   rw[a7f (ro:=ro) (fun s hs=>h4 s (by simp[ha,hs]))]
   cases hx:ev x<;>simp only[hx]at h ⊢<;>first|exact h|(rw[hc' _ _ _ _ _ hx];exact h)
  ·cases h
 all_goals simp[opC]at h
theorem c2R{x:Wr}{ro:Ro}{s:Nat}(h:s≠x.s):(ro.wr x) s=ro s:=by
 unfold Ro.wr
 cases ro x.s x.g with
 |none=>rfl
 |some a=>funext g';simp[upr,h]
theorem c1N{x:Wr}{ro ro':Ro}{s:Nat}(h:ro' x.s=ro x.s)(hs:ro' s=ro s):(ro'.wr x) s=(ro.wr x) s:=by
 unfold Ro.wr
 rw[h]
 cases ro x.s x.g with
 |none=>exact hs
 |some a=>funext g';simp only[upr,hs]
theorem b2a: ∀(l:List (Nat×AV)) {ro:Ro} {gn:Nat→Nat} {s:Nat},s∉l.map (·.1)→(a8w ro gn l).1 s=ro s∧(a8w ro gn l).2 s=gn s
 | [],_,_,_,_=>⟨rfl,rfl⟩
 |(x,a)::l,ro,gn,s,h=>by
  simp only[List.map_cons,List.mem_cons,not_or]at h
  have:=b2a l (ro:=upr ro x (gn x+1) a) (gn:=upg gn x (gn x+1)) h.2
  refine⟨this.1.trans ?_,this.2.trans ?_⟩
  ·funext g';simp[upr,h.1]
  ·simp[upg,h.1]
theorem b1h: ∀(l:List (Nat×AV)) {ro ro':Ro} {gn gn':Nat→Nat} {s:Nat},(∀x,x∈l.map (·.1)→gn' x=gn x)→ro' s=ro s→gn' s=gn s→(a8w ro' gn' l).1 s=(a8w ro gn l).1 s∧(a8w ro' gn' l).2 s=(a8w ro gn l).2 s
 | [],_,_,_,_,_,_,h1,h2=>⟨h1,h2⟩
 |(x,a)::l,ro,ro',gn,gn',s,h,h1,h2=>by
  have hx:gn' x=gn x:=h x (by simp)
  refine b1h l (fun y hy=>?_) ?_ ?_
  ·simp only[upg,hx]
   split
   ·rfl
   ·exact h y (by simp only[List.map_cons,List.mem_cons];exact .inr hy)
  ·funext g';simp[upr,hx,h1]
  ·simp only[upg,hx,h2]
theorem a3e{st:St}{e:Eff}{s:Nat}(h:s∉e.sites):(st.eff e).ro s=st.ro s∧(st.eff e).gn s=st.gn s:=by
 simp only[Eff.sites,List.mem_append,not_or]at h
 obtain⟨⟨h1,h2⟩,h3⟩:=h
 have hal:=St.al_eq e.al {st with ro:=(st.ro.wrO e.wr).dl e.dl}
 have:=b2a e.al (ro:=(st.ro.wrO e.wr).dl e.dl) (gn:=st.gn) h3
 refine⟨?_,?_⟩
 ·show ((St.al _ e.al).ro) s=_
  rw[hal.1,this.1,b8v e.dl h2]
  cases hw:e.wr with
  |none=>rfl
  |some x=>rw[hw]at h1;exact c2R (by simpa using h1)
 ·show ((St.al _ e.al).gn) s=_
  rw[hal.2.1,this.2]
theorem b0Q{st st':St}{e:Eff}(h: ∀s,s∈e.sites→st'.ro s=st.ro s∧st'.gn s=st.gn s){s:Nat}(hs:s∈e.sites):(st'.eff e).ro s=(st.eff e).ro s∧(st'.eff e).gn s=(st.eff e).gn s:=by
 have hal:=St.al_eq e.al {st with ro:=(st.ro.wrO e.wr).dl e.dl}
 have hal':=St.al_eq e.al {st' with ro:=(st'.ro.wrO e.wr).dl e.dl}
 have h1:((st'.ro.wrO e.wr).dl e.dl) s=((st.ro.wrO e.wr).dl e.dl) s:=by
  refine b1E e.dl ?_
  cases hw:e.wr with
  |none=>exact(h s hs).1
  |some x=>exact c1N (h x.s (by simp[Eff.sites,hw])).1 (h s hs).1
 have:=b1h e.al (ro:=(st.ro.wrO e.wr).dl e.dl) (ro':=(st'.ro.wrO e.wr).dl e.dl) (gn:=st.gn) (gn':=st'.gn) (s:=s) (fun x hx=>(h x (by simp only[Eff.sites,List.mem_append];exact .inr hx)).2) h1 (h s hs).2
 refine⟨?_,?_⟩
 ·show ((St.al _ e.al).ro) s=((St.al _ e.al).ro) s
  rw[hal.1,hal'.1];exact this.1
 ·show ((St.al _ e.al).gn) s=((St.al _ e.al).gn) s
  rw[hal.2.1,hal'.2.1];exact this.2
theorem b6Z{st:St}{e f:Eff}(h: ∀s,s∈e.sites→s∉f.sites):((st.eff e).eff f).ro=((st.eff f).eff e).ro∧((st.eff e).eff f).gn=((st.eff f).eff e).gn:=by
 have key: ∀s,((st.eff e).eff f).ro s=((st.eff f).eff e).ro s∧((st.eff e).eff f).gn s=((st.eff f).eff e).gn s:=by
  intro s
  by_cases he:s∈e.sites
  ·have hf:=h s he
   have h1:=a3e (st:=st.eff e) hf
   have h2:=b0Q (st:=st) (st':=st.eff f) (e:=e) (fun x hx=>a3e (h x hx)) he
   exact⟨h1.1.trans h2.1.symm,h1.2.trans h2.2.symm⟩
  ·by_cases hf:s∈f.sites
   ·have h1:=a3e (st:=st.eff f) he
    have h2:=b0Q (st:=st) (st':=st.eff e) (e:=f) (fun x hx=>a3e (fun hxe=>h x hxe hx)) hf
    exact⟨h2.1.trans h1.1.symm,h2.2.trans h1.2.symm⟩
   ·have h1:=a3e (st:=st.eff e) hf
    have h2:=a3e (st:=st) he
    have h3:=a3e (st:=st.eff f) he
    have h4:=a3e (st:=st) hf
    exact⟨h1.1.trans (h2.1.trans (h4.1.symm.trans h3.1.symm)),h1.2.trans (h2.2.trans (h4.2.symm.trans h3.2.symm))⟩
 exact⟨funext fun s=>(key s).1,funext fun s=>(key s).2⟩
end
section
variable{C:Cfg}{rid:Nat}{ops:Array Oper}
theorem a5a: ∀(as:List AV) (b:Nat) {gn gn':Nat→Nat},(∀s,s∈(a3y b gn as).2.1.map (·.1)→gn' s=gn s)→a3y b gn' as=a3y b gn as
 | [],_,_,_,_=>rfl
 |a::as,b,gn,gn',h=>by
  cases a
  case row cs=>
   have h1:gn' b=gn b:=h b (by simp[a3y])
   have h2:=a5a as (b+1) (gn:=gn) (gn':=gn') (fun s hs=>h s (by simp only[a3y,List.map_cons,List.mem_cons];exact .inr hs))
   simp only[a3y,h1,h2]
  case bx cs=>
   have h1:gn' b=gn b:=h b (by simp[a3y])
   have h2:=a5a as (b+1) (gn:=gn) (gn':=gn') (fun s hs=>h s (by simp only[a3y,List.map_cons,List.mem_cons];exact .inr hs))
   simp only[a3y,h1,h2]
  all_goals
   have h2:=a5a as b (gn:=gn) (gn':=gn') (fun s hs=>h s (by simpa only[a3y]using hs))
   simp only[a3y,h2]
theorem a5Q: ∀(as:List AV) (b:Nat) {gn gn':Nat→Nat},(∀s,s∈(a5H b gn as).2.1.map (·.1)→gn' s=gn s)→a5H b gn' as=a5H b gn as
 | [],_,_,_,_=>rfl
 |a::as,b,gn,gn',h=>by
  cases a
  case agg cs=>
   have h1:=a5a cs b (gn:=gn) (gn':=gn') (fun s hs=>h s (by simp only[a5H,List.map_append,List.mem_append];exact .inl hs))
   have h2:=a5Q as (a3y b gn cs).2.2 (gn:=gn) (gn':=gn') (fun s hs=>h s (by simp only[a5H,List.map_append,List.mem_append];exact .inr hs))
   simp only[a5H,h1,h2]
  all_goals
   have h1:=a5a [_] b (gn:=gn) (gn':=gn') (fun s hs=>h s (by simp only[a5H,List.map_append,List.mem_append];exact .inl hs))
   have h2:=a5Q as _ (gn:=gn) (gn':=gn') (fun s hs=>h s (by simp only[a5H,List.map_append,List.mem_append];exact .inr hs))
   simp only[a5H,h1,h2]
theorem b3Z(r:AV)(b:Nat){gn gn':Nat→Nat}(h: ∀s,s∈(imp b gn r).2.map (·.1)→gn' s=gn s):imp b gn' r=imp b gn r:=by
 cases r
 case tup cs=>simp only[imp]at h ⊢;rw[a5Q cs b h]
 all_goals (simp only[imp]at h ⊢;rw[a5Q _ b h])
theorem a5w: ∀ {cs:List AV},a0j cs=true→ ∀c,c∈cs→a0C c=true
 | [],_,c,h=>by cases h
 |a::as,h,c,hc=>by
  simp only[a0j,Bool.and_eq_true]at h
  rcases List.mem_cons.1 hc with rfl|hc
  ·exact h.1
  ·exact a5w h.2 c hc
theorem b1x(ro ro':Ro): ∀(n:Nat) (a:AV),a0C a=true→ex ro' n a=ex ro n a
 |0,_,_=>rfl
 |n+1,a,h=>by
  have hm: ∀cs:List AV,a0j cs=true→cs.map (ex ro' n)=cs.map (ex ro n):=fun cs hcs=>List.map_congr_left fun c hc=>b1x ro ro' n c (a5w hcs c hc)
  cases a<;>simp only[a0C]at h<;>first|(simp only[ex];done)|(cases h;done)|(simp only[ex];rw[hm _ h])
theorem b9o(ro ro':Ro): ∀(n:Nat) (a:AV),shA ro a=true→(∀s,s∈zdy a→ro' s=ro s)→ex ro' n a=ex ro n a
 |0,_,_,_=>rfl
 |n+1,a,h,hs=>by
  have hm: ∀cs:List AV,a0j cs=true→cs.map (ex ro' n)=cs.map (ex ro n):=fun cs hcs=>List.map_congr_left fun c hc=>b1x ro ro' n c (a5w hcs c hc)
  have hl: ∀cs:List AV,shL ro cs=true→(∀s,s∈zdz cs→ro' s=ro s)→cs.map (ex ro' n)=cs.map (ex ro n):=by
   intro cs
   induction cs with
   |nil=>intro _ _;rfl
   |cons c cs ih=>
    intro h hs
    simp only[shL,Bool.and_eq_true]at h
    rw[List.map_cons,List.map_cons,b9o ro ro' n c h.1 (fun s hs'=>hs s (by simp[zdz,hs'])),ih h.2 (fun s hs'=>hs s (by simp[zdz,hs']))]
  have hd: ∀(cs:List AV) (k:Nat),a0j cs=true→a0j (cs.drop k)=true:=by
   intro cs
   induction cs with
   |nil=>intro k _;simp[a0j]
   |cons c cs ih=>
    intro k h
    cases k with
    |zero=>exact h
    |succ k=>simp only[a0j,Bool.and_eq_true]at h;exact ih k h.2
  have ht: ∀(cs:List AV) (k:Nat),a0j cs=true→a0j (cs.take k)=true:=by
   intro cs
   induction cs with
   |nil=>intro k _;simp[a0j]
   |cons c cs ih=>
    intro k h
    cases k with
    |zero=>rfl
    |succ k=>simp only[a0j,Bool.and_eq_true]at h;simp only[List.take_succ_cons,a0j,h.1,ih k h.2,Bool.and_self]
  cases a<;>simp only[shA]at h
  case sc=>rfl
  case dead=>rfl
  case imm cs=>simp only[ex];rw[hm _ h]
  case iptr cs=>simp only[ex];rw[hm _ h]
  case row cs=>simp only[ex];rw[hm _ h]
  case bx cs=>simp only[ex];rw[hm _ h]
  case agg cs=>simp only[ex];rw[hl _ h (by simpa [zdy]using hs)]
  case tup cs=>simp only[ex];rw[hl _ h (by simpa [zdy]using hs)]
  case fn f cs=>simp only[ex];rw[hl _ h (by simpa [zdy]using hs)]
  case immk k m cs=>simp only[ex];rw[hm _ h]
  case mp r es=>rfl
  case refk k s g m=>
   simp only[ex]
   rw[a0K (hs s (by simp[zdy]))]
   cases hc:ro.cells s g []with
   |none=>rfl
   |some cs=>
    simp only[hc]at h
    simp only
    rw[hm _ (ht _ _ h)]
  case ref s g p off k=>
   simp only[ex]
   rw[a0K (hs s (by simp[zdy]))]
   cases hc:ro.cells s g p with
   |none=>rfl
   |some cs=>
    simp only[hc]at h
    simp only
    rw[hm _ (ht _ k (hd _ off h))]
  case ptr s g p i=>
   simp only[ex]
   rw[a0K (hs s (by simp[zdy]))]
   cases hc:ro.cells s g p with
   |none=>rfl
   |some cs=>
    simp only[hc]at h
    simp only
    rw[hm _ (hd _ i h)]
theorem b8K(ro ro':Ro)(n:Nat): ∀ {cs:List AV},shL ro cs=true→(∀s,s∈zdz cs→ro' s=ro s)→cs.map (ex ro' n)=cs.map (ex ro n)
 | [],_,_=>rfl
 |c::cs,h,hs=>by
  simp only[shL,Bool.and_eq_true]at h
  rw[List.map_cons,List.map_cons,b9o ro ro' n c h.1 (fun s hs'=>hs s (by simp[zdz,hs'])),b8K ro ro' n h.2 (fun s hs'=>hs s (by simp[zdz,hs']))]
theorem a1p{ro:Ro}{ev:Operand→AV}{op:Op}{r:List Nat}(h:rdS ev op=some r):rdR ro ev op=some r:=by simp only[rdR,h]
mutual
theorem c1m{ro ro':Ro}: ∀(a:AV),(∀s,s∈zdy a→ro' s=ro s)→shA ro' a=shA ro a
 | .ref s g p off k,h=>by simp only[shA,a0K (h s (by simp[zdy]))]
 | .ptr s g p i,h=>by simp only[shA,a0K (h s (by simp[zdy]))]
 | .agg cs,h=>by simp only[shA];exact a6m cs (by simpa [zdy]using h)
 | .tup cs,h=>by simp only[shA];exact a6m cs (by simpa [zdy]using h)
 | .fn f cs,h=>by simp only[shA];exact a6m cs (by simpa [zdy]using h)
 | .imm cs,_=>by simp only[shA]
 | .iptr cs,_=>by simp only[shA]
 | .row cs,_=>by simp only[shA]
 | .bx cs,_=>by simp only[shA]
 | .immk _ _ cs,_=>by simp only[shA]
 | .mp ..,_=>by simp only[shA]
 | .refk k s g m,h=>by simp only[shA,a0K (h s (by simp[zdy]))]
 | .sc _,_=>by simp only[shA]
 | .dead,_=>by simp only[shA]
theorem a6m{ro ro':Ro}: ∀(cs:List AV),(∀s,s∈zdz cs→ro' s=ro s)→shL ro' cs=shL ro cs
 | [],_=>by simp only[shL]
 |c::cs,h=>by
  simp only[shL]
  rw[c1m c (fun s hs=>h s (by simp[zdz,hs])),a6m cs (fun s hs=>h s (by simp[zdz,hs]))]
end
theorem c0f{b:Nat}{st st':St}{op:Op}{e:Eff}(h:opR C b st op e)(he: ∀x,x∈op.operands→st'.ev x=st.ev x)
  (hrR: ∀r,rdR st.ro st.ev op=some r→ ∀s,s∈r→st'.ro s=st.ro s) (hr0:rdR st.ro st.ev op=none→st'.ro=st.ro)
  (hw: ∀s,s∈e.sites→st'.ro s=st.ro s∧st'.gn s=st.gn s):opR C b st' op e:=by
 have hr: ∀r,rdS st.ev op=some r→ ∀s,s∈r→st'.ro s=st.ro s:=fun r h=>hrR r (a1p h)
 unfold opR at h ⊢
 split at h
 ·rename_i cl
  cases hcal:cl.callee with
  |value f=>
   simp only[hcal]at h ⊢
   rw[he f (by simp[Op.operands,Call.operands,hcal])]
   cases hf:st.ev f<;>simp only[hf]at h ⊢
   rename_i f' caps
   have hA9:cl.args.toList.map st'.ev=cl.args.toList.map st.ev:=List.map_congr_left fun x hx=>he x (by simp[Op.operands,Call.operands];exact .inr (by simpa using hx))
   rw[hA9]
   unfold b2H at h ⊢
   by_cases hp:a0Q (cl.args.toList.map st.ev++caps)=true
   ·rw[if_pos hp]at h ⊢
    obtain⟨r,h1,h2,rfl⟩:=h
    refine⟨r,h1,h2,?_⟩
    rw[b3Z r b (gn:=st.gn) (gn':=st'.gn) (fun s hs=>(hw s (by simp[Eff.sites];exact by simpa using hs)).2)]
   ·rw[if_neg hp]at h ⊢
    obtain⟨r,h1,h2,h3,rfl⟩:=h
    have hS:rdS st.ev (.call cl)=none:=by simp[rdS,hcal,hf,hp]
    have hex:(cl.args.toList.map st.ev++caps).map (ex st'.ro 8)=(cl.args.toList.map st.ev++caps).map (ex st.ro 8):=by
     by_cases hsh:shL st.ro (cl.args.toList.map st.ev++caps)=true
     ·exact b8K _ _ 8 hsh (hrR _ (by simp only[rdR,hS,rdX,hcal,hf];rw[if_pos hsh]))
     ·have hro:st'.ro=st.ro:=hr0 (by simp only[rdR,hS,rdX,hcal,hf];rw[if_neg hsh])
      rw[hro]
    refine⟨r,by rw[hex];exact h1,h2,h3,?_⟩
    rw[b3Z r b (gn:=st.gn) (gn':=st'.gn) (fun s hs=>(hw s (by simp[Eff.sites];exact by simpa using hs)).2)]
  |invoke r m=>
   simp only[hcal]at h ⊢
   exact b0z h he hr hw (by intro c f hc;cases hc;simp[hcal])
  |builtin bi=>
   simp only[hcal]at h ⊢
   exact b0z h he hr hw (by intro c f hc;cases hc;simp[hcal])
 ·rename_i hne
  exact b0z h he hr hw (by intro c f hc;exact absurd hc (hne c))
def b2v(C:Cfg)(rid:Nat)(ops:Array Oper)(i:Nat)(o:Oper)(st:St):Option Eff→FP→Prop
 |some e,F=>zbl ops o st=some true∧opR C (a1F rid i) st o.op e∧F=⟨rdR st.ro st.ev o.op,e.sites⟩
 |none,F=>zbl ops o st=some false∧F=⟨some [],[]⟩
def doD(o:Oper)(st:St):Option Eff→St
 |some e=>(st.eff e).put o.dst e.v
 |none=>st.put o.dst (.sc undef)
theorem St.put_sl{st:St}{d:Option Tmp}{v:AV}{t:Nat}(h:d≠some t):(st.put d v).sl t=st.sl t:=by
 cases d with
 |none=>rfl
 |some k=>exact b8O _ _ _ _ fun e=>h (by rw[e])
theorem St.put_ro{st:St}{d:Option Tmp}{v:AV}:(st.put d v).ro=st.ro:=by cases d<;>rfl
theorem St.put_gn{st:St}{d:Option Tmp}{v:AV}:(st.put d v).gn=st.gn:=by cases d<;>rfl
theorem St.eff_sl{st:St}{e:Eff}:(st.eff e).sl=st.sl:=(St.al_eq e.al _).2.2
theorem b1d{o:Oper}{st:St}{x:Option Eff}{t:Nat}(h:o.dst≠some t):(doD o st x).sl t=st.sl t:=by
 cases x with
 |none=>exact St.put_sl h
 |some e=>exact(St.put_sl h).trans (congrFun St.eff_sl t)
def a3n:Option Eff→List Nat
 |some e=>e.sites
 |none=>[]
theorem a2C{o:Oper}{st:St}{x:Option Eff}{s:Nat}(h:s∉a3n x):(doD o st x).ro s=st.ro s∧(doD o st x).gn s=st.gn s:=by
 cases x with
 |none=>exact⟨by rw[doD,St.put_ro],by rw[doD,St.put_gn]⟩
 |some e=>exact⟨by rw[doD,St.put_ro];exact(a3e h).1,by rw[doD,St.put_gn];exact(a3e h).2⟩
theorem a7y{y:Oper}{st st':St}(h: ∀d,d∈y.looksAt ops→st'.sl d=st.sl d):(∀x,x∈y.op.operands→st'.ev x=st.ev x)∧zbl ops y st'=zbl ops y st:=by
 refine⟨fun x hx=>?_,?_⟩
 ·cases x with
  |tmp t=>exact h t (List.mem_append_left _ (List.mem_filterMap.2 ⟨.tmp t,by simpa using hx,rfl⟩))
  |_=>rfl
 ·unfold zbl
  cases hg:y.guard with
  |none=>rfl
  |some q=>
   obtain⟨j,t⟩:=q
   simp only
   cases hd:(ops[j]?).bind (·.dst)with
   |none=>rfl
   |some d=>
    simp only
    rw[h d (List.mem_append_right _ (by simp[hg,hd]))]
theorem b4F{op:Op}{ev ev':Operand→AV}(h: ∀x,x∈op.operands→ev' x=ev x):rdS ev' op=rdS ev op:=by
 cases op
 case binOp o t x y t'=>simp only[rdS,h x (by simp[Op.operands])]
 case load t x=>simp only[rdS,h x (by simp[Op.operands])]
 case store t x y=>simp only[rdS,h x (by simp[Op.operands]),h y (by simp[Op.operands])]
 case fieldAddr t x f=>simp only[rdS,h x (by simp[Op.operands])]
 case nilCheck x=>simp only[rdS,h x (by simp[Op.operands])]
 case indexAddr t x y=>simp only[rdS,h x (by simp[Op.operands])]
 case slice t x lo hi mx=>simp only[rdS,h x (by simp[Op.operands])]
 case box t x=>simp only[rdS,h x (by simp[Op.operands])]
 case convert s d x=>simp only[rdS,h x (by simp[Op.operands])]
 case build t ps=>
  simp only[rdS,Option.some.injEq]
  have: ∀l:List (Nat×Operand),(∀p,p∈l→ev' p.2=ev p.2)→l.flatMap (fun p=>zdy (ev' p.2))=l.flatMap fun p=>zdy (ev p.2):=by
   intro l;induction l with
   |nil=>intro _;rfl
   |cons p l ih=>intro hl;simp only[List.flatMap_cons,hl p (by simp),ih fun q hq=>hl q (by simp[hq])]
  exact this _ fun p hp=>h p.2 (by simp[Op.operands];exact⟨p.1,by simpa using hp⟩)
 case buildSlice t n ps=>
  simp only[rdS,Option.some.injEq]
  have: ∀l:List (Nat×Operand),(∀p,p∈l→ev' p.2=ev p.2)→l.flatMap (fun p=>zdy (ev' p.2))=l.flatMap fun p=>zdy (ev p.2):=by
   intro l;induction l with
   |nil=>intro _;rfl
   |cons p l ih=>intro hl;simp only[List.flatMap_cons,hl p (by simp),ih fun q hq=>hl q (by simp[hq])]
  exact this _ fun p hp=>h p.2 (by simp[Op.operands];exact⟨p.1,by simpa using hp⟩)
 case call c=>
  have hA9: ∀x,x∈c.args.toList→ev' x=ev x:=fun x hx=>h x (by simp[Op.operands,Call.operands];exact .inr (by simpa using hx))
  simp only[rdS]
  have: ∀l:List Operand,(∀p,p∈l→ev' p=ev p)→l.flatMap (fun p=>zdy (ev' p))=l.flatMap fun p=>zdy (ev p):=by
   intro l;induction l with
   |nil=>intro _;rfl
   |cons p l ih=>intro hl;simp only[List.flatMap_cons,hl p (by simp),ih fun q hq=>hl q (by simp[hq])]
  cases hc:c.callee with
  |value f=>simp only[h f (by simp[Op.operands,Call.operands,hc]),List.map_congr_left hA9]
  |invoke r m=>simp only[this _ hA9]
  |builtin b=>simp only[this _ hA9]
 all_goals rfl
theorem b5G{op:Op}{ro ro':Ro}{ev ev':Operand→AV}(h: ∀x,x∈op.operands→ev' x=ev x)(hr: ∀r,rdR ro ev op=some r→ ∀s,s∈r→ro' s=ro s)(hr0:rdR ro ev op=none→ro'=ro):rdR ro' ev' op=rdR ro ev op:=by
 have hS:=b4F h
 unfold rdR at hr hr0 ⊢
 rw[hS]
 cases hs:rdS ev op with
 |some r=>rfl
 |none=>
  simp only[hs]at hr hr0 ⊢
  cases op
  case call c=>
   have hA9:c.args.toList.map ev'=c.args.toList.map ev:=List.map_congr_left fun x hx=>h x (by simp[Op.operands,Call.operands];exact .inr (by simpa using hx))
   simp only[rdX]at hr hr0 ⊢
   cases hc:c.callee with
   |value f=>
    simp only[hc]at hr hr0 ⊢
    rw[h f (by simp[Op.operands,Call.operands,hc]),hA9]
    cases hf:ev f<;>simp only[hf]at hr hr0 ⊢
    rename_i f' caps
    by_cases hsh:shL ro (c.args.toList.map ev++caps)=true
    ·rw[if_pos hsh]at hr ⊢
     rw[a6m _ (hr _ rfl),if_pos hsh]
    ·rw[if_neg hsh]at hr0 ⊢
     rw[hr0 rfl,if_neg hsh]
   |invoke r m=>rfl
   |builtin b=>rfl
  all_goals rfl
theorem a7T{i:Nat}{o:Oper}{st st':St}{x:Option Eff}{F:FP}(h:b2v C rid ops i o st x F)(hl: ∀d,d∈o.looksAt ops→st'.sl d=st.sl d)
  (hr: ∀r,F.rd=some r→ ∀s,s∈r→st'.ro s=st.ro s) (hr0:F.rd=none→st'.ro=st.ro) (hw: ∀s,s∈F.wr→st'.ro s=st.ro s∧st'.gn s=st.gn s):b2v C rid ops i o st' x F:=by
 obtain⟨h1,h2⟩:=a7y hl
 cases x with
 |none=>obtain⟨ha,hb⟩:=h;exact⟨h2.trans ha,hb⟩
 |some e=>
  obtain⟨ha,hb,rfl⟩:=h
  exact⟨h2.trans ha,c0f hb h1 hr hr0 hw,by rw[b5G h1 hr hr0]⟩
theorem b0n{i:Nat}{o:Oper}{st:St}{x:Option Eff}{F:FP}(h:b2v C rid ops i o st x F):F.wr=a3n x:=by
 cases x with
 |none=>rw[h.2];rfl
 |some e=>rw[h.2.2];rfl
theorem a2h{a b:List Nat}(h:a8C a b=true): ∀s,s∈a→s∉b:=by
 intro s hs hb
 have:=List.all_eq_true.1 h s hs
 simp at this
 exact this hb
theorem b7u{o p:Oper}{st:St}{x y:Option Eff}(hd: ∀d,o.dst=some d→p.dst≠some d)(h: ∀s,s∈a3n x→s∉a3n y):doD p (doD o st x) y=doD o (doD p st y) x:=by
 have hput: ∀(st:St) (d:Option Tmp) (v:AV) (e:Eff),(st.put d v).eff e=(st.eff e).put d v:=by
  intro st d v e
  have h1:=St.al_eq e.al {st with ro:=(st.ro.wrO e.wr).dl e.dl}
  have h2:=St.al_eq e.al {st.put d v with ro:=((st.put d v).ro.wrO e.wr).dl e.dl}
  cases d with
  |none=>rfl
  |some k=>
   have e1:((st.put (some k) v).eff e).ro=(st.eff e).ro:=h2.1.trans h1.1.symm
   have e2:((st.put (some k) v).eff e).gn=(st.eff e).gn:=h2.2.1.trans h1.2.1.symm
   have e3:((st.put (some k) v).eff e).sl=upd st.sl k v:=h2.2.2
   have e4:(st.eff e).sl=st.sl:=h1.2.2
   generalize (st.put (some k) v).eff e=A at e1 e2 e3 ⊢
   obtain⟨a1,a2,a3⟩:=A
   simp only at e1 e2 e3
   simp only[St.put,e1,e2,e3,e4]
 have hpp: ∀(st:St) (v u:AV),(st.put o.dst v).put p.dst u=(st.put p.dst u).put o.dst v:=by
  intro st v u
  cases ho:o.dst with
  |none=>rfl
  |some d=>
   cases hp:p.dst with
   |none=>rfl
   |some k=>
    have hne:k≠d:=fun e=>hd d ho (by rw[hp,e])
    simp only[St.put]
    congr 1
    funext j
    simp only[upd]
    split
    ·rename_i h1;subst h1;rw[if_neg hne]
    ·rfl
 cases x with
 |none=>
  cases y with
  |none=>exact hpp _ _ _
  |some f=>simp only[doD];rw[hput,hpp]
 |some e=>
  cases y with
  |none=>simp only[doD];rw[hput,hpp]
  |some f=>
   simp only[doD]
   rw[hput,hput,hpp]
   congr 2
   obtain⟨h1,h2⟩:=b6Z (st:=st) (e:=e) (f:=f) h
   have h3:((st.eff e).eff f).sl=((st.eff f).eff e).sl:=by simp only[St.eff_sl]
   generalize (st.eff e).eff f=A at*
   generalize (st.eff f).eff e=B at*
   cases A;cases B;simp_all
theorem c2d{i j:Nat}{o p:Oper}{st:St}{x y:Option Eff}{F G:FP}(hap:o.apart ops p=true)(hfp:F.apart G=true)
  (h1:b2v C rid ops j o st x F) (h2:b2v C rid ops i p (doD o st x) y G):b2v C rid ops i p st y G∧b2v C rid ops j o (doD p st y) x F∧doD p (doD o st x) y=doD o (doD p st y) x:=by
 obtain⟨a1,a2,a3⟩:=Oper.apart_spec hap
 unfold FP.apart at hfp
 simp only[Bool.and_eq_true]at hfp
 obtain⟨⟨f1,f2⟩,f3⟩:=hfp
 have w1:=b0n h1
 have w2:=b0n h2
 have f3':=a2h f3
 refine⟨a7T h2 (fun d hd=>(b1d fun e=>a1 d e hd).symm) ?_ ?_ ?_,a7T h1 (fun d hd=>b1d fun e=>a3 d e hd) ?_ ?_ ?_,b7u a2 ?_⟩
 ·intro r hr s hs
  rw[hr]at f2
  exact((a2C (by rw[←w1];exact a2h f2 s hs)).1).symm
 ·intro hr
  rw[hr]at f2
  have:a3n x=[]:=by rw[←w1];simpa using f2
  funext s
  exact((a2C (by simp[this])).1).symm
 ·intro s hs
  have:=a2C (o:=o) (st:=st) (x:=x) (s:=s) (by rw[←w1];exact fun h=>f3' s h hs)
  exact⟨this.1.symm,this.2.symm⟩
 ·intro r hr s hs
  rw[hr]at f1
  exact(a2C (by rw[←w2];exact a2h f1 s hs)).1
 ·intro hr
  rw[hr]at f1
  have:a3n y=[]:=by rw[←w2];simpa using f1
  funext s
  exact(a2C (by simp[this])).1
 ·intro s hs
  exact a2C (by rw[←w2];exact f3' s hs)
 ·intro s hs;rw[←w1]at hs;rw[←w2];exact f3' s hs
def TrD(C:Cfg)(rid:Nat)(ops:Array Oper)(X:Nat→Option Eff)(G:Nat→FP):List Nat→St→St→Prop
 | [],st,st'=>st'=st
 |i::l,st,st'=> ∃o,ops[i]?=some o∧b2v C rid ops i o st (X i) (G i)∧TrD C rid ops X G l (doD o st (X i)) st'
theorem b4s{X:Nat→Option Eff}{G:Nat→FP}{i:Nat}{p:Oper}(hp:ops[i]?=some p): ∀(l1 l2:List Nat) {st st':St},
  (∀j,j∈l1→ ∃o,ops[j]?=some o∧o.apart ops p=true∧(G j).apart (G i)=true)→TrD C rid ops X G (l1++i::l2) st st'→TrD C rid ops X G (i::(l1++l2)) st st'
 | [],_,_,_,_,h=>h
 |j::l1,l2,st,st',hap,h=>by
  obtain⟨o,ho,hc,ht⟩:=h
  obtain⟨o',ho',ha,hg⟩:=hap j (by simp)
  rw[ho]at ho'
  obtain rfl:=Option.some.inj ho'
  obtain⟨p',hp',hcp,ht'⟩:=b4s hp l1 l2 (fun k hk=>hap k (by simp[hk])) ht
  rw[hp]at hp'
  obtain rfl:=Option.some.inj hp'
  obtain⟨s1,s2,s3⟩:=c2d ha hg hc hcp
  refine⟨p,hp,s1,o,ho,s2,?_⟩
  rw[←s3];exact ht'
theorem a2H{listed:Array Bool}(hcl: ∀k o,ops[k]?=some o→listed.getD k false=true→ ∀e,e∈o.after→Region.binds .any e=true→listed.getD e.on false=true): ∀(n j i:Nat),a7R ops n j i=true→
  (∀o,ops[i]?=some o→ ∀e,e∈o.after→Region.binds .any e=true→listed.getD e.on false=true)→listed.getD j false=true
 |0,_,_,h,_=>by simp[a7R]at h
 |n+1,j,i,h,hi=>by
  simp only[a7R]at h
  cases ho:ops[i]? with
  |none=>simp[ho]at h
  |some o=>
   simp only[ho]at h
   obtain⟨e,he,h2⟩:=List.any_eq_true.1 h
   simp only[Bool.and_eq_true,Bool.or_eq_true,beq_iff_eq]at h2
   obtain⟨hb,h3⟩:=h2
   have hl:=hi o ho e (by simpa using he) hb
   rcases h3 with h3|h3
   ·rw[←h3];exact hl
   ·exact a2H hcl n j e.on h3 fun o' ho' e' he' hb'=>hcl _ o' ho' hl e' he' hb'
end
section
variable{C:Cfg}{rid:Nat}{ops:Array Oper}
theorem TrD.congr{X X':Nat→Option Eff}{G G':Nat→FP}: ∀(l:List Nat) {st st':St},(∀k,k∈l→X' k=X k∧G' k=G k)→TrD C rid ops X G l st st'→TrD C rid ops X' G' l st st'
 | [],_,_,_,h=>h
 |i::l,st,st',hk,h=>by
  obtain⟨o,h1,h2,h3⟩:=h
  obtain⟨e1,e2⟩:=hk i (by simp)
  exact⟨o,h1,by rw[e1,e2];exact h2,by rw[e1];exact TrD.congr l (fun k hk'=>hk k (by simp[hk'])) h3⟩
def fp0:FP:=⟨none,[]⟩
theorem b0w: ∀(l:List Oper) (i:Nat) {acc:List FP} {Q:St→List FP→Prop} {st:St},(∀k o,l[k]?=some o→ops[i+k]?=some o)→a7j C rid ops l i acc Q st→
  ∃X fps stE,fps.length=l.length∧TrD C rid ops X (fun k=>fps.getD (k-i) fp0) (List.range' i l.length) st stE∧Q stE (acc.reverse++fps)
 | [],i,acc,Q,st,_,h=>⟨fun _=>none,[],st,rfl,rfl,by simpa [a7j]using h⟩
 |o::l,i,acc,Q,st,hl,h=>by
  have ho:ops[i]?=some o:=hl 0 o rfl
  have main: ∀(x:Option Eff) (F:FP),b2v C rid ops i o st x F→a7j C rid ops l (i+1) (F::acc) Q (doD o st x)→
    ∃X fps stE,fps.length=(o::l).length∧TrD C rid ops X (fun k=>fps.getD (k-i) fp0) (List.range' i (o::l).length) st stE∧Q stE (acc.reverse++fps):=by
   intro x F hc hr
   obtain⟨X,fps,stE,h1,h2,h3⟩:=b0w l (i+1) (fun k p hp=>by have:=hl (k+1) p (by simpa using hp);rw[show i+1+k=i+(k+1) by omega];exact this) hr
   refine⟨fun k=>if k=i then x else X k,F::fps,stE,by simp[h1],?_,by simpa using h3⟩
   rw[List.length_cons,List.range'_succ]
   refine⟨o,ho,?_,?_⟩
   ·simpa using hc
   ·simp only[if_true]
    refine TrD.congr _ (fun k hk=>?_) h2
    have hlt:i+1≤k:=by
     rw[List.mem_range'_1]at hk;exact hk.1
    refine⟨if_neg (by omega),?_⟩
    rw[show k-i=(k-(i+1))+1 by omega]
    simp
  simp only[a7j]at h
  cases hw:zbl ops o st with
  |none=>simp[hw]at h
  |some t=>
   cases t
   ·simp only[hw]at h
    exact main none ⟨some [],[]⟩ ⟨hw,rfl⟩ h
   ·simp only[hw]at h
    obtain⟨e,he,hr⟩:=h
    exact main (some e) _ ⟨hw,he,rfl⟩ hr
variable{w0:World}{A0:Nat→Prop}{F0:List Nat}{cS:Cx}{n:Nat}
theorem a4X{i:Nat}{o:Oper}{st:St}{x:Option Eff}{F:FP}(h:b2v C rid ops i o st x F):a6V C rid ops i o st (doD o st x):=by
 unfold a6V
 cases x with
 |none=>rw[h.1];rfl
 |some e=>rw[h.1];exact⟨e,h.2.1,rfl⟩
theorem b8M(T:TOK C.P C.ti){X:Nat→Option Eff}{G:Nat→FP}{Q:Exit→Act→World→Prop}(hdst: ∀o,o∈ops.toList→ ∀t,o.dst=some t→t<n)
  (hbk: ∀i o,ops[i]?=some o→ ∀e,e∈o.after→Region.binds .any e=true→e.on<i)
  (hok: ∀i j o p,j<i→ops[j]?=some o→ops[i]?=some p→(o.apart ops p=true∧(G j).apart (G i)=true)∨a7R ops ops.size j i=true) {stE:St}
  (hQ: ∀a c Φ,SR w0 A0 F0 cS n stE a c Φ→Q .normal a c.w): ∀(fuel:Nat) (L:List Nat) (listed:Array Bool) {st:St} {a:Act} {c:Cx} {Φ:Nat→Nat→List Nat},L.length=fuel→listed.size=ops.size→L.Pairwise (· <·)→
  (∀i,i∈L↔i<ops.size∧listed.getD i false=false)→(∀k o,ops[k]?=some o→listed.getD k false=true→ ∀e,e∈o.after→Region.binds .any e=true→listed.getD e.on false=true)→
  TrD C rid ops X G L st stE→SR w0 A0 F0 cS n st a c Φ→wpAny C.P .any ops Q fuel listed a c.w
 |0,L,listed,st,a,c,Φ,hlen,hsz,hpw,hL,hcl,ht,hs=>by
  obtain rfl:=List.length_eq_zero_iff.1 hlen
  refine⟨?_,?_⟩
  ·unfold Region.ready
   rw[List.filter_eq_nil_iff]
   intro i hi
   have hi':i<ops.size:=by simpa using hi
   have:listed.getD i false=true:=by
    cases hb:listed.getD i false with
    |true=>rfl
    |false=>have:=(hL i).2 ⟨hi',hb⟩;cases this
   have h2:listed.getD i true=true:=by
    have hlt:i<listed.size:=by omega
    simp only[Array.getD,hlt,dif_pos]at this ⊢;exact this
   simp[h2]
  ·have:stE=st:=ht
   subst this
   exact hQ _ _ _ hs
 |fuel+1,L,listed,st,a,c,Φ,hlen,hsz,hpw,hL,hcl,ht,hs=>by
  have hY9: ∀i,i∈Region.ready .any ops listed↔i∈L∧ ∀o,ops[i]?=some o→ ∀e,e∈o.after→Region.binds .any e=true→listed.getD e.on false=true:=by
   intro i
   unfold Region.ready
   rw[List.mem_filter,hL,List.mem_range]
   constructor
   ·rintro⟨hi,h⟩
    simp only[Bool.and_eq_true,Bool.not_eq_true']at h
    refine⟨⟨hi,?_⟩,?_⟩
    ·have hlt:i<listed.size:=by omega
     have:=h.1
     simp only[Array.getD,hlt,dif_pos]at this ⊢;exact this
    ·intro o ho e he hb
     have h2:=h.2
     rw[ho]at h2
     simp only[Option.map_some,Option.getD_some,Array.all_eq_true_iff_forall_mem,Bool.or_eq_true,Bool.not_eq_true']at h2
     rcases h2 e he with h3|h3
     ·rw[hb]at h3;cases h3
     ·exact h3
   ·rintro⟨⟨hi,h1⟩,h2⟩
    refine⟨hi,?_⟩
    simp only[Bool.and_eq_true,Bool.not_eq_true']
    refine⟨?_,?_⟩
    ·have hlt:i<listed.size:=by omega
     simp only[Array.getD,hlt,dif_pos]at h1 ⊢;exact h1
    ·have ho:ops[i]?=some ops[i]:=by simp[hi]
     rw[ho]
     simp only[Option.map_some,Option.getD_some,Array.all_eq_true_iff_forall_mem,Bool.or_eq_true,Bool.not_eq_true']
     intro e he
     cases hb:Region.binds .any e with
     |false=>exact .inl rfl
     |true=>exact .inr (h2 _ ho e he hb)
  refine⟨fun hnil=>?_,fun i hi=>?_⟩
  ·exfalso
   cases L with
   |nil=>simp at hlen
   |cons x t=>
    have hx:x∈Region.ready .any ops listed:=by
     rw[hY9]
     refine⟨by simp,fun o ho e he hb=>?_⟩
     have hlt:=hbk x o ho e he hb
     have hxs:x<ops.size:=((hL x).1 (by simp)).1
     cases hl:listed.getD e.on false with
     |true=>rfl
     |false=>
      have hm:=(hL e.on).2 ⟨by omega,hl⟩
      rcases List.mem_cons.1 hm with h|h
      ·omega
      ·have:=(List.pairwise_cons.1 hpw).1 _ h;omega
    rw[hnil]at hx;cases hx
  ·obtain⟨hiL,hie⟩:=(hY9 i).1 hi
   have his:=((hL i).1 hiL).1
   have hio:ops[i]?=some ops[i]:=by simp[his]
   obtain⟨l1,l2,rfl⟩:=List.append_of_mem hiL
   have hpw':=List.pairwise_append.1 hpw
   have hb:=b4s hio l1 l2 (fun j hj=>by
    have hji:j<i:=hpw'.2.2 j hj i (by simp)
    have hjs:j<ops.size:=by omega
    have hjo:ops[j]?=some ops[j]:=by simp[hjs]
    refine⟨_,hjo,?_⟩
    rcases hok i j _ _ hji hjo hio with h|h
    ·exact h
    ·have h1:=a2H hcl _ _ _ h hie
     have h2:=((hL j).1 (by simp[hj])).2
     rw[h1]at h2;cases h2) ht
   obtain⟨o,ho,hc,ht'⟩:=hb
   rw[hio]at ho
   obtain rfl:=Option.some.inj ho
   have hrec: ∀a' c' Φ',SR w0 A0 F0 cS n (doD ops[i] st (X i)) a' c' Φ'→wpAny C.P .any ops Q fuel (listed.setIfInBounds i true) a' c'.w:=fun a' c' Φ' h'=>
    b8M T hdst hbk hok hQ fuel (l1++l2) (listed.setIfInBounds i true) (by simp at hlen ⊢;omega) (by simp[hsz])
     (hpw.sublist (List.Sublist.append (List.Sublist.refl _) (List.sublist_cons_self _ _)))
     (fun k=>by
      have hk:=hL k
      have hnd:=hpw.imp (fun {a b} (h:a<b)=>Nat.ne_of_lt h)
      have hil:i<listed.size:=by omega
      by_cases e:k=i
      ·subst e
       have h1:k∉l1++l2:=by
        intro hm
        rcases List.mem_append.1 hm with hm|hm
        ·exact absurd (hpw'.2.2 k hm k (by simp)) (by omega)
        ·exact absurd ((List.pairwise_cons.1 hpw'.2.1).1 k hm) (by omega)
       refine⟨fun h=>absurd h h1,fun h=>?_⟩
       have:=h.2
       simp[Array.getD_eq_getD_getElem?,hil]at this
      ·have h1:(k∈l1++l2)↔k∈l1++i::l2:=by simp[e]
       rw[h1,hk]
       have:(listed.setIfInBounds i true).getD k false=listed.getD k false:=by
        simp only[Array.getD_eq_getD_getElem?,Array.getElem?_setIfInBounds_ne (fun h=>e h.symm)]
       rw[this])
     (fun k o2 hok2 hk e he hb'=>by
      have hil:i<listed.size:=by omega
      have hM9: ∀m,listed.getD m false=true→(listed.setIfInBounds i true).getD m false=true:=by
       intro m hm
       by_cases e:m=i
       ·subst e;simp[Array.getD_eq_getD_getElem?,hil]
       ·simp only[Array.getD_eq_getD_getElem?,Array.getElem?_setIfInBounds_ne (fun h=>e h.symm)]at hm ⊢;exact hm
      by_cases ek:k=i
      ·subst ek
       exact hM9 _ (hie o2 hok2 e he hb')
      ·refine hM9 _ (hcl k o2 hok2 ?_ e he hb')
       simp only[Array.getD_eq_getD_getElem?,Array.getElem?_setIfInBounds_ne (fun h=>ek h.symm)]at hk ⊢;exact hk)
     ht' h'
   have hst:=a5n T hs (hdst ops[i] (by simp)) (a4X hc) (K:=wpAny C.P .any ops Q fuel (listed.setIfInBounds i true)) (Q:=Q) hrec
   unfold wpOp
   simp only[hio]
   split
   ·rename_i hw;rw[if_pos hw]at hst;exact .inl hst
   ·rename_i hw;rw[if_neg hw]at hst;exact hst
theorem SR.drawn{st:St}{a:Act}{c:Cx}{Φ:Nat→Nat→List Nat}(h:SR w0 A0 F0 cS n st a c Φ)(m:Nat)(hm:c.w.drawn≤m): ∃c' Φ',c'.w={c.w with drawn:=m}∧SR w0 A0 F0 cS n st a c' Φ':=by
 obtain⟨c1,e1,e2,e3,e4,e5,e6,e7⟩:=h.sim.wchg {c.w with drawn:=m} [] rfl rfl ⟨rfl,trivial⟩ (Nat.le_refl _) (fun _ _ _=>rfl) (by simp)
 exact⟨c1,_,e1,e7,h.kp.trans e6,e2.trans h.ro,e3.trans h.gn,fun k=>(h.sl k).mono e6 (by simp),h.df.mono e6,h.sz⟩
theorem c0T(T:TOK C.P C.ti)(hm:C.P.follows .mixedOrders=true){K:Exit→Act→World→Prop}{Q:St→Prop}{st:St}{a:Act}{c:Cx}{Φ:Nat→Nat→List Nat}(h:SR w0 A0 F0 cS n st a c Φ)
  (hdst: ∀o,o∈ops.toList→ ∀t,o.dst=some t→t<n) (hq:a7j C rid ops ops.toList 0 [] (fun st fp=>okD ops fp=true∧Q st) st)
  (hK: ∀st' a' c' Φ',SR w0 A0 F0 cS n st' a' c' Φ'→Q st'→K .normal a' c'.w):(Code.region rid ops true).wp C.P K a c.w:=by
 obtain⟨X,fps,stE,hlen,ht,hok,hQ⟩:=b0w ops.toList 0 (fun k o hk=>by simpa using hk) hq
 simp only[List.reverse_nil,List.nil_append]at hok
 obtain⟨c',Φ',hw',hs'⟩:=h.drawn (c.w.drawn+1) (Nat.le_succ _)
 refine wp_region_any hm ?_
 rw[←hw']
 simp only[Nat.sub_zero]at ht
 unfold okD at hok
 rw[List.all_eq_true]at hok
 have hlen':fps.length=ops.size:=by simpa using hlen
 refine b8M (X:=X) (G:=fun k=>fps.getD k fp0) (stE:=stE) T hdst ?_ ?_ (fun a' c' Φ' h'=>hK _ _ _ _ h' hQ) ops.size (List.range' 0 ops.toList.length) _ (by simp) (by simp) (List.pairwise_lt_range' ..) ?_ ?_ ht hs'
 ·intro i o ho e he hb
  have hi:i<ops.size:=by
   rcases Nat.lt_or_ge i ops.size with h|h
   ·exact h
   ·rw[Array.getElem?_eq_none h]at ho;cases ho
  have:=hok i (by simpa using hi)
  simp only[ho,Bool.and_eq_true]at this
  have:=List.all_eq_true.1 this.1 e (by simpa using he)
  simpa [hb]using this
 ·intro i j o p hji hj hi
  have his:i<ops.size:=by
   rcases Nat.lt_or_ge i ops.size with h|h
   ·exact h
   ·rw[Array.getElem?_eq_none h]at hi;cases hi
  have:=hok i (by simpa using his)
  simp only[hi,Bool.and_eq_true]at this
  have:=List.all_eq_true.1 this.2 j (by simpa using hji)
  unfold a7r at this
  have e1:fps[j]?=some (fps[j]'(by omega)):=List.getElem?_eq_getElem _
  have e2:fps[i]?=some (fps[i]'(by omega)):=List.getElem?_eq_getElem _
  simp only[hi,hj,e1,e2,Bool.or_eq_true,Bool.and_eq_true]at this
  simp only[List.getD_eq_getElem?_getD,e1,e2,Option.getD_some]
  exact this
 ·intro i
  rw[List.mem_range'_1]
  simp only[Array.length_toList,Array.getD_eq_getD_getElem?,Array.getElem?_replicate]
  constructor
  ·intro h;exact⟨by omega,by split<;>rfl⟩
  ·intro h;omega
 ·intro k o _ hk
  simp only[Array.getD_eq_getD_getElem?,Array.getElem?_replicate]at hk
  split at hk<;>cases hk
end
section
variable{C:Cfg}{rid:Nat}{ops:Array Oper}
theorem a2b{β:Type}{W:List Nat}{f g:Nat→β}{s:Nat}(h:s∈W):a1W W f g s=f s:=by
 unfold a1W;rw[if_pos (List.contains_iff_mem.2 h)]
theorem a0O{β:Type}{W:List Nat}{f g:Nat→β}{s:Nat}(h:s∉W):a1W W f g s=g s:=by
 unfold a1W;rw[if_neg (fun e=>h (List.contains_iff_mem.1 e))]
theorem a3h{β:Type}{W:List Nat}{f g:Nat→β}(h: ∀s,s∉W→f s=g s):a1W W f g=f:=by
 funext s
 by_cases hs:s∈W
 ·exact a2b hs
 ·rw[a0O hs];exact(h s hs).symm
theorem a4h{β:Type}{W:List Nat}{f g h:Nat→β}:a1W W (a1W W f g) h=a1W W f h:=by
 funext s
 by_cases hs:s∈W
 ·rw[a2b hs,a2b hs,a2b hs]
 ·rw[a0O hs,a0O hs]
theorem FP.le_refl(a:FP):FP.le a a:=by
 refine⟨?_,fun _ h=>h⟩
 cases a.rd with
 |none=>trivial
 |some r=>exact⟨r,rfl,fun _ h=>h⟩
theorem b1l{a b a' b':List Nat}(h:a8C a' b'=true)(h1: ∀s,s∈a→s∈a')(h2: ∀s,s∈b→s∈b'):a8C a b=true:=by
 unfold a8C
 rw[List.all_eq_true]
 intro x hx
 have:=a2h h x (h1 x hx)
 simp only[Bool.not_eq_true',List.contains_eq_mem,decide_eq_false_iff_not]
 exact fun h=>this (h2 x h)
theorem FP.apart_le{a b a' b':FP}(h:a'.apart b'=true)(ha:FP.le a a')(hb:FP.le b b'):a.apart b=true:=by
 unfold FP.apart at h ⊢
 simp only[Bool.and_eq_true]at h ⊢
 obtain⟨⟨f1,f2⟩,f3⟩:=h
 obtain⟨a1,a2⟩:=ha
 obtain⟨b1,b2⟩:=hb
 have key: ∀ {x y x' y':FP},(match x'.rd with|some r=>a8C r y'.wr|none=>y'.wr.isEmpty)=true→(match x'.rd with|none=>True|some r=> ∃q,x.rd=some q∧ ∀s,s∈q→s∈r)→(∀s,s∈y.wr→s∈y'.wr)→(match x.rd with|some r=>a8C r y.wr|none=>y.wr.isEmpty)=true:=by
  intro x y x' y' g1 g2 g3
  cases hx:x'.rd with
  |none=>
   rw[hx]at g1
   have e:y'.wr=[]:=by simpa using g1
   have e2:y.wr=[]:=List.eq_nil_iff_forall_not_mem.2 fun s hs=>by have:=g3 s hs;rw[e]at this;cases this
   rw[e2]
   cases x.rd with
   |none=>rfl
   |some q=>
    show a8C q []=true
    unfold a8C
    rw[List.all_eq_true]
    intro z _
    rfl
  |some r=>
   rw[hx]at g1 g2
   obtain⟨q,e1,e2⟩:=g2
   rw[e1]
   exact b1l g1 e2 g3
 exact⟨⟨key f1 a1 b2,key f2 b1 a2⟩,b1l f3 a2 b2⟩
def b2z(C:Cfg)(rid:Nat)(ops:Array Oper)(i:Nat)(o:Oper)(st:St)(x:Option Eff)(G:FP):Prop:= ∃F,b2v C rid ops i o st x F∧FP.le F G
theorem b4d{i:Nat}{o:Oper}{st:St}{x:Option Eff}{G:FP}(h:b2z C rid ops i o st x G): ∀s,s∈a3n x→s∈G.wr:=by
 obtain⟨F,h1,h2⟩:=h
 intro s hs
 exact h2.2 s (by rw[b0n h1];exact hs)
theorem b1Z{i:Nat}{o:Oper}{st st':St}{x:Option Eff}{G:FP}(h:b2z C rid ops i o st x G)(hl: ∀d,d∈o.looksAt ops→st'.sl d=st.sl d)
  (hr: ∀r,G.rd=some r→ ∀s,s∈r→st'.ro s=st.ro s) (hr0:G.rd=none→st'.ro=st.ro) (hw: ∀s,s∈G.wr→st'.ro s=st.ro s∧st'.gn s=st.gn s):b2z C rid ops i o st' x G:=by
 obtain⟨F,h1,h2,h3⟩:=h
 refine⟨F,a7T h1 hl ?_ ?_ fun s hs=>hw s (h3 s hs),h2,h3⟩
 ·intro q hq s hs
  cases hG:G.rd with
  |none=>rw[hr0 hG]
  |some r=>
   rw[hG]at h2
   obtain⟨q',e1,e2⟩:=h2
   rw[hq]at e1
   cases e1
   exact hr r hG s (e2 s hs)
 ·intro hq
  cases hG:G.rd with
  |none=>exact hr0 hG
  |some r=>
   rw[hG]at h2
   obtain⟨q',e1,e2⟩:=h2
   rw[hq]at e1
   cases e1
theorem c4A{i j:Nat}{o p:Oper}{st:St}{x y:Option Eff}{F G:FP}(hap:o.apart ops p=true)(hfp:F.apart G=true)
  (h1:b2z C rid ops j o st x F) (h2:b2z C rid ops i p (doD o st x) y G):b2z C rid ops i p st y G∧b2z C rid ops j o (doD p st y) x F∧doD p (doD o st x) y=doD o (doD p st y) x:=by
 obtain⟨F1,a1,a2⟩:=h1
 obtain⟨G1,b1,b2⟩:=h2
 obtain⟨c1,c2,c3⟩:=c2d hap (FP.apart_le hfp a2 b2) a1 b1
 exact⟨⟨G1,c1,b2⟩,⟨F1,c2,a2⟩,c3⟩
theorem b6B{i:Nat}{o:Oper}{st:St}{x y:Option Eff}{F F':FP}(hv:isV o.op=false)(h1:b2v C rid ops i o st x F)(h2:b2v C rid ops i o st y F'):x=y:=by
 cases x with
 |none=>
  cases y with
  |none=>rfl
  |some e=>have:=h1.1.symm.trans h2.1;simp at this
 |some e=>
  cases y with
  |none=>have:=h1.1.symm.trans h2.1;simp at this
  |some f=>
   have a:=h1.2.1
   have b:=h2.2.1
   unfold opR at a b
   split at a
   ·rename_i c hc
    rw[hc]at hv b
    simp only at b
    cases hcl:c.callee with
    |value g=>simp[isV,hcl]at hv
    |invoke r m=>simp only[hcl]at a b;rw[a]at b;exact b
    |builtin q=>simp only[hcl]at a b;rw[a]at b;exact b
   ·rename_i hne
    split at b
    ·rename_i c hc;exact absurd hc (hne c)
    ·rw[a]at b;exact b
theorem b7M{i:Nat}{o:Oper}{st:St}{x y:Option Eff}{F F':FP}(hv:isV o.op=false)(h1:b2z C rid ops i o st x F)(h2:b2z C rid ops i o st y F'):x=y:=by
 obtain⟨_,a,_⟩:=h1
 obtain⟨_,b,_⟩:=h2
 exact b6B hv a b
def PD(C:Cfg)(rid:Nat)(ops:Array Oper)(G:Nat→FP)(Q:St→Prop):List Nat→St→Prop
 | [],st=>Q st
 |i::l,st=> ∃o,ops[i]?=some o∧((∃x,b2z C rid ops i o st x (G i)∧PD C rid ops G Q l (doD o st x))∨
   (∃Po R W,zbl ops o st=some true∧inD C ops i o st Po R W∧G i=⟨some R,W⟩∧ ∀r ro' gn',Po r ro' gn'→PD C rid ops G Q l ((⟨st.sl,ro',gn'⟩:St).put o.dst r)))
theorem b7w{o:Oper}{st:St}{Po:AV→Ro→(Nat→Nat)→Prop}(h:inR C st o.op Po):isV o.op=true:=by
 unfold inR at h
 split at h
 ·rename_i cl hcl
  split at h
  ·rename_i f hf
   rw[hcl];simp only[isV,hf]
  ·exact h.elim
 ·exact h.elim
theorem c0D{i:Nat}{o:Oper}{st:St}{Po:AV→Ro→(Nat→Nat)→Prop}{R W:List Nat}(h:inD C ops i o st Po R W):isV o.op=true:=
 b7w (st:=⟨st.sl,st.ro,st.gn⟩) (h.1 st.ro st.gn (fun _ _=>rfl) fun _ _=>rfl)
theorem b3n(st:St):(⟨st.sl,st.ro,st.gn⟩:St)=st:=by cases st;rfl
theorem b2g{a b:St}(h1:a.sl=b.sl)(h2:a.ro=b.ro)(h3:a.gn=b.gn):a=b:=by cases a;cases b;simp_all
theorem b5h{st:St}{d e:Option Tmp}(hd: ∀k,d=some k→e≠some k)(v u:AV):(st.put d v).put e u=(st.put e u).put d v:=by
 cases d with
 |none=>rfl
 |some k=>
  cases e with
  |none=>rfl
  |some l=>
   have hne:l≠k:=fun h=>hd k rfl (by rw[h])
   simp only[St.put]
   congr 1
   funext j
   simp only[upd]
   split
   ·rename_i h1;subst h1;rw[if_neg hne]
   ·rfl
theorem b4U{o:Oper}{st:St}{x:Option Eff}{W:List Nat}{ro':Ro}{gn':Nat→Nat}{sl:Nat→AV}(hW: ∀s,s∈a3n x→s∉W):
  (doD o ⟨sl,a1W W ro' st.ro,a1W W gn' st.gn⟩ x).ro=a1W W ro' (doD o st x).ro∧(doD o ⟨sl,a1W W ro' st.ro,a1W W gn' st.gn⟩ x).gn=a1W W gn' (doD o st x).gn:=by
 have key: ∀s,(doD o ⟨sl,a1W W ro' st.ro,a1W W gn' st.gn⟩ x).ro s=a1W W ro' (doD o st x).ro s∧(doD o ⟨sl,a1W W ro' st.ro,a1W W gn' st.gn⟩ x).gn s=a1W W gn' (doD o st x).gn s:=by
  intro s
  by_cases hs:s∈W
  ·have:=a2C (o:=o) (st:=⟨sl,a1W W ro' st.ro,a1W W gn' st.gn⟩) (x:=x) (s:=s) (fun h=>hW s h hs)
   rw[a2b hs,a2b hs]
   exact⟨this.1.trans (a2b hs),this.2.trans (a2b hs)⟩
  ·rw[a0O hs,a0O hs]
   by_cases hx:s∈a3n x
   ·cases x with
    |none=>cases hx
    |some e=>
     simp only[doD,St.put_ro,St.put_gn]
     exact b0Q (st:=st) (st':=⟨sl,a1W W ro' st.ro,a1W W gn' st.gn⟩) (fun y hy=>⟨a0O (hW y hy),a0O (hW y hy)⟩) hx
   ·have h1:=a2C (o:=o) (st:=⟨sl,a1W W ro' st.ro,a1W W gn' st.gn⟩) (x:=x) (s:=s) hx
    have h2:=a2C (o:=o) (st:=st) (x:=x) (s:=s) hx
    exact⟨h1.1.trans ((a0O hs).trans h2.1.symm),h1.2.trans ((a0O hs).trans h2.2.symm)⟩
 exact⟨funext fun s=>(key s).1,funext fun s=>(key s).2⟩
theorem a6w(a b:St)(h:a.sl=b.sl)(d:Option Tmp)(v:AV):(a.put d v).sl=(b.put d v).sl:=by
 cases d<;>simp[St.put,h]
theorem a5u(st:St)(ro:Ro)(gn:Nat→Nat)(d:Option Tmp)(v:AV):((⟨st.sl,ro,gn⟩:St).put d v).sl=(st.put d v).sl:=by cases d<;>rfl
theorem a7m{o p:Oper}{st:St}{x:Option Eff}{r:AV}{ro':Ro}{gn':Nat→Nat}(hd: ∀d,o.dst=some d→p.dst≠some d):(doD o ((⟨st.sl,ro',gn'⟩:St).put p.dst r) x).sl=((doD o st x).put p.dst r).sl:=by
 cases x with
 |none=>
  show (((⟨st.sl,ro',gn'⟩:St).put p.dst r).put o.dst _).sl=((st.put o.dst _).put p.dst r).sl
  rw[b5h hd]
  exact a6w _ _ (a5u _ _ _ _ _) _ _
 |some e=>
  show (((((⟨st.sl,ro',gn'⟩:St).put p.dst r).eff e)).put o.dst _).sl=(((st.eff e).put o.dst _).put p.dst r).sl
  rw[b5h hd (st:=st.eff e)]
  exact a6w _ _ (by rw[St.eff_sl];exact a6w _ _ (by rw[St.eff_sl]) _ _) _ _
theorem b8o{o:Oper}{sl sl':Nat→AV}{ro:Ro}{gn:Nat→Nat}{Po:AV→Ro→(Nat→Nat)→Prop}(h: ∀x,x∈o.op.operands→(⟨sl',ro,gn⟩:St).ev x=(⟨sl,ro,gn⟩:St).ev x)(hi:inR C ⟨sl,ro,gn⟩ o.op Po):inR C ⟨sl',ro,gn⟩ o.op Po:=by
 unfold inR at hi ⊢
 split at hi
 ·rename_i cl hcl
  simp only[hcl]at hi h ⊢
  cases hc:cl.callee with
  |value f=>
   simp only[hc]at hi ⊢
   rw[h f (by simp[Op.operands,Call.operands,hc])]
   have hA9:cl.args.toList.map (⟨sl',ro,gn⟩:St).ev=cl.args.toList.map (⟨sl,ro,gn⟩:St).ev:=List.map_congr_left fun x hx=>h x (by simp[Op.operands,Call.operands];exact .inr (by simpa using hx))
   rw[hA9]
   exact hi
  |invoke r m=>simp only[hc]at hi
  |builtin b=>simp only[hc]at hi
 ·exact hi.elim
theorem a8G{st:St}{op:Op}{Po Po':AV→Ro→(Nat→Nat)→Prop}(h: ∀r a b,Po' r a b↔Po r a b)(hi:inR C st op Po):inR C st op Po':=by
 have:Po'=Po:=funext fun r=>funext fun a=>funext fun b=>propext (h r a b)
 rw[this];exact hi
theorem b3y{Po:AV→Ro→(Nat→Nat)→Prop}{W:List Nat}{ro0 ro1:Ro}{gn0 gn1:Nat→Nat}(r:AV)(a:Ro)(b:Nat→Nat):
  (∃ro'' gn'',(∃ro' gn',Po r ro' gn'∧ro''=a1W W ro' ro0∧gn''=a1W W gn' gn0)∧a=a1W W ro'' ro1∧b=a1W W gn'' gn1)↔ ∃ro' gn',Po r ro' gn'∧a=a1W W ro' ro1∧b=a1W W gn' gn1:=by
 constructor
 ·rintro⟨_,_,⟨ro',gn',k,rfl,rfl⟩,rfl,rfl⟩
  exact⟨ro',gn',k,a4h,a4h⟩
 ·rintro⟨ro',gn',k,rfl,rfl⟩
  exact⟨_,_,⟨ro',gn',k,rfl,rfl⟩,a4h.symm,a4h.symm⟩
theorem c4V{G:Nat→FP}{Q:St→Prop}{i j:Nat}{o p:Oper}{l:List Nat}{st:St}(ho:ops[j]?=some o)(hp:ops[i]?=some p)(hji:j<i)(hap:o.apart ops p=true)(hfp:(G j).apart (G i)=true)(hb:a7R ops ops.size j i=false)
  (h:PD C rid ops G Q (j::i::l) st):PD C rid ops G Q (i::j::l) st:=by
 obtain⟨a1,a2,a3⟩:=Oper.apart_spec hap
 have hfp':=hfp
 unfold FP.apart at hfp'
 simp only[Bool.and_eq_true]at hfp'
 obtain⟨⟨f1,f2⟩,f3⟩:=hfp'
 have f3':=a2h f3
 have hi':i<ops.size:=by
  rcases Nat.lt_or_ge i ops.size with h|h
  ·exact h
  ·rw[Array.getElem?_eq_none h]at hp;cases hp
 obtain⟨o',ho',h⟩:=h
 rw[ho]at ho'
 obtain rfl:=Option.some.inj ho'
 rcases h with⟨x,hx,p',hp',h⟩|⟨Po,R,W,hw,hin,hG,h⟩
 ·rw[hp]at hp'
  obtain rfl:=Option.some.inj hp'
  have w1:=b4d hx
  rcases h with⟨y,hy,h⟩|⟨Po,R,W,hw,hin,hG,h⟩
  ·obtain⟨s1,s2,s3⟩:=c4A hap hfp hx hy
   refine⟨p,hp,.inl ⟨y,s1,o,ho,.inl ⟨x,s2,?_⟩⟩⟩
   rw[←s3];exact h
  ·-- a call comes ahead of an operation with one effect
   rw[hG]at f1 f2 f3'
   simp only at f1 f2 f3'
   have hxW: ∀s,s∈a3n x→s∉W:=fun s hs=>f3' s (w1 s hs)
   have hRx: ∀s,s∈R→s∉a3n x:=fun s hs hx=>a2h f2 s hs (w1 s hx)
   have hoff: ∀s,s∈R∨s∈W→(doD o st x).ro s=st.ro s∧(doD o st x).gn s=st.gn s:=fun s hs=>a2C (by
    rcases hs with hs|hs
    ·exact hRx s hs
    ·exact fun hx=>hxW s hx hs)
   have hlook: ∀d,d∈p.looksAt ops→st.sl d=(doD o st x).sl d:=fun d hd=>(b1d fun e=>a1 d e hd).symm
   have hev:=(a7y (st:=doD o st x) (st':=st) hlook)
   refine⟨p,hp,.inr ⟨fun r a b=> ∃ro' gn',Po r ro' gn'∧a=a1W W ro' st.ro∧b=a1W W gn' st.gn,R,W,hev.2.trans hw,⟨?_,?_,hin.2.2.1,?_⟩,hG,?_⟩⟩
   ·intro ro1 gn1 h1 h2
    have:=hin.1 ro1 gn1 (fun s hs=>(h1 s hs).trans (hoff s hs).1.symm) (fun s hs=>(h2 s hs).trans (hoff s (.inr hs)).2.symm)
    have:=b8o (sl':=st.sl) (fun z hz=>by
     have:=hev.1 z hz
     cases z<;>exact this) this
    exact a8G b3y this
   ·rintro r _ _ ⟨ro',gn',_,rfl,rfl⟩ s hs
    exact⟨a0O hs,a0O hs⟩
   ·rcases hin.2.2.2 with⟨r,ro',gn',k⟩|k
    ·exact .inl ⟨r,_,_,ro',gn',k,rfl,rfl⟩
    ·exact .inr k
   ·rintro r _ _ ⟨ro',gn',k,rfl,rfl⟩
    have hk:=h r ro' gn' k
    have ho2:=hin.2.1 r ro' gn' k
    refine⟨o,ho,.inl ⟨x,?_,?_⟩⟩
    ·refine b1Z hx (fun d hd=>?_) ?_ ?_ ?_
     ·exact St.put_sl fun e=>a3 d e hd
     ·intro q hq s hs
      rw[hq]at f1
      rw[St.put_ro]
      exact a0O (a2h f1 s hs)
     ·intro hq
      rw[hq]at f1
      have hWe:W=[]:=by simpa using f1
      rw[St.put_ro]
      funext s
      exact a0O (by rw[hWe];simp)
     ·intro s hs
      rw[St.put_ro,St.put_gn]
      exact⟨a0O (f3' s hs),a0O (f3' s hs)⟩
    ·have e:doD o ((⟨st.sl,a1W W ro' st.ro,a1W W gn' st.gn⟩:St).put p.dst r) x=(⟨(doD o st x).sl,ro',gn'⟩:St).put p.dst r:=by
      have hm:=b4U (o:=o) (st:=st) (x:=x) (W:=W) (ro':=ro') (gn':=gn') (sl:=((⟨st.sl,a1W W ro' st.ro,a1W W gn' st.gn⟩:St).put p.dst r).sl) hxW
      have e0:(⟨((⟨st.sl,a1W W ro' st.ro,a1W W gn' st.gn⟩:St).put p.dst r).sl,a1W W ro' st.ro,a1W W gn' st.gn⟩:St)=(⟨st.sl,a1W W ro' st.ro,a1W W gn' st.gn⟩:St).put p.dst r:=b2g rfl (by rw[St.put_ro]) (by rw[St.put_gn])
      rw[e0]at hm
      refine b2g ?_ ?_ ?_
      ·rw[a7m a2];exact(a5u (doD o st x) _ _ _ _).symm
      ·rw[hm.1,St.put_ro];exact a3h fun s hs=>(ho2 s hs).1
      ·rw[hm.2,St.put_gn];exact a3h fun s hs=>(ho2 s hs).2
     rw[e];exact hk
 ·-- an operation comes ahead of a call
  have hpv:isV p.op=false:=by
   have:=List.all_eq_true.1 hin.2.2.1 i (by simpa using hi')
   rw[hp]at this
   simp only[hji,decide_true,Bool.not_true,Bool.false_or,hb,Bool.or_false,Bool.not_eq_true']at this
   exact this
  rw[hG]at f1 f2 f3'
  simp only at f1 f2 f3'
  have hne: ∃r ro' gn',Po r ro' gn':=by
   rcases hin.2.2.2 with k|k
   ·exact k
   ·have:=k i hji hi';rw[hb]at this;cases this
  have node: ∀r ro' gn',Po r ro' gn'→ ∃y,b2z C rid ops i p ((⟨st.sl,ro',gn'⟩:St).put o.dst r) y (G i)∧PD C rid ops G Q l (doD p ((⟨st.sl,ro',gn'⟩:St).put o.dst r) y):=by
   intro r ro' gn' k
   obtain⟨p',hp',hh⟩:=h r ro' gn' k
   rw[hp]at hp'
   obtain rfl:=Option.some.inj hp'
   rcases hh with hh|⟨Po',R',W',_,hin',_,_⟩
   ·exact hh
   ·have:=c0D hin';rw[hpv]at this;cases this
  have back: ∀r ro' gn' y,Po r ro' gn'→b2z C rid ops i p ((⟨st.sl,ro',gn'⟩:St).put o.dst r) y (G i)→b2z C rid ops i p st y (G i):=by
   intro r ro' gn' y k hy
   have ho2:=hin.2.1 r ro' gn' k
   refine b1Z hy (fun d hd=>(St.put_sl (st:=⟨st.sl,ro',gn'⟩) fun e=>a1 d e hd).symm) ?_ ?_ ?_
   ·intro q hq s hs
    rw[hq]at f2
    rw[St.put_ro]
    exact(ho2 s (a2h f2 s hs)).1.symm
   ·intro hq
    rw[hq]at f2
    have hWe:W=[]:=by simpa using f2
    rw[St.put_ro]
    funext s
    exact(ho2 s (by rw[hWe];simp)).1.symm
   ·intro s hs
    rw[St.put_ro,St.put_gn]
    have:=ho2 s fun e=>f3' s e hs
    exact⟨this.1.symm,this.2.symm⟩
  obtain⟨r0,ro0,gn0,k0⟩:=hne
  obtain⟨x,hx0,_⟩:=node r0 ro0 gn0 k0
  have hx:=back _ _ _ _ k0 hx0
  have w1:=b4d hx
  have hxW: ∀s,s∈a3n x→s∉W:=fun s hs e=>f3' s e (w1 s hs)
  have hRx: ∀s,s∈R→s∉a3n x:=fun s hs hx=>a2h f1 s hs (w1 s hx)
  have hoff: ∀s,s∈R∨s∈W→(doD p st x).ro s=st.ro s∧(doD p st x).gn s=st.gn s:=fun s hs=>a2C (by
   rcases hs with hs|hs
   ·exact hRx s hs
   ·exact fun hx=>hxW s hx hs)
  have hlook: ∀d,d∈o.looksAt ops→(doD p st x).sl d=st.sl d:=fun d hd=>b1d fun e=>a3 d e hd
  have hev:=(a7y (st:=st) (st':=doD p st x) hlook)
  refine⟨p,hp,.inl ⟨x,hx,o,ho,.inr ⟨fun r a b=> ∃ro' gn',Po r ro' gn'∧a=a1W W ro' (doD p st x).ro∧b=a1W W gn' (doD p st x).gn,R,W,hev.2.trans hw,⟨?_,?_,hin.2.2.1,.inl ⟨r0,_,_,ro0,gn0,k0,rfl,rfl⟩⟩,hG,?_⟩⟩⟩
  ·intro ro1 gn1 h1 h2
   have:=hin.1 ro1 gn1 (fun s hs=>(h1 s hs).trans (hoff s hs).1) (fun s hs=>(h2 s hs).trans (hoff s (.inr hs)).2)
   have:=b8o (sl':=(doD p st x).sl) (fun z hz=>by
    have:=hev.1 z hz
    cases z<;>exact this) this
   exact a8G b3y this
  ·rintro r _ _ ⟨ro',gn',_,rfl,rfl⟩ s hs
   exact⟨a0O hs,a0O hs⟩
  ·rintro r _ _ ⟨ro',gn',k,rfl,rfl⟩
   obtain⟨y,hy,hk⟩:=node r ro' gn' k
   obtain rfl:=b7M hpv hx (back _ _ _ _ k hy)
   have ho2:=hin.2.1 r ro' gn' k
   have e:doD p ((⟨st.sl,ro',gn'⟩:St).put o.dst r) x=(⟨(doD p st x).sl,a1W W ro' (doD p st x).ro,a1W W gn' (doD p st x).gn⟩:St).put o.dst r:=by
    have er:a1W W ro' st.ro=ro':=a3h fun s hs=>(ho2 s hs).1
    have eg:a1W W gn' st.gn=gn':=a3h fun s hs=>(ho2 s hs).2
    have hm:=b4U (o:=p) (st:=st) (x:=x) (W:=W) (ro':=ro') (gn':=gn') (sl:=((⟨st.sl,ro',gn'⟩:St).put o.dst r).sl) hxW
    rw[er,eg]at hm
    have e0:(⟨((⟨st.sl,ro',gn'⟩:St).put o.dst r).sl,ro',gn'⟩:St)=(⟨st.sl,ro',gn'⟩:St).put o.dst r:=b2g rfl (by rw[St.put_ro]) (by rw[St.put_gn])
    rw[e0]at hm
    refine b2g ?_ ?_ ?_
    ·rw[a7m (fun d hd he=>a2 d he hd)];exact(a5u (doD p st x) _ _ _ _).symm
    ·rw[hm.1,St.put_ro]
    ·rw[hm.2,St.put_gn]
   rw[←e];exact hk
theorem b0b{G:Nat→FP}{Q:St→Prop}{i:Nat}{p:Oper}(hp:ops[i]?=some p): ∀(l1 l2:List Nat) {st:St},
  (∀j,j∈l1→j<i∧a7R ops ops.size j i=false∧ ∃o,ops[j]?=some o∧o.apart ops p=true∧(G j).apart (G i)=true)→PD C rid ops G Q (l1++i::l2) st→PD C rid ops G Q (i::(l1++l2)) st
 | [],_,_,_,h=>h
 |j::l1,l2,st,hap,h=>by
  obtain⟨hji,hb,o,ho,ha,hg⟩:=hap j (by simp)
  have ih: ∀ {st:St},PD C rid ops G Q (l1++i::l2) st→PD C rid ops G Q (i::(l1++l2)) st:=fun h=>b0b hp l1 l2 (fun k hk=>hap k (by simp[hk])) h
  refine c4V ho hp hji ha hg hb ?_
  obtain⟨o',ho',h⟩:=h
  refine⟨o',ho',?_⟩
  rcases h with⟨x,hx,h⟩|⟨Po,R,W,hw,hin,hG,h⟩
  ·exact .inl ⟨x,hx,ih h⟩
  ·exact .inr ⟨Po,R,W,hw,hin,hG,fun r ro' gn' k=>ih (h r ro' gn' k)⟩
theorem a3X{fin:List FP}{Q:St→Prop}: ∀(l:List Oper) (i:Nat) {st:St},(∀k o,l[k]?=some o→ops[i+k]?=some o)→a9C C rid ops fin l i Q st→
  PD C rid ops (fun k=>fin.getD k fp0) Q (List.range' i l.length) st
 | [],i,st,_,h=>h
 |o::l,i,st,hl,h=>by
  have ho:ops[i]?=some o:=hl 0 o rfl
  have hl': ∀k p,l[k]?=some p→ops[i+1+k]?=some p:=fun k p hp=>by have:=hl (k+1) p (by simpa using hp);rw[show i+1+k=i+(k+1) by omega];exact this
  rw[List.length_cons,List.range'_succ]
  refine⟨o,ho,?_⟩
  have hg: ∀F,fin[i]?=some F→fin.getD i fp0=F:=fun F hF=>by rw[List.getD_eq_getElem?_getD,hF];rfl
  simp only[a9C]at h
  cases hw:zbl ops o st with
  |none=>simp[hw]at h
  |some t=>
   cases t
   ·simp only[hw]at h
    obtain⟨⟨F,e1,e2⟩,h2⟩:=h
    exact .inl ⟨none,⟨_,⟨hw,rfl⟩,by show FP.le _ (fin.getD i fp0);rw[hg _ e1];exact e2⟩,a3X l (i+1) hl' h2⟩
   ·simp only[hw]at h
    rcases h with⟨e,h1,⟨F,e1,e2⟩,h3⟩|⟨Po,R,W,h1,h2,h3⟩
    ·exact .inl ⟨some e,⟨_,⟨hw,h1,rfl⟩,by show FP.le _ (fin.getD i fp0);rw[hg _ e1];exact e2⟩,a3X l (i+1) hl' h3⟩
    ·exact .inr ⟨Po,R,W,rfl,h1,hg _ h2,fun r ro' gn' k=>a3X l (i+1) hl' (h3 r ro' gn' k)⟩
variable{w0:World}{A0:Nat→Prop}{F0:List Nat}{cS:Cx}{n:Nat}
theorem b4k(T:TOK C.P C.ti)(hI:a4w C){G:Nat→FP}{Qs:St→Prop}{Q:Exit→Act→World→Prop}(hdst: ∀o,o∈ops.toList→ ∀t,o.dst=some t→t<n)
  (hbk: ∀i o,ops[i]?=some o→ ∀e,e∈o.after→Region.binds .any e=true→e.on<i)
  (hok: ∀i j o p,j<i→ops[j]?=some o→ops[i]?=some p→(o.apart ops p=true∧(G j).apart (G i)=true)∨a7R ops ops.size j i=true)
  (hQ: ∀st a c Φ,Qs st→SR w0 A0 F0 cS n st a c Φ→Q .normal a c.w): ∀(fuel:Nat) (L:List Nat) (listed:Array Bool) {st:St} {a:Act} {c:Cx} {Φ:Nat→Nat→List Nat},L.length=fuel→listed.size=ops.size→L.Pairwise (· <·)→
  (∀i,i∈L↔i<ops.size∧listed.getD i false=false)→(∀k o,ops[k]?=some o→listed.getD k false=true→ ∀e,e∈o.after→Region.binds .any e=true→listed.getD e.on false=true)→
  PD C rid ops G Qs L st→SR w0 A0 F0 cS n st a c Φ→wpAny C.P .any ops Q fuel listed a c.w
 |0,L,listed,st,a,c,Φ,hlen,hsz,hpw,hL,hcl,ht,hs=>by
  obtain rfl:=List.length_eq_zero_iff.1 hlen
  refine⟨?_,?_⟩
  ·unfold Region.ready
   rw[List.filter_eq_nil_iff]
   intro i hi
   have hi':i<ops.size:=by simpa using hi
   have:listed.getD i false=true:=by
    cases hb:listed.getD i false with
    |true=>rfl
    |false=>have:=(hL i).2 ⟨hi',hb⟩;cases this
   have h2:listed.getD i true=true:=by
    have hlt:i<listed.size:=by omega
    simp only[Array.getD,hlt,dif_pos]at this ⊢;exact this
   simp[h2]
  ·exact hQ _ _ _ _ ht hs
 |fuel+1,L,listed,st,a,c,Φ,hlen,hsz,hpw,hL,hcl,ht,hs=>by
  have hY9: ∀i,i∈Region.ready .any ops listed↔i∈L∧ ∀o,ops[i]?=some o→ ∀e,e∈o.after→Region.binds .any e=true→listed.getD e.on false=true:=by
   intro i
   unfold Region.ready
   rw[List.mem_filter,hL,List.mem_range]
   constructor
   ·rintro⟨hi,h⟩
    simp only[Bool.and_eq_true,Bool.not_eq_true']at h
    refine⟨⟨hi,?_⟩,?_⟩
    ·have hlt:i<listed.size:=by omega
     have:=h.1
     simp only[Array.getD,hlt,dif_pos]at this ⊢;exact this
    ·intro o ho e he hb
     have h2:=h.2
     rw[ho]at h2
     simp only[Option.map_some,Option.getD_some,Array.all_eq_true_iff_forall_mem,Bool.or_eq_true,Bool.not_eq_true']at h2
     rcases h2 e he with h3|h3
     ·rw[hb]at h3;cases h3
     ·exact h3
   ·rintro⟨⟨hi,h1⟩,h2⟩
    refine⟨hi,?_⟩
    simp only[Bool.and_eq_true,Bool.not_eq_true']
    refine⟨?_,?_⟩
    ·have hlt:i<listed.size:=by omega
     simp only[Array.getD,hlt,dif_pos]at h1 ⊢;exact h1
    ·have ho:ops[i]?=some ops[i]:=by simp[hi]
     rw[ho]
     simp only[Option.map_some,Option.getD_some,Array.all_eq_true_iff_forall_mem,Bool.or_eq_true,Bool.not_eq_true']
     intro e he
     cases hb:Region.binds .any e with
     |false=>exact .inl rfl
     |true=>exact .inr (h2 _ ho e he hb)
  refine⟨fun hnil=>?_,fun i hi=>?_⟩
  ·exfalso
   cases L with
   |nil=>simp at hlen
   |cons x t=>
    have hx:x∈Region.ready .any ops listed:=by
     rw[hY9]
     refine⟨by simp,fun o ho e he hb=>?_⟩
     have hlt:=hbk x o ho e he hb
     have hxs:x<ops.size:=((hL x).1 (by simp)).1
     cases hl:listed.getD e.on false with
     |true=>rfl
     |false=>
      have hm:=(hL e.on).2 ⟨by omega,hl⟩
      rcases List.mem_cons.1 hm with h|h
      ·omega
      ·have:=(List.pairwise_cons.1 hpw).1 _ h;omega
    rw[hnil]at hx;cases hx
  ·obtain⟨hiL,hie⟩:=(hY9 i).1 hi
   have his:=((hL i).1 hiL).1
   have hio:ops[i]?=some ops[i]:=by simp[his]
   obtain⟨l1,l2,rfl⟩:=List.append_of_mem hiL
   have hpw':=List.pairwise_append.1 hpw
   have hb:=b0b hio l1 l2 (fun j hj=>by
    have hji:j<i:=hpw'.2.2 j hj i (by simp)
    have hjs:j<ops.size:=by omega
    have hjo:ops[j]?=some ops[j]:=by simp[hjs]
    have hnb:a7R ops ops.size j i=false:=by
     cases h:a7R ops ops.size j i with
     |false=>rfl
     |true=>
      have h1:=a2H hcl _ _ _ h hie
      have h2:=((hL j).1 (by simp[hj])).2
      rw[h1]at h2;cases h2
    refine⟨hji,hnb,_,hjo,?_⟩
    rcases hok i j _ _ hji hjo hio with h|h
    ·exact h
    ·rw[hnb]at h;cases h) ht
   obtain⟨o,ho,hb⟩:=hb
   rw[hio]at ho
   obtain rfl:=Option.some.inj ho
   have hrec: ∀st' a' c' Φ',PD C rid ops G Qs (l1++l2) st'→SR w0 A0 F0 cS n st' a' c' Φ'→wpAny C.P .any ops Q fuel (listed.setIfInBounds i true) a' c'.w:=fun st' a' c' Φ' ht' h'=>
    b4k T hI hdst hbk hok hQ fuel (l1++l2) (listed.setIfInBounds i true) (by simp at hlen ⊢;omega) (by simp[hsz])
     (hpw.sublist (List.Sublist.append (List.Sublist.refl _) (List.sublist_cons_self _ _)))
     (fun k=>by
      have hk:=hL k
      have hnd:=hpw.imp (fun {a b} (h:a<b)=>Nat.ne_of_lt h)
      have hil:i<listed.size:=by omega
      by_cases e:k=i
      ·subst e
       have h1:k∉l1++l2:=by
        intro hm
        rcases List.mem_append.1 hm with hm|hm
        ·exact absurd (hpw'.2.2 k hm k (by simp)) (by omega)
        ·exact absurd ((List.pairwise_cons.1 hpw'.2.1).1 k hm) (by omega)
       refine⟨fun h=>absurd h h1,fun h=>?_⟩
       have:=h.2
       simp[Array.getD_eq_getD_getElem?,hil]at this
      ·have h1:(k∈l1++l2)↔k∈l1++i::l2:=by simp[e]
       rw[h1,hk]
       have:(listed.setIfInBounds i true).getD k false=listed.getD k false:=by
        simp only[Array.getD_eq_getD_getElem?,Array.getElem?_setIfInBounds_ne (fun h=>e h.symm)]
       rw[this])
     (fun k o2 hok2 hk e he hb'=>by
      have hil:i<listed.size:=by omega
      have hM9: ∀m,listed.getD m false=true→(listed.setIfInBounds i true).getD m false=true:=by
       intro m hm
       by_cases e:m=i
       ·subst e;simp[Array.getD_eq_getD_getElem?,hil]
       ·simp only[Array.getD_eq_getD_getElem?,Array.getElem?_setIfInBounds_ne (fun h=>e h.symm)]at hm ⊢;exact hm
      by_cases ek:k=i
      ·subst ek
       exact hM9 _ (hie o2 hok2 e he hb')
      ·refine hM9 _ (hcl k o2 hok2 ?_ e he hb')
       simp only[Array.getD_eq_getD_getElem?,Array.getElem?_setIfInBounds_ne (fun h=>ek h.symm)]at hk ⊢;exact hk)
     ht' h'
   unfold wpOp
   simp only[hio]
   rcases hb with⟨x,hc,ht'⟩|⟨Po,R,W,hw,hin,_,ht'⟩
   ·have hst:=a5n T hs (hdst ops[i] (by simp)) (a4X hc.choose_spec.1) (K:=wpAny C.P .any ops Q fuel (listed.setIfInBounds i true)) (Q:=Q) (fun a' c' Φ' h'=>hrec _ a' c' Φ' ht' h')
    split
    ·rename_i hw;rw[if_pos hw]at hst;exact .inl hst
    ·rename_i hw;rw[if_neg hw]at hst;exact hst
   ·have hir:=hin.1 st.ro st.gn (fun _ _=>rfl) fun _ _=>rfl
    rw[b3n]at hir
    have hst:=a4e (o:=ops[i]) hI hs (hdst ops[i] (by simp)) (.inl hir) (K:=wpAny C.P .any ops Q fuel (listed.setIfInBounds i true)) (Q:=Q) (fun r ro' gn' hP a' c' Φ' h'=>by
     obtain⟨ro2,gn2,k,rfl,rfl⟩:=hP
     have k2:=hin.2.1 r ro2 gn2 k
     rw[a3h fun s hs=>(k2 s hs).1,a3h fun s hs=>(k2 s hs).2]at h'
     exact hrec _ a' c' Φ' (ht' r ro2 gn2 k) h')
    rw[if_pos (a5g hs hw)]
    exact .inl hst
theorem c1s(T:TOK C.P C.ti)(hI:a4w C)(hm:C.P.follows .mixedOrders=true){K:Exit→Act→World→Prop}{Q:St→Prop}{st:St}{a:Act}{c:Cx}{Φ:Nat→Nat→List Nat}(h:SR w0 A0 F0 cS n st a c Φ)
  (hdst: ∀o,o∈ops.toList→ ∀t,o.dst=some t→t<n) {fps:List FP} (hlen':fps.length=ops.size) (hok:okD ops fps=true) (hq:a9C C rid ops fps ops.toList 0 Q st)
  (hK: ∀st' a' c' Φ',SR w0 A0 F0 cS n st' a' c' Φ'→Q st'→K .normal a' c'.w):(Code.region rid ops true).wp C.P K a c.w:=by
 have ht:=a3X ops.toList 0 (fun k o hk=>by simpa using hk) hq
 obtain⟨c',Φ',hw',hs'⟩:=h.drawn (c.w.drawn+1) (Nat.le_succ _)
 refine wp_region_any hm ?_
 rw[←hw']
 unfold okD at hok
 rw[List.all_eq_true]at hok
 refine b4k T hI (G:=fun k=>fps.getD k fp0) (Qs:=Q) hdst ?_ ?_ (fun st' a' c' Φ' hq' h'=>hK _ _ _ _ h' hq') ops.size (List.range' 0 ops.toList.length) _ (by simp) (by simp) (List.pairwise_lt_range' ..) ?_ ?_ ht hs'
 ·intro i o ho e he hb
  have hi:i<ops.size:=by
   rcases Nat.lt_or_ge i ops.size with h|h
   ·exact h
   ·rw[Array.getElem?_eq_none h]at ho;cases ho
  have:=hok i (by simpa using hi)
  simp only[ho,Bool.and_eq_true]at this
  have:=List.all_eq_true.1 this.1 e (by simpa using he)
  simpa [hb]using this
 ·intro i j o p hji hj hi
  have his:i<ops.size:=by
   rcases Nat.lt_or_ge i ops.size with h|h
   ·exact h
   ·rw[Array.getElem?_eq_none h]at hi;cases hi
  have:=hok i (by simpa using his)
  simp only[hi,Bool.and_eq_true]at this
  have:=List.all_eq_true.1 this.2 j (by simpa using hji)
  unfold a7r at this
  have e1:fps[j]?=some (fps[j]'(by omega)):=List.getElem?_eq_getElem _
  have e2:fps[i]?=some (fps[i]'(by omega)):=List.getElem?_eq_getElem _
  simp only[hi,hj,e1,e2,Bool.or_eq_true,Bool.and_eq_true]at this
  simp only[List.getD_eq_getElem?_getD,e1,e2,Option.getD_some]
  exact this
 ·intro i
  rw[List.mem_range'_1]
  simp only[Array.length_toList,Array.getD_eq_getD_getElem?,Array.getElem?_replicate]
  constructor
  ·intro h;exact⟨by omega,by split<;>rfl⟩
  ·intro h;omega
 ·intro k o _ hk
  simp only[Array.getD_eq_getD_getElem?,Array.getElem?_replicate]at hk
  split at hk<;>cases hk
end
theorem Sim.sub{w0 A0 F0 c Φ R R'}(h:Sim w0 A0 F0 c Φ R)(hs: ∀x,x∈R'→x∈R):Sim w0 A0 F0 c Φ R':=
 ⟨h.rt,h.no,h.dj,h.own,fun s g x hx hr=>h.rd s g x hx (hs x hr),fun x hx=>h.rown x (hs x hx),h.a0,h.al,h.bw,h.gd⟩
def c4y:Value→Nat×Nat
 | .slice (some a) _ _=>(a.block,a.off)
 |_=>(0,0)
theorem a0h.rows{c:Cx}: ∀ {rows:List (List AV)} {us F},a0h c (rows.map .row) us F→
  ∃Fs:Nat→List Nat,(∀i r,rows[i]?=some r→ ∃u,us[i]?=some u∧Rel c (.row r) u (Fs i))∧(∀i x,x∈Fs i→x∈F)∧ ∀i j,i≠j→ ∀x,x∈Fs i→x∉Fs j
 | [],us,F,h=>⟨fun _=>[],by simp,by simp,by simp⟩
 |r::rows,us,F,h=>by
  obtain⟨v,vs',Fa,G',rfl,rfl,hv,hvs,hd⟩:=a0h.uncons h
  obtain⟨Fs,h1,h2,h3⟩:=a0h.rows hvs
  refine⟨fun i=>match i with|0=>Fa|i+1=>Fs i,?_,?_,?_⟩
  ·intro i r' hr
   cases i with
   |zero=>simp at hr;subst hr;exact⟨v,rfl,hv⟩
   |succ i=>simpa using h1 i r' (by simpa using hr)
  ·intro i x hx
   cases i with
   |zero=>exact List.mem_append.2 (.inl hx)
   |succ i=>exact List.mem_append.2 (.inr (h2 i x hx))
  ·intro i j hij x hx hy
   cases i with
   |zero=>
    cases j with
    |zero=>exact hij rfl
    |succ j=>exact hd x hx (h2 j x hy)
   |succ i=>
    cases j with
    |zero=>exact hd x hy (h2 i x hx)
    |succ j=>exact h3 i j (by omega) x hx hy
theorem a9R{r r':Ro}{s g:Nat}(h:r s g=r' s g)(p:List Nat):r.cells s g p=r'.cells s g p:=by
 cases p<;>simp[Ro.cells,Ro.at,h]
theorem a8I{c:Cx}{b:Nat}: ∀ {l:List Nat} {f:Nat→AV} {us:List Value} (_:l.length=us.length) (_: ∀(i k:Nat),l[i]?=some k→ ∀u:Value,us[i]?=some u→Rel c (f k) u []),a0h c (l.map f) us []
 | [],f,us,h,_=>by cases us<;>simp_all;exact .nil
 |k::l,f,[],h,_=>by simp at h
 |k::l,f,u::us,h,hr=>by
  have:=a0h.cons (hr 0 k rfl u rfl) (a8I (c:=c) (b:=b) (l:=l) (f:=f) (us:=us) (by simpa using h) fun i k hk u hu=>hr (i+1) k (by simpa using hk) u (by simpa using hu)) (by simp)
  simpa using this
theorem a0h.frz{c c':Cx}{as us F}(h:a0h c as us F)(hw:c'.w=c.w):a2R as=true→(∀x,x∈F→ ¬c'.A x)→a0h c' (a6U as) us []:=by
 induction h with
 |nil=>intro _ _;exact .nil
 |sc v _ ih=>intro hn hA;exact .sc v (ih (by simpa [a2R,noI]using hn) hA)
 |dead v _ ih=>intro hn hA;exact .dead v (ih (by simpa [a2R,noI]using hn) hA)
 |imm g b cap _ h2 h3 _ ih1 ih=>intro hn;simp[a2R,noI]at hn
 |row g b cap _ h2 h3 h4 _ ih1 ih=>
  intro hn hA
  simp only[a2R,noI,Bool.and_eq_true]at hn
  have hg:g<c.w.heap.size:=h2.lt
  refine .imm g b cap (ih1 hn.1 fun x hx=>hA x (by simp[hx])) ⟨hA g (by simp),by rw[hw];exact hg,fun i u hu=>by rw[hw];exact h2.cell hu⟩ (by obtain⟨_,_,_,_,h5,_⟩:=h2;exact h5) (ih hn.2 fun x hx=>hA x (by simp[hx]))
 |bx g b cap _ h2 h3 h4 _ ih1 ih=>
  intro hn hA
  simp only[a2R,noI,Bool.and_eq_true]at hn
  have hg:g<c.w.heap.size:=h2.lt
  exact .iptr g b (ih1 hn.1 fun x hx=>hA x (by simp[hx])) ⟨hA g (by simp),by rw[hw];exact hg,fun i u hu=>by rw[hw];exact h2.cell hu⟩ (ih hn.2 fun x hx=>hA x (by simp[hx]))
 |ref s g p off n v _ _ _ ih=>intro hn;simp[a2R,noI]at hn
 |ptr s g p i v _ _ _ ih=>intro hn;simp[a2R,noI]at hn
 |iptr g b _ h2 _ ih1 ih=>intro hn;simp[a2R,noI]at hn
 |agg _ h2 _ ih1 ih=>
  intro hn hA
  simp only[a2R,noI,Bool.and_eq_true]at hn
  have:=a0h.agg (c:=c') (ih1 hn.1 fun x hx=>hA x (by simp[hx])) (by simp) (ih hn.2 fun x hx=>hA x (by simp[hx]))
  simpa [a6U,b3e]using this
 |tup _ h2 _ ih1 ih=>
  intro hn hA
  simp only[a2R,noI,Bool.and_eq_true]at hn
  have:=a0h.tup (c:=c') (ih1 hn.1 fun x hx=>hA x (by simp[hx])) (by simp) (ih hn.2 fun x hx=>hA x (by simp[hx]))
  simpa [a6U,b3e]using this
 |fn f h1 _ ih1 ih=>
  intro hn hA
  simp only[a2R,noI,Bool.and_eq_true]at hn
  exact .fn f (h1.ctxI hw hn.1) (ih hn.2 hA)
 |immk k g b n cap _ _ _ _ _ _ ih=>intro hn;simp[a2R,noI]at hn
 |refk k s g n v _ _ _ ih=>intro hn;simp[a2R,noI]at hn
theorem SR.ghost{w0:World}{A0:Nat→Prop}{F0:List Nat}{cS:Cx}{n:Nat}{st st':St}{a:Act}{c:Cx}{Φ:Nat→Nat→List Nat}(h:SR w0 A0 F0 cS n st a c Φ)(hG:Gh st st'):
  ∃c' Φ',c'.w=c.w∧SR w0 A0 F0 cS n st' a c' Φ':=by
 cases hG with
 |refl=>exact⟨c,Φ,rfl,h⟩
 |frz s g cs hro hno=>
  have hro':c.ro s g=some (.bx cs):=by rw[h.ro];exact hro
  obtain⟨hg,v,hv,hh⟩:=h.sim.rt s g _ hro'
  obtain⟨g1,b1,cap,us,F',rfl,hF,h1,h2,h3⟩:=Rel.bx_inv hv
  obtain rfl:F'=[]:=a0h.own0 h1 hno
  simp only[hd,Value.pointer.injEq,Option.some.injEq,Addr.mk.injEq]at hh
  obtain⟨l1,l2, -⟩:=hh
  let c':Cx:=⟨c.w,fun x=>c.A x∧x≠g1,upr c.ro s g .dead,c.gn,c.L⟩
  let Φ':Nat→Nat→List Nat:=fun s' g'=>if s'=s∧g'=g then []else Φ s' g'
  have hP:=h.sim.keepP c' (fun s' g' p cs' hg' hcs'=>by
   by_cases e:s'=s∧g'=g
   ·obtain⟨rfl,rfl⟩:=e
    exfalso
    have hcs'':Ro.cells (upr c.ro s' g' .dead) s' g' p=some cs':=hcs'
    revert hcs''
    cases p<;>simp[Ro.cells,Ro.at,upr,blk,ath]
   ·have hcs'':Ro.cells (upr c.ro s g .dead) s' g' p=some cs':=hcs'
    rw[a1X e]at hcs''
    exact⟨cs',hcs'',Nat.le_refl _,rfl,fun _ _=>rfl⟩)
  have k:a1y c c':=⟨Nat.le_refl _,fun _ _ h=>h.1,fun _ _ _=>rfl,fun _=>Nat.le_refl _,hP⟩
  have hgF:g1∈Φ s g:=by rw[hF];simp
  refine⟨c',Φ',rfl,⟨⟨fun s' g' a ha=>?_,fun s' g' ha=>?_,fun s1 g2 s2 g3 hne x hx=>?_,fun s' g' x hx=>?_,fun s' g' x hx=>(by simp),fun x hx=>(by cases hx),fun x hx=>⟨h.sim.a0 x hx,fun e=>?_⟩,fun x hx=>h.sim.al x hx.1,h.sim.bw,h.sim.gd⟩,h.kp.trans k,?_,h.gn,fun j=>?_,h.df.mono k,h.sz⟩⟩
  ·have ha':upr c.ro s g .dead s' g'=some a:=ha
   by_cases e:s'=s∧g'=g
   ·obtain⟨rfl,rfl⟩:=e
    simp[upr]at ha'
    subst ha'
    exact⟨hg,undef,by show Rel c' _ _ (if _ then _ else _);rw[if_pos ⟨rfl,rfl⟩];exact a0h.dead _ .nil,trivial⟩
   ·simp only[upr,e,if_false]at ha'
    obtain⟨q1,u,q2,q3⟩:=h.sim.rt s' g' a ha'
    exact⟨q1,u,by show Rel c' _ _ (if _ then _ else _);rw[if_neg e];exact q2.mono k (fun _ _=>rfl),q3⟩
  ·show (if _ then _ else _)=_
   by_cases e:s'=s∧g'=g
   ·rw[if_pos e]
   ·rw[if_neg e]
    have ha':upr c.ro s g .dead s' g'=none:=ha
    simp only[upr,e,if_false]at ha'
    exact h.sim.no s' g' ha'
  ·have hx':x∈(if s1=s∧g2=g then []else Φ s1 g2):=hx
   show x∉(if _ then _ else _)
   by_cases e1:s1=s∧g2=g
   ·rw[if_pos e1]at hx';cases hx'
   ·rw[if_neg e1]at hx'
    by_cases e2:s2=s∧g3=g
    ·rw[if_pos e2];simp
    ·rw[if_neg e2];exact h.sim.dj _ _ _ _ hne x hx'
  ·have hx':x∈(if s'=s∧g'=g then []else Φ s' g'):=hx
   by_cases e1:s'=s∧g'=g
   ·rw[if_pos e1]at hx';cases hx'
   ·rw[if_neg e1]at hx'
    obtain⟨q1,q2,q3⟩:=h.sim.own s' g' x hx'
    exact⟨⟨q1,fun e=>h.sim.dj _ _ _ _ e1 x hx' (by rw[e];exact hgF)⟩,q2,q3⟩
  ·exact(h.sim.own s g g1 hgF).2.1 (e▸hx)
  ·show upr c.ro s g .dead=upr st.ro s g .dead
   rw[h.ro]
  ·show Rel c' (c5i s g cs (st.sl j)) _ []
   have hj:=h.sl j
   cases hsj:st.sl j
   case refk k' s' g' n'=>
    rw[hsj]at hj
    simp only[c5i]
    by_cases e:s'=s∧g'=g
    ·obtain⟨rfl,rfl⟩:=e
     rw[if_pos ⟨rfl,rfl⟩]
     obtain⟨_,q2⟩:=Rel.refk_inv hj
     obtain⟨⟨cap',arr,E,q3,q4,q5,q6,q7⟩,q8⟩:=q2 cs (by simp[Ro.cells,hro',blk])
     rw[q3]
     have hc:=h1.cut0 0 (k'*n')
     simp only[List.drop_zero]at hc
     have hl:=h1.len
     rw[←l1, ←l2]
     exact .immk k' g1 b1 n' cap' (hc.mono k (by simp)) ⟨fun h=>h.2 rfl,h2.lt,fun i u hu=>by
      rw[List.getElem?_take]at hu
      split at hu
      ·exact h2.cell hu
      ·cases hu⟩ (by rw[List.length_take];omega) q6 .nil
    ·rw[if_neg e]
     exact hj.mono k (by simp)
   all_goals (rw[hsj]at hj;exact hj.mono k (by simp))
 |frzR s g cs hro hno=>
  have hro':c.ro s g=some (.row cs):=by rw[h.ro];exact hro
  obtain⟨hg,v,hv,hh⟩:=h.sim.rt s g _ hro'
  obtain⟨g1,b1,cap,us,F',rfl,hF,h1,h2,h3⟩:=Rel.row_inv hv
  obtain⟨cap0,hh⟩:=hh
  simp only[Value.slice.injEq,Option.some.injEq,Addr.mk.injEq]at hh
  obtain⟨⟨l1,l2, -⟩, -, -⟩:=hh
  let c':Cx:=⟨c.w,fun x=>c.A x∧x∉Φ s g,upr c.ro s g .dead,c.gn,c.L⟩
  let Φ':Nat→Nat→List Nat:=fun s' g'=>if s'=s∧g'=g then []else Φ s' g'
  have hP:=h.sim.keepP c' (fun s' g' p cs' hg' hcs'=>by
   by_cases e:s'=s∧g'=g
   ·obtain⟨rfl,rfl⟩:=e
    exfalso
    have hcs'':Ro.cells (upr c.ro s' g' .dead) s' g' p=some cs':=hcs'
    revert hcs''
    cases p<;>simp[Ro.cells,Ro.at,upr,blk,ath]
   ·have hcs'':Ro.cells (upr c.ro s g .dead) s' g' p=some cs':=hcs'
    rw[a1X e]at hcs''
    exact⟨cs',hcs'',Nat.le_refl _,rfl,fun _ _=>rfl⟩)
  have k:a1y c c':=⟨Nat.le_refl _,fun _ _ h=>h.1,fun _ _ _=>rfl,fun _=>Nat.le_refl _,hP⟩
  refine⟨c',Φ',rfl,⟨⟨fun s' g' a ha=>?_,fun s' g' ha=>?_,fun s1 g2 s2 g3 hne x hx=>?_,fun s' g' x hx=>?_,fun s' g' x hx=>(by simp),fun x hx=>(by cases hx),fun x hx=>⟨h.sim.a0 x hx,fun e=>(h.sim.own s g x e).2.1 hx⟩,fun x hx=>h.sim.al x hx.1,h.sim.bw,h.sim.gd⟩,h.kp.trans k,?_,h.gn,fun j=>?_,h.df.mono k,h.sz⟩⟩
  ·have ha':upr c.ro s g .dead s' g'=some a:=ha
   by_cases e:s'=s∧g'=g
   ·obtain⟨rfl,rfl⟩:=e
    simp[upr]at ha'
    subst ha'
    exact⟨hg,undef,by show Rel c' _ _ (if _ then _ else _);rw[if_pos ⟨rfl,rfl⟩];exact a0h.dead _ .nil,trivial⟩
   ·simp only[upr,e,if_false]at ha'
    obtain⟨q1,u,q2,q3⟩:=h.sim.rt s' g' a ha'
    exact⟨q1,u,by show Rel c' _ _ (if _ then _ else _);rw[if_neg e];exact q2.mono k (fun _ _=>rfl),q3⟩
  ·show (if _ then _ else _)=_
   by_cases e:s'=s∧g'=g
   ·rw[if_pos e]
   ·rw[if_neg e]
    have ha':upr c.ro s g .dead s' g'=none:=ha
    simp only[upr,e,if_false]at ha'
    exact h.sim.no s' g' ha'
  ·have hx':x∈(if s1=s∧g2=g then []else Φ s1 g2):=hx
   show x∉(if _ then _ else _)
   by_cases e1:s1=s∧g2=g
   ·rw[if_pos e1]at hx';cases hx'
   ·rw[if_neg e1]at hx'
    by_cases e2:s2=s∧g3=g
    ·rw[if_pos e2];simp
    ·rw[if_neg e2];exact h.sim.dj _ _ _ _ hne x hx'
  ·have hx':x∈(if s'=s∧g'=g then []else Φ s' g'):=hx
   by_cases e1:s'=s∧g'=g
   ·rw[if_pos e1]at hx';cases hx'
   ·rw[if_neg e1]at hx'
    obtain⟨q1,q2,q3⟩:=h.sim.own s' g' x hx'
    exact⟨⟨q1,fun e=>h.sim.dj _ _ _ _ e1 x hx' e⟩,q2,q3⟩
  ·show upr c.ro s g .dead=upr st.ro s g .dead
   rw[h.ro]
  ·show Rel c' (c4X s g cs (st.sl j)) _ []
   have hj:=h.sl j
   have hm:=hj.mono k (by simp)
   unfold c4X
   split
   ·rename_i s' g' n' e0
    split
    ·rename_i e
     obtain⟨rfl,rfl,rfl⟩:=e
     rw[e0]at hj
     obtain⟨_,q2⟩:=Rel.ref_inv hj
     obtain⟨x,q3,⟨b',cap',arr,E,q4,q5,q6,q7,q8,q9⟩,q10⟩:=q2 cs (by simp[Ro.cells,hro',blk])
     simp only[locp,Option.some.injEq]at q3
     subst q3
     have hl:=h1.len
     have hz:=a0h.frz (c':=c') h1 rfl hno (fun x hx ha=>ha.2 (by rw[hF];simp[hx]))
     rw[q4,hl]
     have hg1: ¬c'.A g1:=fun ha=>ha.2 (by rw[hF];simp)
     refine .imm _ b' cap' hz ⟨by rw[←l1];exact hg1,by rw[←l1];exact h2.lt,fun i u hu=>?_⟩ (by omega) .nil
     have hi:=(List.getElem?_eq_some_iff.1 hu).1
     rcases q5 with q5|q5
     ·rw[q5,Nat.add_zero, ←l1, ←l2];exact h2.cell hu
     ·omega
    ·rename_i e
     rw[e0]at hm
     exact hm
   ·exact hm
 |unp s g b m R hsb hro=>
  have hro':c.ro s g=some (.row ((List.range m).map fun i=> .row (R i))):=by rw[h.ro];exact hro
  obtain⟨hg,v,hv,hh⟩:=h.sim.rt s g _ hro'
  obtain⟨g1,b1,cap,us,F',rfl,hF,h1,h2,h3⟩:=Rel.row_inv hv
  obtain⟨cap',e⟩:=hh
  simp only[Value.slice.injEq,Option.some.injEq,Addr.mk.injEq]at e
  obtain⟨⟨e1,e2,_⟩,_,_⟩:=e
  have h1':a0h c (((List.range m).map R).map .row) us F':=by rw[List.map_map];exact h1
  obtain⟨Fs,k1,k2,k3⟩:=a0h.rows h1'
  have hul:us.length=m:=by have:=h1.len;simpa using this.symm
  have hgn:=h.gn
  have kk: ∀i,i<m→ ∃u,us[i]?=some u∧Rel c (.row (R i)) u (Fs i):=fun i hi=>k1 i (R i) (by simp[hi])
  let N:Nat→Nat→Prop:=fun s' g'=>s'=b∧st.gn b<g'∧g'≤st.gn b+m
  let c':Cx:=⟨c.w,c.A,(unp st s g b m R).ro,(unp st s g b m R).gn,fun s' g'=>if s'=b∧st.gn b<g'∧g'≤st.gn b+m then c4y (us.getD (g'-(st.gn b+1)) undef)else c.L s' g'⟩
  let Φ':Nat→Nat→List Nat:=fun s' g'=>if s'=s∧g'=g then [g1]else if s'=b∧st.gn b<g'∧g'≤st.gn b+m then Fs (g'-(st.gn b+1))else Φ s' g'
  have r1:c'.ro s g=some (.bx ((List.range m).map fun i=> .ref b (st.gn b+1+i) [] 0 (R i).length)):=by show (unp st s g b m R).ro s g=_;simp[unp]
  have r2: ∀i,i<m→c'.ro b (st.gn b+1+i)=some (.row (R i)):=by
   intro i hi
   show (unp st s g b m R).ro b _=_
   have: ¬(b=s∧st.gn b+1+i=g):=fun hx=>hsb hx.1.symm
   unfold unp;dsimp only
   rw[if_neg this,if_pos ⟨rfl,by omega,by omega⟩]
   congr 2
   congr 1
   omega
  have r3: ∀s' g', ¬(s'=s∧g'=g)→ ¬N s' g'→c'.ro s' g'=c.ro s' g':=by
   intro s' g' x y
   show (unp st s g b m R).ro s' g'=_
   unfold unp;dsimp only
   rw[if_neg x,if_neg y,h.ro]
  have l1: ∀s' g', ¬N s' g'→c'.L s' g'=c.L s' g':=fun s' g' y=>if_neg y
  have l2: ∀i,i<m→c'.L b (st.gn b+1+i)=c4y (us.getD i undef):=by
   intro i hi
   have:c'.L b (st.gn b+1+i)=c4y (us.getD (st.gn b+1+i-(st.gn b+1)) undef):=if_pos ⟨rfl,by omega,by omega⟩
   rw[this];congr 2;omega
  have p1:Φ' s g=[g1]:=if_pos ⟨rfl,rfl⟩
  have p2: ∀i,i<m→Φ' b (st.gn b+1+i)=Fs i:=by
   intro i hi
   show (if b=s∧st.gn b+1+i=g then [g1]else _)=_
   have: ¬(b=s∧st.gn b+1+i=g):=fun hx=>hsb hx.1.symm
   rw[if_neg this,if_pos ⟨rfl,by omega,by omega⟩]
   congr 1;omega
  have p3: ∀s' g', ¬(s'=s∧g'=g)→ ¬N s' g'→Φ' s' g'=Φ s' g':=by
   intro s' g' x y
   show (if s'=s∧g'=g then [g1]else _)=_
   rw[if_neg x,if_neg y]
  have old: ∀s' g',g'≤c.gn s'→ ¬N s' g':=by
   rintro s' g' hle ⟨rfl,x,_⟩
   rw[hgn]at hle
   omega
  have new: ∀s' g',N s' g'→ ∃i,i<m∧s'=b∧g'=st.gn b+1+i:=by
   rintro s' g' ⟨rfl,x,y⟩
   exact⟨g'-(st.gn s'+1),by omega,rfl,by omega⟩
  have g2: ∀s',c.gn s'≤c'.gn s':=by
   intro s'
   show c.gn s'≤upg st.gn b (st.gn b+m) s'
   rw[hgn]
   unfold upg
   split
   ·rename_i e;subst e;omega
   ·exact Nat.le_refl _
  have gb:c'.gn b=st.gn b+m:=by show upg st.gn b (st.gn b+m) b=_;simp[upg]
  have gs:c'.gn s=c.gn s:=by show upg st.gn b (st.gn b+m) s=_;rw[hgn];simp[upg,hsb]
  have hk:a1y c c':=by
   refine⟨Nat.le_refl _,fun _ _ h=>h,fun _ _ _=>rfl,g2,?_⟩
   intro s' g' p cs hle hc
   by_cases e:s'=s∧g'=g
   ·obtain⟨rfl,rfl⟩:=e
    cases p with
    |nil=>
     simp only[Ro.cells,r1,blk,Option.some.injEq]at hc
     subst hc
     refine⟨(List.range m).map fun i=> .row (R i),by simp only[Ro.cells,hro',blk],by simp,fun x hx=>⟨?_,fun off n v h=>h,siz.refl _ _⟩⟩
     rw[l1 _ _ (old _ _ hle)];exact hx
    |cons i q=>simp[Ro.cells,Ro.at,r1,ath]at hc
   ·have hN:=old _ _ hle
    have e3:=r3 _ _ e hN
    rw[a9R e3]at hc
    exact⟨cs,hc,Nat.le_refl _,fun x hx=>⟨by rw[l1 _ _ hN];exact hx,fun off n v h=>h,siz.refl _ _⟩⟩
  have mono: ∀ {av v F},Rel c av v F→Rel c' av v F:=fun hr=>a0h.mono hr hk (fun _ _=>rfl)
  have rowF: ∀i,i<m→ ∀x,x∈Fs i→x∈Φ s g:=fun i _ x hx=>by rw[hF];exact List.mem_cons_of_mem _ (k2 i x hx)
  have hdis: ∀i,i<m→g1∉Fs i:=fun i _ hx=>h3 (k2 i _ hx)
  -- cases of a place
  have kind: ∀s' g',(s'=s∧g'=g)∨(∃i,i<m∧s'=b∧g'=st.gn b+1+i)∨(¬(s'=s∧g'=g)∧ ¬N s' g'):=by
   intro s' g'
   by_cases x:s'=s∧g'=g
   ·exact .inl x
   ·by_cases y:N s' g'
    ·exact .inr (.inl (new _ _ y))
    ·exact .inr (.inr ⟨x,y⟩)
  have sub: ∀s' g',(¬(s'=s∧g'=g)∧ ¬N s' g')∨ ∀x,x∈Φ' s' g'→x∈Φ s g:=by
   intro s' g'
   rcases kind s' g' with⟨rfl,rfl⟩|⟨i,hi,rfl,rfl⟩|k
   ·right;intro x hx;rw[p1]at hx;rw[hF];simp at hx;simp[hx]
   ·right;intro x hx;rw[p2 i hi]at hx;exact rowF i hi x hx
   ·exact .inl k
  refine⟨c',Φ',rfl,⟨⟨?_,?_,?_,?_,?_,?_,h.sim.a0,h.sim.al,h.sim.bw,h.sim.gd⟩,h.kp.trans hk,rfl,rfl,fun k=>mono (h.sl k),h.df.mono hk,h.sz⟩⟩
  ·intro s' g' av hav
   rcases kind s' g' with⟨rfl,rfl⟩|⟨i,hi,rfl,rfl⟩|⟨x,y⟩
   ·rw[r1]at hav
    simp only[Option.some.injEq]at hav
    subst hav
    refine⟨by rw[gs];exact hg,.pointer (some ⟨g1,b1,none⟩),?_,?_⟩
    ·rw[p1]
     refine Rel.mk_bx g1 b1 cap (us:=us) (F:=[]) ?_ h2 (by simp)
     refine a8I (b:=b) (by simp[hul]) ?_
     intro i k hik u hu
     have hi:i<m:=by have:=(List.getElem?_eq_some_iff.1 hik).1;simpa using this
     have:k=i:=by simp[hi]at hik;exact hik.symm
     subst this
     obtain⟨u',q1,q2⟩:=kk k hi
     rw[q1]at hu
     simp only[Option.some.injEq]at hu
     subst hu
     obtain⟨g3,b3,cap3,us3,F3,rfl,q3,q4,q5,q6⟩:=Rel.row_inv q2
     refine .ref b _ [] 0 _ _ (by rw[gb];omega) ?_ .nil
     intro cs hcs
     simp only[Ro.cells,r2 k hi,blk,Option.some.injEq]at hcs
     subst hcs
     have hl:us3.length=(R k).length:=q4.len.symm
     obtain⟨arr,E,a1,a2,a3,a4,a5⟩:=q5
     refine⟨_,rfl,?_,by omega⟩
     rw[l2 k hi]
     have:us.getD k undef= .slice (some ⟨g3,b3,none⟩) us3.length cap3:=by rw[List.getD_eq_getElem?_getD,q1];rfl
     rw[this, ←hl]
     exact⟨b3,cap3,arr,E,rfl,.inl rfl,a1,a2,a3,a4⟩
    ·show Value.pointer _= .pointer _
     have:c'.L s' g'=c.L s' g':=l1 _ _ (old _ _ hg)
     rw[this, ←e1, ←e2]
   ·rw[r2 i hi]at hav
    simp only[Option.some.injEq]at hav
    subst hav
    obtain⟨u,q1,q2⟩:=kk i hi
    refine⟨by rw[gb];omega,u,by rw[p2 i hi];exact mono q2,?_⟩
    obtain⟨g3,b3,cap3,us3,F3,rfl,q3,q4,q5,q6⟩:=Rel.row_inv q2
    refine⟨cap3,?_⟩
    rw[l2 i hi]
    have:us.getD i undef= .slice (some ⟨g3,b3,none⟩) us3.length cap3:=by rw[List.getD_eq_getElem?_getD,q1];rfl
    rw[this,q4.len]
    rfl
   ·rw[r3 _ _ x y]at hav
    obtain⟨q1,v,q2,q3⟩:=h.sim.rt s' g' av hav
    exact⟨Nat.le_trans q1 (g2 s'),v,by rw[p3 _ _ x y];exact mono q2,by rw[l1 _ _ y];exact q3⟩
  ·intro s' g' hno
   rcases kind s' g' with⟨rfl,rfl⟩|⟨i,hi,rfl,rfl⟩|⟨x,y⟩
   ·rw[r1]at hno;cases hno
   ·rw[r2 i hi]at hno;cases hno
   ·rw[r3 _ _ x y]at hno
    rw[p3 _ _ x y];exact h.sim.no _ _ hno
  ·intro s' g' s2 g2' hne x hx hy
   have cross: ∀s3 g3, ¬(s3=s∧g3=g)→ ∀y,y∈Φ s g→y∉Φ s3 g3:=fun s3 g3 hx=>h.sim.dj _ _ _ _ (fun⟨a,b⟩=>hx ⟨a.symm,b.symm⟩)
   rcases kind s' g' with k1'|⟨i,hi,rfl,rfl⟩|k1'
   ·obtain⟨rfl,rfl⟩:=k1'
    rw[p1]at hx
    simp only[List.mem_singleton]at hx
    subst hx
    rcases kind s2 g2' with⟨rfl,rfl⟩|⟨j,hj,rfl,rfl⟩|⟨x2,y2⟩
    ·exact hne ⟨rfl,rfl⟩
    ·rw[p2 j hj]at hy;exact hdis j hj hy
    ·rw[p3 _ _ x2 y2]at hy;exact cross _ _ x2 x (by rw[hF];simp) hy
   ·rw[p2 i hi]at hx
    rcases kind s2 g2' with⟨rfl,rfl⟩|⟨j,hj,rfl,rfl⟩|⟨x2,y2⟩
    ·rw[p1]at hy;simp only[List.mem_singleton]at hy;subst hy;exact hdis i hi hx
    ·rw[p2 j hj]at hy
     exact k3 i j (fun e=>hne ⟨rfl,by rw[e]⟩) x hx hy
    ·rw[p3 _ _ x2 y2]at hy;exact cross _ _ x2 x (rowF i hi x hx) hy
   ·rw[p3 _ _ k1'.1 k1'.2]at hx
    rcases sub s2 g2' with⟨x2,y2⟩|hs
    ·rw[p3 _ _ x2 y2]at hy;exact h.sim.dj _ _ _ _ hne x hx hy
    ·exact cross _ _ k1'.1 x (hs x hy) hx
  ·intro s' g' x hx
   rcases sub s' g' with⟨x2,y2⟩|hs
   ·rw[p3 _ _ x2 y2]at hx;exact h.sim.own _ _ x hx
   ·exact h.sim.own _ _ x (hs x hx)
  ·intro s' g' x hx hr;cases hr
  ·intro x hr;cases hr
structure b3d(w w':World):Prop where
 size:w.heap.size≤w'.heap.size
 same: ∀(k:Nat) (arr:Array Value) (E:TypeId) (fr:Nat×Nat),w.heap[k]?=some (Obj.cells arr E fr)→w'.heap[k]?=some (Obj.cells arr E fr)
theorem b3d.cell{w w':World}(h:b3d w w'){a:Addr}{v:Value}(hc:w.cell? a=some v):w'.cell? a=some v:=by
 unfold World.cell? at hc ⊢
 split at hc
 ·rename_i c E fr hb
  rw[h.same _ _ _ _ hb]
  exact hc
 ·cases hc
theorem b3d.ownB{w w':World}(h:b3d w w'){g b:Nat}{vs:List Value}{cap:Nat}(hc:ownB w g b vs cap):ownB w' g b vs cap:=by
 obtain⟨arr,E,h1,r⟩:=hc
 exact⟨arr,E,h.same _ _ _ _ h1,r⟩
theorem b3d.hdr{w w':World}(h:b3d w w'){g b n:Nat}{v:Value}(hc:hdr w g b n v):hdr w' g b n v:=by
 obtain⟨b',cap,arr,E,h1,h2,h3,r⟩:=hc
 exact⟨b',cap,arr,E,h1,h2,h.same _ _ _ _ h3,r⟩
theorem b3d.locp{w w':World}(h:b3d w w'): ∀(p:List Nat) {x y:Nat×Nat},locp w p x=some y→locp w' p x=some y
 | [],x,y,hl=>hl
 |i::q,x,y,hl=>by
  unfold Go.Proofs.YtbakhfiibjkifaaGreat.locp at hl ⊢
  split at hl
  ·rename_i a n c hc
   rw[h.cell hc]
   simp only
   split at hl
   ·rename_i hs;rw[if_pos hs];exact h.locp q hl
   ·cases hl
  ·cases hl
theorem a0h.objs{c:Cx}{w':World}(k:b3d c.w w'){as:List AV}{vs:List Value}{G:List Nat}(h:a0h c as vs G):a0h {c with w:=w'} as vs G:=by
 have hin: ∀ {g b:Nat} {us:List Value},c.inW g b us→Cx.inW {c with w:=w'} g b us:=fun h=>⟨h.1,Nat.lt_of_lt_of_le h.2.1 k.size,fun i u hu=>k.cell (h.2.2 i u hu)⟩
 induction h with
 |nil=>exact .nil
 |sc v _ ih=>exact .sc v ih
 |dead v _ ih=>exact .dead v ih
 |imm g b cap _ h2 h3 _ ih1 ih=>exact .imm g b cap ih1 (hin h2) h3 ih
 |row g b cap _ h2 h3 h4 _ ih1 ih=>exact .row g b cap ih1 (k.ownB h2) h3 h4 ih
 |bx g b cap _ h2 h3 h4 _ ih1 ih=>exact .bx g b cap ih1 (k.ownB h2) h3 h4 ih
 |ref s g p off n v h1 h2 _ ih=>
  refine .ref s g p off n v h1 (fun cs hcs=>?_) ih
  obtain⟨x,hx,hh,hb⟩:=h2 cs hcs
  exact⟨x,k.locp p hx,k.hdr hh,hb⟩
 |ptr s g p i v h1 h2 _ ih=>
  refine .ptr s g p i v h1 (fun cs hcs=>?_) ih
  obtain⟨x,hx,hv⟩:=h2 cs hcs
  exact⟨x,k.locp p hx,hv⟩
 |iptr g b _ h2 _ ih1 ih=>exact .iptr g b ih1 (hin h2) ih
 |agg _ h2 _ ih1 ih=>exact .agg ih1 h2 ih
 |tup _ h2 _ ih1 ih=>exact .tup ih1 h2 ih
 |fn f _ _ ih1 ih=>exact .fn f ih1 ih
 |immk k' g b n cap _ h2 h3 h4 _ ih1 ih=>exact .immk k' g b n cap ih1 (hin h2) h3 h4 ih
 |refk k' s g n v h1 h2 _ ih=>
  refine .refk k' s g n v h1 (fun cs hcs=>?_) ih
  obtain⟨⟨cap,arr,E,e1,e2,e3⟩,hb⟩:=h2 cs hcs
  exact⟨⟨cap,arr,E,e1,k.same _ _ _ _ e2,e3⟩,hb⟩
section
variable{w0:World}{A0:Nat→Prop}{F0:List Nat}{cS c:Cx}{Φ:Nat→Nat→List Nat}{R:List Nat}{st:St}{n:Nat}{a a':Act}{w':World}
theorem Sim.objs(h:Sim w0 A0 F0 c Φ R)(k:b3d c.w w')(hos:w'.os=c.w.os)(htp:w'.tape=c.w.tape)(hout:Ou c.w w')(hlow: ∀i,i<w0.heap.size→w'.heap[i]?=c.w.heap[i]?):Sim w0 A0 F0 {c with w:=w'} Φ R where
 rt:=fun s g a ha=>by
  obtain⟨h1,v,h2,h3⟩:=h.rt s g a ha
  exact⟨h1,v,h2.objs k,h3⟩
 no:=h.no
 dj:=h.dj
 own:=h.own
 rd:=h.rd
 rown:=h.rown
 a0:=h.a0
 al:=fun x hx=>Nat.lt_of_lt_of_le (h.al x hx) k.size
 bw:=⟨hos.trans h.bw.os,htp.trans h.bw.tape,h.bw.output.trans hout,Nat.le_trans h.bw.size k.size,fun i hi hf=>(hlow i hi).trans (h.bw.block i hi hf)⟩
 gd:=h.gd
theorem SR.objs(h:SR w0 A0 F0 cS n st a c Φ)(ha:a'.tmps=a.tmps)(k:b3d c.w w')(hos:w'.os=c.w.os)(htp:w'.tape=c.w.tape)(hout:Ou c.w w')(hlow: ∀i,i<w0.heap.size∨i<cS.w.heap.size→w'.heap[i]?=c.w.heap[i]?)
  (hd:DfO w0.heap.size cS.w.heap.size {c with w:=w'} a'.defers):SR w0 A0 F0 cS n st a' {c with w:=w'} Φ where
 sim:=h.sim.objs k hos htp hout fun i hi=>hlow i (.inl hi)
 kp:=⟨Nat.le_trans h.kp.hsz k.size,h.kp.hA,fun b hb hA=>(hlow b (.inr hb)).trans (h.kp.hI b hb hA),h.kp.hgn,fun s g p cs hg hcs=>by
  obtain⟨cs0,h0,hl,hP⟩:=h.kp.hP s g p cs hg hcs
  exact⟨cs0,h0,hl,fun x hx=>⟨k.locp p (hP x hx).1,fun off n v hh=>k.hdr ((hP x hx).2.1 off n v hh),(hP x hx).2.2.trans fun arr E e=>⟨arr,E,k.same _ _ _ _ e,Nat.le_refl _⟩⟩⟩⟩
 ro:=h.ro
 gn:=h.gn
 sl:=fun j=>by rw[ha];exact(h.sl j).objs k
 df:=hd
 sz:=by rw[ha];exact h.sz
theorem a4x{w:World}{D:Nat}{o o':Obj}(hD:w.heap[D]?=some o)(hn: ∀(arr:Array Value) (E:TypeId) (fr:Nat×Nat),o≠Obj.cells arr E fr):b3d w (w.putObj D o'):=by
 have hg:=grownBy_putObj' w D o'
 refine⟨hg.size,fun k arr E fr hk=>?_⟩
 ·have hk':k<w.heap.size:=(Array.getElem?_eq_some_iff.1 hk).1
  rw[hg.block k hk' (fun e=>?_),hk]
  have e2:k=D:=by simpa using e
  subst e2
  rw[hD]at hk
  exact hn arr E fr (Option.some.inj hk)
theorem DfO.put{m1 m2 D:Nat}{o':Obj}: ∀ {ds:List Deferred},DfO m1 m2 c ds→(∀e,e∈ds→e.target≠ .collected D)→DfO m1 m2 {c with w:=c.w.putObj D o'} ds
 | [],_,_=>trivial
 |d::ds,⟨⟨D',h1,h2,h3,h4,h5,h6,h7⟩,h⟩,hne=>by
  have hg:=grownBy_putObj' c.w D o'
  refine⟨⟨D',h1,h2,h3,Nat.lt_of_lt_of_le h4 hg.size,h5,?_,h7⟩,DfO.put h fun e he=>hne e (by simp[he])⟩
  have:D'≠D:=fun e=>hne d (by simp) (by rw[h1,e])
  exact(hg.block D' h4 (by simpa using this)).trans h6
theorem a3P{P:Program}{fn:Func}{m:Nat}{Rr:Ending→World→Prop}: ∀ {ds:List Deferred} {a:Act} {c:Cx},SR w0 A0 F0 cS n st a c Φ→(∀(c1:Cx) (a1:Act),SR w0 A0 F0 cS n st a1 c1 Φ→ ∃v,(results fn a1.tmps).run P c1.w= .ok v c1.w∧Rr (.returned v) c1.w)→a.defers=ds→
  LeavesInM Fence.wide m P fn a.tmps Rr ds .returning c.w
 | [],a,c,h,fin,_=>fin c a h
 |d::ds,a,c,h,fin,e=>by
  have hdf:=h.df
  rw[e]at hdf
  obtain⟨⟨D,rfl,h2,h3,h4,h5,h6,h7⟩,hds⟩:=hdf
  have hg:=grownBy_putObj' c.w D (.deferred none)
  refine⟨by simp,.inl ⟨D,c.w.putObj D (.deferred none),rfl,run_takeDeferred h6,?_⟩⟩
  have h':SR w0 A0 F0 cS n st {a with defers:=ds} {c with w:=c.w.putObj D (.deferred none)} Φ:=h.objs rfl (a4x h6 (fun _ _ _ e=>by cases e)) hg.os hg.tape ⟨hg.output,trivial⟩ (fun i hi=>hg.block i (by rcases hi with hi|hi<;>omega) (by
   have:i≠D:=by rcases hi with hi|hi<;>omega
   simpa using this)) (hds.put h7)
  exact a3P (ds:=ds) h' fin rfl
end
end Go.Proofs.YtbakhfiibjkifaaGreat
