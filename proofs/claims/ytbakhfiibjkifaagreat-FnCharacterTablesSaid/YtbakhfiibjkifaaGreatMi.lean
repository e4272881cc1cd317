/- Texts joined: Vmk Vml Vmn Vmp Vmq. -/
import Derived.MapKept
import Derived.Test.YtbakhfiibjkifaaGreatMc
set_option linter.all false
/- The abstract machine: arrays of numbers, elements of several cells, maps: laws of operations. -/
namespace Go.Proofs.YtbakhfiibjkifaaGreat
open Go.RowKit
section
variable{ro:Ro}{a1:Nat}{a2:Bool}{a3:List Value}{a5:List (Nat×Nat)}{a6:Option IntKind}{a7 a8:Bool}{a9 a10:Option (Nat×Nat)}
abbrev n3(a b c:Int):AV:= .agg [i64 a,i64 b,i64 c]
end
section
variable{P:Program}{ti:Nat→Option TI}{w0:World}{A0:Nat→Prop}{F0:List Nat}{c:Cx}{Φ:Nat→Nat→List Nat}
end
abbrev T3:=Int×Int×Int
def keyV(t:T3):Value:= .agg #[.int .i64 t.1,.int .i64 t.2.1,.int .i64 t.2.2]
def esK(ks:List T3):List (Value×Value):=ks.map fun t=>(keyV t,.bool true)
def n3T(t:T3):AV:=n3 t.1 t.2.1 t.2.2
structure MTy(P:Program)(mt kt et e:Nat):Prop where mkM::
 mm:P.underlying mt=some (.map kt et)
 mk:P.underlying kt=some (.array 3 e)
 me:P.underlying e=some (.int .i64)
 mi: ∃inf,P.info? e=some inf∧inf.size=1
 mz: ∀w,(zeroValue et).run P w= .ok (.bool false) w
section
variable{P:Program}{mt kt et e:Nat}(M:MTy P mt kt et e)
include M
def fk(t:T3):List T3→Nat→Option (Nat×Value)
 | [],_=>none
 |u::ks,i=>if t=u then some (i,.bool true)else fk t ks (i+1)
omit M in
omit M in
def addK(ks:List T3)(t:T3):List T3:=if t∈ks then ks else ks++ [t]
omit M in
end
section
variable{P:Program}{mt kt et e:Nat}
end
theorem c0Y{P:Program}{f:Nat}{args:List AV}{ro:Ro}{gn:Nat→Nat}{r:AV}(h:a0d P f (args.map (ex ro 8)) r)(hI:noI r=true):InS P f args ro gn (fun v ro' gn'=>v=b3e r∧ro'=ro∧gn'=gn):=by
 obtain⟨hE,hn,hC⟩:=h
 refine⟨hE,fun w0 A0 F0 c Φ vs hs hro hgn hv=>?_⟩
 have hA9:a0h (cx0 c.w (fun _=>False)) (args.map (ex ro 8)) vs []:=by rw[←hro];exact(b9C hs 8).2 hv
 refine(hC c.w _ vs hA9 (fun _ h=>h.elim) hs.gdc).mono ?_
 rintro en w' ⟨v,A',F',rfl,h1,h2,h3,h4⟩
 obtain⟨c1,e1,e2,e3,e4,e5,e6,e7⟩:=hs.wchg w' [] h4.os h4.tape h4.output h4.size (fun k hk _=>h4.block k hk (by simp)) (by simp)
 have hr:Rel c1 (b3e r) v []:=by
  have:=a0h.frz (c':=c1) h1 e1 (by simp[a2R,hI]) (fun x hx ha=>by
   have:=(h3 x hx).2
   rcases(e5 x).1 ha with ha|ha
   ·have:=hs.al x ha;omega
   ·cases ha)
  simpa [a6U]using this
 exact⟨v,c1,Φ,b3e r,rfl,e1,⟨rfl,e2.trans hro,e3.trans hgn⟩,e7,e6,hr⟩
def b8k(gn:Nat→Nat)(ro:Ro):Ro:=fun s g=>if g≤gn s then ro s g else none
theorem a4k{gn:Nat→Nat}{ro:Ro}{s g:Nat}{p:List Nat}{cs:List AV}(h:(b8k gn ro).cells s g p=some cs):ro.cells s g p=some cs:=by
 by_cases hg:g≤gn s
 ·cases p with
  |nil=>simpa only[Ro.cells,b8k,if_pos hg]using h
  |cons i q=>simpa only[Ro.cells,Ro.at,b8k,if_pos hg]using h
 ·cases p with
  |nil=>simp only[Ro.cells,b8k,if_neg hg]at h;cases h
  |cons i q=>simp only[Ro.cells,Ro.at,b8k,if_neg hg]at h;cases h
def Cx.low(c:Cx)(gn:Nat→Nat):Cx:=⟨c.w,c.A,b8k gn c.ro,gn,c.L⟩
theorem a0h.low{c c':Cx}{as:List AV}{vs':List Value}{G':List Nat}(h':a0h c' as vs' G'): ∀ {vs:List Value} {G:List Nat},a0h c as vs G→a0h (c'.low c.gn) as vs' G':=by
 induction h' with
 |nil=>intro vs G _;exact .nil
 |sc v _ ih=>intro vs G h;cases h with|sc _ h=>exact .sc v (ih h)
 |dead v _ ih=>intro vs G h;cases h with|dead _ h=>exact .dead v (ih h)
 |imm g b cap _ h2 h3 _ ih1 ih=>intro vs G h;cases h with|imm _ _ _ k1 _ _ k=>exact .imm g b cap (ih1 k1) h2 h3 (ih k)
 |row g b cap _ h2 h3 h4 _ ih1 ih=>intro vs G h;cases h with|row _ _ _ k1 _ _ _ k=>exact .row g b cap (ih1 k1) h2 h3 h4 (ih k)
 |bx g b cap _ h2 h3 h4 _ ih1 ih=>intro vs G h;cases h with|bx _ _ _ k1 _ _ _ k=>exact .bx g b cap (ih1 k1) h2 h3 h4 (ih k)
 |ref s g p off n v _ h2 _ ih=>intro vs G h;cases h with|ref _ _ _ _ _ _ k1 _ k=>exact .ref s g p off n v k1 (fun cs hcs=>h2 cs (a4k hcs)) (ih k)
 |ptr s g p i v _ h2 _ ih=>intro vs G h;cases h with|ptr _ _ _ _ _ k1 _ k=>exact .ptr s g p i v k1 (fun cs hcs=>h2 cs (a4k hcs)) (ih k)
 |iptr g b _ h2 _ ih1 ih=>intro vs G h;cases h with|iptr _ _ k1 _ k=>exact .iptr g b (ih1 k1) h2 (ih k)
 |agg _ h2 _ ih1 ih=>intro vs G h;cases h with|agg k1 _ k=>exact .agg (ih1 k1) h2 (ih k)
 |tup _ h2 _ ih1 ih=>intro vs G h;cases h with|tup k1 _ k=>exact .tup (ih1 k1) h2 (ih k)
 |fn f _ _ ih1 ih=>intro vs G h;cases h with|fn _ k1 k=>exact .fn f (ih1 k1) (ih k)
 |immk k g b n cap _ h2 h3 h4 _ ih1 ih=>intro vs G h;cases h with|immk _ _ _ _ _ k1 _ _ _ k=>exact .immk _ g b n cap (ih1 k1) h2 h3 h4 (ih k)
 |refk k s g n v _ h2 _ ih=>intro vs G h;cases h with|refk _ _ _ _ _ k1 _ k=>exact .refk _ s g n v k1 (fun cs hcs=>h2 cs (a4k hcs)) (ih k)
theorem a0h.lowN{c':Cx}{gn:Nat→Nat}{as:List AV}{vs':List Value}{G':List Nat}(h':a0h c' as vs' G'):a0j as=true→a0h (c'.low gn) as vs' G':=by
 induction h' with
 |nil=>intro _;exact .nil
 |sc v _ ih=>intro h;simp only[a0j,a0C,Bool.and_eq_true]at h;exact .sc v (ih h.2)
 |dead v _ ih=>intro h;simp only[a0j,Bool.and_eq_true]at h;exact .dead v (ih h.2)
 |imm g b cap _ h2 h3 _ ih1 ih=>intro h;simp only[a0j,a0C,Bool.and_eq_true]at h;exact .imm g b cap (ih1 h.1) h2 h3 (ih h.2)
 |row g b cap _ h2 h3 h4 _ ih1 ih=>intro h;simp only[a0j,a0C,Bool.and_eq_true]at h;exact .row g b cap (ih1 h.1) h2 h3 h4 (ih h.2)
 |bx g b cap _ h2 h3 h4 _ ih1 ih=>intro h;simp only[a0j,a0C,Bool.and_eq_true]at h;exact .bx g b cap (ih1 h.1) h2 h3 h4 (ih h.2)
 |ref s g p off n v _ h2 _ ih=>intro h;simp only[a0j,a0C,Bool.and_eq_true]at h;exact absurd h.1 Bool.false_ne_true
 |ptr s g p i v _ h2 _ ih=>intro h;simp only[a0j,a0C,Bool.and_eq_true]at h;exact absurd h.1 Bool.false_ne_true
 |iptr g b _ h2 _ ih1 ih=>intro h;simp only[a0j,a0C,Bool.and_eq_true]at h;exact .iptr g b (ih1 h.1) h2 (ih h.2)
 |agg _ h2 _ ih1 ih=>intro h;simp only[a0j,a0C,Bool.and_eq_true]at h;exact .agg (ih1 h.1) h2 (ih h.2)
 |tup _ h2 _ ih1 ih=>intro h;simp only[a0j,a0C,Bool.and_eq_true]at h;exact .tup (ih1 h.1) h2 (ih h.2)
 |fn f _ _ ih1 ih=>intro h;simp only[a0j,a0C,Bool.and_eq_true]at h;exact .fn f (ih1 h.1) (ih h.2)
 |immk k g b n cap _ h2 h3 h4 _ ih1 ih=>intro h;simp only[a0j,a0C,Bool.and_eq_true]at h;exact .immk _ g b n cap (ih1 h.1) h2 h3 h4 (ih h.2)
 |refk k s g n v _ h2 _ ih=>intro h;simp only[a0j,a0C,Bool.and_eq_true]at h;exact absurd h.1 Bool.false_ne_true
theorem InS.low{P:Program}{f:Nat}{args:List AV}{ro:Ro}{gn:Nat→Nat}{Po:AV→Ro→(Nat→Nat)→Prop}(h:InS P f args ro gn Po)(hr: ∀r ro' gn',Po r ro' gn'→a0C r=true∧ ∀s g a,g≤gn s→ro' s g=some a→ro s g=some a∨a0C a=true):InS P f args ro gn (fun r a b=>(∃ro' gn',Po r ro' gn'∧a=b8k gn ro')∧b=gn∧ ∀s y,gn s<y→ro s y=none):=by
 refine⟨h.1,fun w0 A0 F0 c Φ vs h1 h2 h3 h4=>(h.2 w0 A0 F0 c Φ vs h1 h2 h3 h4).mono ?_⟩
 rintro en w' ⟨v,c',Φ',r,k1,k2,k3,k4,k5,k6⟩
 obtain⟨hn,hb⟩:=hr r _ _ k3
 subst h3
 subst h2
 have one: ∀ {a:AV},a0C a=true→a0j [a]=true:=fun h=>by simp only[a0j,h,Bool.and_true]
 refine⟨v,c'.low c.gn,fun s g=>if g≤c.gn s then Φ' s g else [],r,k1,k2,⟨⟨c'.ro,c'.gn,k3,rfl⟩,rfl,fun s y hy=>?_⟩,?_,?_,a0h.lowN k6 (one hn)⟩
 ·cases e:c.ro s y with
  |none=>rfl
  |some a=>exact absurd (h1.rt s y a e).1 (by omega)
 ·refine⟨fun s g a ha=>?_,fun s g ha=>?_,fun s g s' g' hne x hx hx'=>?_,fun s g x hx=>?_,fun s g x hx=>?_,k4.rown,k4.a0,k4.al,k4.bw,k4.gd⟩
  ·by_cases hg:g≤c.gn s
   ·have ha':c'.ro s g=some a:=by
     have:(if g≤c.gn s then c'.ro s g else none)=some a:=ha
     rwa [if_pos hg]at this
    obtain⟨-, u,e1,e2⟩:=k4.rt s g a ha'
    refine⟨hg,u,?_,e2⟩
    simp only[if_pos hg]
    rcases hb s g a hg ha' with hb|hb
    ·obtain⟨-, u0,q1, -⟩:=h1.rt s g a hb
     exact a0h.low e1 q1
    ·exact a0h.lowN e1 (one hb)
   ·have:(if g≤c.gn s then c'.ro s g else none)=some a:=ha
    rw[if_neg hg]at this;cases this
  ·by_cases hg:g≤c.gn s
   ·simp only[if_pos hg]
    refine k4.no s g ?_
    have:(if g≤c.gn s then c'.ro s g else none)=none:=ha
    rwa [if_pos hg]at this
   ·simp only[if_neg hg]
  ·split at hx
   ·split at hx'
    ·exact k4.dj s g s' g' hne x hx hx'
    ·cases hx'
   ·cases hx
  ·split at hx
   ·exact k4.own s g x hx
   ·cases hx
  ·split at hx
   ·exact k4.rd s g x hx
   ·cases hx
 ·exact⟨k5.hsz,k5.hA,k5.hI,fun s=>Nat.le_refl _,fun s g p cs hg hcs=>k5.hP s g p cs hg (a4k hcs)⟩
def a8y(a:AV):Prop:=(∃cs,a= .row cs∧a2R cs=true)∨ ∃cs,a= .imm cs
theorem a0h.frzT{c c':Cx}{as:List AV}{us:List Value}{F:List Nat}(h:a0h c as us F)(k:a1y c c')(hw:c'.w=c.w):(∀a,a∈as→a8y a∨ ∃v,a= .sc v)→(∀x,x∈F→ ¬c'.A x)→a0h c' (a6U as) us []:=by
 induction h with
 |nil=>intro _ _;exact .nil
 |sc v _ ih=>intro hn hA;exact .sc v (ih (fun a ha=>hn a (List.mem_cons_of_mem _ ha)) hA)
 |imm g b cap h1 h2 h3 _ ih1 ih=>
  intro hn hA
  refine .imm g b cap (h1.mono k (by simp)) ⟨fun h=>h2.1 (k.hA g h2.2.1 h),Nat.lt_of_lt_of_le h2.2.1 k.hsz,fun i u hu=>?_⟩ h3 (ih (fun a ha=>hn a (List.mem_cons_of_mem _ ha)) hA)
  rw[a1D (k.hI g h2.2.1 h2.1)]
  exact h2.2.2 i u hu
 | @row a2 v2 G2 cs2 u2 F2 g b cap h1 h2 h3 h4 _ ih1 ih=>
  intro hn hA
  have hno:a2R cs2=true:=by
   rcases hn _ (List.mem_cons_self ..)with(⟨cs,e,hc⟩|⟨cs,e⟩)|⟨v,e⟩
   ·injection e with e;rw[e];exact hc
   ·cases e
   ·cases e
  have hg:g<c.w.heap.size:=h2.lt
  refine .imm g b cap (h1.frz hw hno fun x hx=>hA x (by simp[hx])) ⟨hA g (by simp),by rw[hw];exact hg,fun i u hu=>by rw[hw];exact h2.cell hu⟩ (by obtain⟨_,_,_,_,h5,_⟩:=h2;exact h5) (ih (fun a ha=>hn a (List.mem_cons_of_mem _ ha)) fun x hx=>hA x (by simp[hx]))
 |_=>
  intro hn
  exfalso
  rcases hn _ (List.mem_cons_self ..)with(⟨cs,e,hc⟩|⟨cs,e⟩)|⟨v,e⟩<;>cases e
theorem Sim.frzT{w0:World}{A0:Nat→Prop}{F0:List Nat}{c:Cx}{Φ:Nat→Nat→List Nat}{s g:Nat}{cs:List AV}(h:Sim w0 A0 F0 c Φ [])(hro':c.ro s g=some (.row cs))(hno: ∀a,a∈cs→a8y a∨ ∃v,a= .sc v):
  ∃c' Φ',c'.w=c.w∧c'.ro=upr c.ro s g .dead∧c'.gn=c.gn∧a1y c c'∧Sim w0 A0 F0 c' Φ' []∧ ∀off n v,off+n≤cs.length→Rel c (.ref s g [] off n) v []→Rel c' (.imm (((a6U cs).drop off).take n)) v []:=by
 obtain⟨hg,v,hv,hh⟩:=h.rt s g _ hro'
 obtain⟨g1,b1,cap,us,F',rfl,hF,h1,h2,h3⟩:=Rel.row_inv hv
 obtain⟨cap0,hh⟩:=hh
 simp only[Value.slice.injEq,Option.some.injEq,Addr.mk.injEq]at hh
 obtain⟨⟨l1,l2, -⟩, -, -⟩:=hh
 let c':Cx:=⟨c.w,fun x=>c.A x∧x∉Φ s g,upr c.ro s g .dead,c.gn,c.L⟩
 let Φ':Nat→Nat→List Nat:=fun s' g'=>if s'=s∧g'=g then []else Φ s' g'
 have hP:=h.keepP c' (fun s' g' p cs' hg' hcs'=>by
  by_cases e:s'=s∧g'=g
  ·obtain⟨rfl,rfl⟩:=e
   exfalso
   have hcs'':Ro.cells (upr c.ro s' g' .dead) s' g' p=some cs':=hcs'
   revert hcs''
   cases p<;>simp[Ro.cells,Ro.at,upr,blk,ath]
  ·have hcs'':Ro.cells (upr c.ro s g .dead) s' g' p=some cs':=hcs'
   rw[a1X e]at hcs''
   exact⟨cs',hcs'',Nat.le_refl _,rfl,fun _ _=>rfl⟩)
 have k:a1y c c':=⟨Nat.le_refl _,fun _ _ h=>h.1,fun _ _ _=>rfl,fun _=>Nat.le_refl _,hP⟩
 refine⟨c',Φ',rfl,rfl,rfl,k,⟨fun s' g' a ha=>?_,fun s' g' ha=>?_,fun s1 g2 s2 g3 hne x hx=>?_,fun s' g' x hx=>?_,fun s' g' x hx=>(by simp),fun x hx=>(by cases hx),fun x hx=>⟨h.a0 x hx,fun e=>(h.own s g x e).2.1 hx⟩,fun x hx=>h.al x hx.1,h.bw,h.gd⟩,fun off n v hl hj=>?_⟩
 ·have ha':upr c.ro s g .dead s' g'=some a:=ha
  by_cases e:s'=s∧g'=g
  ·obtain⟨rfl,rfl⟩:=e
   simp[upr]at ha'
   subst ha'
   exact⟨hg,undef,by show Rel c' _ _ (if _ then _ else _);rw[if_pos ⟨rfl,rfl⟩];exact a0h.dead _ .nil,trivial⟩
  ·simp only[upr,e,if_false]at ha'
   obtain⟨q1,u,q2,q3⟩:=h.rt s' g' a ha'
   exact⟨q1,u,by show Rel c' _ _ (if _ then _ else _);rw[if_neg e];exact q2.mono k (fun _ _=>rfl),q3⟩
 ·show (if _ then _ else _)=_
  by_cases e:s'=s∧g'=g
  ·rw[if_pos e]
  ·rw[if_neg e]
   have ha':upr c.ro s g .dead s' g'=none:=ha
   simp only[upr,e,if_false]at ha'
   exact h.no s' g' ha'
 ·have hx':x∈(if s1=s∧g2=g then []else Φ s1 g2):=hx
  show x∉(if _ then _ else _)
  by_cases e1:s1=s∧g2=g
  ·rw[if_pos e1]at hx';cases hx'
  ·rw[if_neg e1]at hx'
   by_cases e2:s2=s∧g3=g
   ·rw[if_pos e2];simp
   ·rw[if_neg e2];exact h.dj _ _ _ _ hne x hx'
 ·have hx':x∈(if s'=s∧g'=g then []else Φ s' g'):=hx
  by_cases e1:s'=s∧g'=g
  ·rw[if_pos e1]at hx';cases hx'
  ·rw[if_neg e1]at hx'
   obtain⟨q1,q2,q3⟩:=h.own s' g' x hx'
   exact⟨⟨q1,fun e=>h.dj _ _ _ _ e1 x hx' e⟩,q2,q3⟩
 ·obtain⟨_,q2⟩:=Rel.ref_inv hj
  obtain⟨x,q3,⟨b',cap',arr,E,q4,q5,q6,q7,q8,q9⟩,q10⟩:=q2 cs (by simp[Ro.cells,hro',blk])
  simp only[locp,Option.some.injEq]at q3
  subst q3
  have hz:=a0h.frzT (c':=c') h1 k rfl hno (fun x hx ha=>ha.2 (by rw[hF];simp[hx]))
  have hlen:us.length=cs.length:=h1.len.symm
  have hz2:a0h c' (((a6U cs).drop off).take n) ((us.drop off).take n) []:=by
   have:=hz.cut0 off n
   exact this
  have hul:((us.drop off).take n).length=n:=by rw[List.length_take,List.length_drop];omega
  have q4':v= .slice (some ⟨(c.L s g).1,b',none⟩) ((us.drop off).take n).length cap':=by rw[hul];exact q4
  rw[q4']
  have hg1: ¬c'.A g1:=fun ha=>ha.2 (by rw[hF];simp)
  refine .imm _ b' cap' hz2 ⟨by rw[←l1];exact hg1,by rw[←l1];exact h2.lt,fun i u hu=>?_⟩ (by omega) .nil
  have hi:=(List.getElem?_eq_some_iff.1 hu).1
  rcases q5 with q5|q5
  ·rw[List.getElem?_take]at hu
   split at hu
   ·rw[List.getElem?_drop]at hu
    have h6:=h2.cell (i:=off+i) hu
    rw[q5, ←l1, ←l2,Nat.add_assoc]
    exact h6
   ·cases hu
  ·omega
def TwoI(ro':Ro)(r:AV)(x y:AV)(s1 g1 s2 g2:Nat):Prop:= ∃(o1 n1 n2:Nat) (c1 c2:List AV),r= .tup [.ref s1 g1 [] o1 n1,.ref s2 g2 [] 0 n2]∧s1≠s2∧ro' s1 g1=some (.row c1)∧ro' s2 g2=some (.row c2)∧(∀a,a∈c1→a8y a∨ ∃v,a= .sc v)∧(∀a,a∈c2→a8y a∨ ∃v,a= .sc v)∧o1+n1≤c1.length∧n2≤c2.length∧x= .imm (((a6U c1).drop o1).take n1)∧y= .imm ((a6U c2).take n2)
theorem InS.frz2{P:Program}{f:Nat}{args:List AV}{ro:Ro}{gn:Nat→Nat}{Po:AV→Ro→(Nat→Nat)→Prop}(h:InS P f args ro gn Po){Q:AV→AV→Ro→(Nat→Nat)→Prop}
  (hr: ∀r ro' gn',Po r ro' gn'→ ∃x y s1 g1 s2 g2,TwoI ro' r x y s1 g1 s2 g2∧Q x y (upr (upr ro' s1 g1 .dead) s2 g2 .dead) gn'):InS P f args ro gn (fun r a b=> ∃x y,r= .tup [x,y]∧Q x y a b):=by
 refine⟨h.1,fun w0 A0 F0 c Φ vs h1 h2 h3 h4=>(h.2 w0 A0 F0 c Φ vs h1 h2 h3 h4).mono ?_⟩
 rintro en w' ⟨v,c1,Φ1,r,k1,k2,k3,k4,k5,k6⟩
 obtain⟨x,y,s1,g1,s2,g2,⟨o1,n1,n2,d1,d2,rfl,hne,e1,e2,i1,i2,l1,l2,rfl,rfl⟩,hQ⟩:=hr r _ _ k3
 obtain⟨us,rfl,ht⟩:=Rel.tup_inv k6
 obtain⟨v1,us',rfl,b1,b2⟩:=a0h.uncons0 ht
 obtain⟨v2,us'',rfl,b3,b4⟩:=a0h.uncons0 b2
 obtain rfl:=(a0h.nilF b4).1
 obtain⟨c2,Φ2,w2,r2,gn2,K2,S2,T2⟩:=k4.frzT e1 i1
 have e2':c2.ro s2 g2=some (.row d2):=by rw[r2,zdb,if_neg (fun e=>hne e.1.symm)];exact e2
 obtain⟨c3,Φ3,w3,r3,gn3,K3,S3,T3⟩:=S2.frzT e2' i2
 have p1:=(T2 o1 n1 v1 l1 b1).mono K3 (by simp)
 have p2:=T3 0 n2 v2 (by omega) (b3.mono K2 (by simp))
 rw[List.drop_zero]at p2
 refine⟨_,c3,Φ3,_,k1,by rw[w3,w2];exact k2,⟨_,_,rfl,?_⟩,S3,(k5.trans K2).trans K3,a0h.tup (a0h.cons p1 (a0h.cons p2 .nil (by simp)) (by simp)) (by simp) .nil⟩
 rw[r3,r2,gn3,gn2]
 exact hQ
end Go.Proofs.YtbakhfiibjkifaaGreat
