/- Texts joined: Lk Wkc Ef3 Cq5 Cq6 Cq7 Cq8 Cq9 CqA. -/
import Derived.Test.YtbakhfiibjkifaaGreatMd
import Derived.Test.YtbakhfiibjkifaaGreatMg
import Derived.Test.YtbakhfiibjkifaaGreatCg
import Derived.Test.YtbakhfiibjkifaaGreatMj
import Derived.Test.YtbakhfiibjkifaaGreatTa
set_option linter.all false
/- Lists that are alike. -/
namespace Go.Proofs.YtbakhfiibjkifaaGreat
open Go.RowKit
set_option maxRecDepth 1000000
section
variable{a b:AV}
theorem b1R{X Y:List Int}(ha:isL a X)(hb:isL b Y)(lX:X.length≤a0G)(he:X=Y):a0d Tryz.prog 25 [a,b] (bo true):=by
 subst he
 have lX':X.length≤4294967296:=lX
 refine a0e (fn:=Tryz.f25) (code:=a0b Tryz.f25) Tryz.func25 rfl (by kernel_rfl) (rfl) ?_
 intro sl hs
 have s0:sl 0=a:=hs 0
 have s1:sl 1=b:=hs 1
 dsimp only[Tryz.f25,a0b,Option.getD]
 simp(disch:=first|assumption|omega) only[go_sem,s0,s1,a0B ha,a0B hb]
 refine a0f (fun i st=>st.sl 0=a∧st.sl 1=b∧st.sl 5=i64 (i:Int)) X.length ?_ ?_ ?_
 ·refine Yac ?_
  first|done|exact rfl
 ·rintro i sl ro gn hi ⟨s0,s1,s5⟩
  dsimp only at s0 s1 s5
  have hi':(i:Int)<(X.length:Nat):=by omega
  simp(disch:=first|assumption|omega) only[go_sem,s0,s1,s5,hi',a0B ha,a0s ha hi,a0s hb hi]
  refine a0r (by kernel_rfl) ?_
  refine Yej ?_
  exact a0w (by omega)
 ·rintro sl ro gn ⟨s0,s1,s5⟩
  dsimp only at s0 s1 s5
  have hi': ¬((X.length:Nat):Int)<(X.length:Nat):=by omega
  simp(disch:=first|assumption|omega) only[go_sem,s0,s5,hi',a0B ha]
  exact Yaa
theorem c2W{X Y:List (List Int)}(ha:a2t a X)(hb:a2t b Y)(lX:X.length≤a0G)(hr: ∀i,i<X.length→(row X i).length≤a0G)(he:X=Y):a0d Tryz.prog 11 [a,b] (bo true):=by
 subst he
 have lX':X.length≤4294967296:=lX
 refine a0e (fn:=Tryz.f11) (code:=a0b Tryz.f11) Tryz.func11 rfl (by kernel_rfl) (rfl) ?_
 intro sl hs
 have s0:sl 0=a:=hs 0
 have s1:sl 1=b:=hs 1
 dsimp only[Tryz.f11,a0b,Option.getD]
 simp(disch:=first|assumption|omega) only[go_sem,s0,s1,a0R ha,a0R hb]
 refine a0f (fun i st=>st.sl 0=a∧st.sl 1=b∧st.sl 5=i64 (i:Int)) X.length ?_ ?_ ?_
 ·refine Yac ?_
  first|done|exact rfl
 ·rintro i sl ro gn hi ⟨s0,s1,s5⟩
  dsimp only at s0 s1 s5
  have hi':(i:Int)<(X.length:Nat):=by omega
  have h1:=a0m ha hi
  have h2:=a0m hb hi
  simp(disch:=first|assumption|omega) only[go_sem,s0,s1,s5,hi',a0R ha,a0S ha hi,a0S hb hi]
  refine a0A _ (b1R h1 h2 (hr i hi) rfl) PUt rfl ?_
  simp(disch:=first|assumption|omega) only[go_sem]
  refine a0r (by kernel_rfl) ?_
  refine Yej ?_
  first|done|exact a0w (by omega)
 ·rintro sl ro gn ⟨s0,s1,s5⟩
  dsimp only at s0 s1 s5
  have hi': ¬((X.length:Nat):Int)<(X.length:Nat):=by omega
  simp(disch:=first|assumption|omega) only[go_sem,s0,s5,hi',a0R ha]
  exact Yaa
end
def c0t:Nat→Code→Code
 |0,_=> .skip
 |n+1,.seq a b=> .seq a (c0t n b)
 |_+1,c=>c
def c3T:Nat→Code→Code
 |0,c=>c
 |n+1,.seq _ b=>c3T n b
 |_+1,_=> .skip
theorem b9m{X:WX}{Q:Exit→St→Prop}(I:St→Prop): ∀(n:Nat) {c:Code} {K:List Fr} {st:St},WK X (c0t n c) (.lp I::K) Q st→(∀sl ro gn,I ⟨sl,ro,gn⟩→WK X (c3T n c) K Q ⟨sl,ro,gn⟩)→WK X c K Q st
 |0,c,K,st,h,ht=>ht st.sl st.ro st.gn h
 |n+1,c,K,st,h,ht=>by
  cases c with
  |seq a b=>
   have h':WK X a (.sq (c0t n b):: .lp I::K) Q st:=by
    have:=h
    rw[show c0t (n+1) (Code.seq a b)=Code.seq a (c0t n b)from rfl,zan]at this
    exact this
   rw[zan]
   refine a5e a ?_ h'
   intro e st' he
   cases e with
   |normal=>exact b9m I n (c:=b) he ht
   |_=>exact he
  |_=>
   refine a5e _ ?_ h
   intro e st' he
   cases e with
   |normal=>exact ht st'.sl st'.ro st'.gn he
   |_=>exact he
theorem cBig{a:AV}{bs:List Int}(ha:isB a bs):a0d Tryz.prog 6 [a] (bo (decide (4096<bs.length))):=by
 refine a0e (fn:=Tryz.f6) (code:=a0b Tryz.f6) Tryz.func6 rfl (by kernel_rfl) (rfl) ?_
 intro sl hs
 have s0:sl 0=a:=hs 0
 dsimp only[Tryz.f6,a0b,Option.getD]
 simp(maxSteps:=10000000) (disch:=first|assumption|omega) only[go_sem,s0]
 refine Yab ?_
 simp only[decide_eq_decide];omega
def RcC(X:List (List Int))(dl:List Int):Prop:=(1≤X.length∧X.length≤16)∧DuP X.length dl∧ ∀m,m<X.length→(row X m).length=X.length
open Classical in
noncomputable def rcV(X:List (List Int))(dl:List Int):AV×Int:=if RcC X dl then if TlP X (dvN dl)then(a0t (tN X (dvN dl)) X.length,0)else(a1q,5)else(a1q,2)
section
variable{X:List (List Int)}{x dl O O':List Int}{a b o o':AV}{n:Nat}
theorem a5W(h: ¬RcC X dl):rcV X dl=(a1q,2):=if_neg h
theorem b0r(h:RcC X dl)(h2: ¬TlP X (dvN dl)):rcV X dl=(a1q,5):=by unfold rcV;rw[if_pos h,if_neg h2]
theorem b5K(h:RcC X dl)(h2:TlP X (dvN dl)):rcV X dl=(a0t (tN X (dvN dl)) X.length,0):=by unfold rcV;rw[if_pos h,if_pos h2]
theorem a8N:a0C (.tup [.agg [(rcV X dl).1],i64 (rcV X dl).2])=true:=by
 have hc:=a0J (tN X (dvN dl)) X.length
 by_cases h:RcC X dl
 ·by_cases h2:TlP X (dvN dl)
  ·rw[b5K h h2]
   show ((a0C (a0t (tN X (dvN dl)) X.length)&&true)&&(true&&true))=true
   rw[hc];rfl
  ·rw[b0r h h2];rfl
 ·rw[a5W h];rfl
set_option maxHeartbeats 4000000 in
theorem cRcS(ha:a2t a X)(hb:isL b dl)(hX:X.length≤a0G)(hN: ∀m,m<X.length→NL (row X m)∧(row X m).length≤a0G):a0d Tryz.prog 33 [a,b] (.tup [.agg [(rcV X dl).1],i64 (rcV X dl).2]):=by
 have hX':X.length≤4294967296:=hX
 refine a0e (fn:=Tryz.f33) (code:=a0b Tryz.f33) Tryz.func33 rfl (by kernel_rfl) (a8N) ?_
 intro sl hs
 have s0:sl 0=a:=hs 0
 have s1:sl 1=b:=hs 1
 by_cases h0:X.length<1
 ·have h0':(X.length:Int)<1:=by omega
  rw[a5W (fun h=>by have:=h.1.1;omega)]
  dsimp only[Tryz.f33,a0b,Option.getD]
  refine Yek ?_
  exact Yal
 ·have h0': ¬(X.length:Int)<1:=by omega
  by_cases h16:16<X.length
  ·have h16':(16:Int)<X.length:=by omega
   rw[a5W (fun h=>by have:=h.1.2;omega)]
   dsimp only[Tryz.f33,a0b,Option.getD]
   refine Ydp ?_
   exact Yal
  ·have h16': ¬(16:Int)<X.length:=by omega
   by_cases hD:DuP X.length dl
   ·have cd:=cDuS (n:=X.length) hb (by omega) (t:=true) ⟨fun _=>hD,fun _=>rfl⟩
    dsimp only[Tryz.f33,a0b,Option.getD]
    refine Yaq ?_
    refine a0c _ cd PUt rfl rfl ?_
    refine Ybt ?_
    refine a0f (fun i st=>st.sl 0=a∧st.sl 1=b∧st.sl 4= .ptr 4096 1 [] 0∧st.ro 4096 1=some (.bx [a1q])∧st.sl 6=i64 (X.length:Nat)∧st.sl 7=i64 (i:Int)∧(∀m,m<i→(row X m).length=X.length)) X.length ?_ ?_ ?_
    ·refine Yac ?_
     exact⟨rfl,fun k h=>absurd h (Nat.not_lt_zero _)⟩
    ·rintro i sl ro gn hi ⟨s0,s1,s4,r4096,s6,s7,q⟩
     dsimp only at s0 s1 s4 r4096 s6 s7
     have hi':(i:Int)<(X.length:Nat):=by omega
     have hr:=a0m ha hi
     obtain⟨hn,hl⟩:=hN i hi
     by_cases e:(row X i).length=X.length
     ·have e':((row X i).length:Int)=X.length:=by omega
      have c2:=c4l hr hl (t:=true) ⟨fun _=>hn,fun _=>rfl⟩
      simp(disch:=first|assumption|omega) only[go_sem,s0,s6,s7,hi',a0S ha hi,a0B hr,eq_true e']
      refine a0c _ c2 PUt rfl rfl ?_
      simp(disch:=first|assumption|omega) only[go_sem,s0,s1,s4,r4096,s6,s7]
      refine⟨a0w (by omega),fun l hl=>?_⟩
      rcases Nat.lt_or_eq_of_le (Nat.le_of_lt_succ hl)with h|h
      ·exact q l h
      ·rw[h];exact e
     ·have e': ¬((row X i).length:Int)=X.length:=by omega
      rw[a5W (fun h=>e (h.2.2 i hi))]
      simp(disch:=first|assumption|omega) only[go_sem,s0,s4,r4096,s6,s7,hi',a0S ha hi,a0B hr,eq_false e',a1l]
      exact Yaj
    ·rintro sl ro gn ⟨s0,s1,s4,r4096,s6,s7,q⟩
     dsimp only at s0 s1 s4 r4096 s6 s7
     have hi': ¬((X.length:Nat):Int)<(X.length:Nat):=by omega
     have hC:RcC X dl:=⟨⟨by omega,by omega⟩,hD,q⟩
     have hb':isL b (rws (fun i=>((dvN dl i:Nat):Int)) X.length):=by rw[←hD.eq];exact hb
     have hS:SqP X:=fun m hm=>⟨q m hm,a2O (hN m hm).1⟩
     have cr:=cRgS (d:=dvN dl) ha hb' (by omega) (by omega) hS hD.inv
     by_cases hT:TlP X (dvN dl)
     ·rw[b6s hT]at cr
      rw[b5K hC hT]
      have hnf:a0j (rws (fun i=>AV.row (rws (fun j=>AV.row (rws (fun k=>i64 (tN X (dvN dl) i j k)) X.length)) X.length)) X.length)=true:=a0J (tN X (dvN dl)) X.length
      refine Yfd ?_
      refine a0c _ cr PUt rfl rfl ?_
      simp(disch:=first|assumption|omega) only[go_sem,s4,r4096,a0t,a9r,zfe,a1l]
      simp only[zr,zb,a1Z,a1H,a2g,a2S,zes,zez,a1O,zcp,zed,zfi,St.ev,zhk, ↓za, ↓reduceIte,Nat.reduceEqDiff,Nat.reduceLeDiff,a1l,s4]
     ·rw[a8Y hT]at cr
      rw[b0r hC hT]
      refine Yfd ?_
      refine a0c _ cr PUt rfl rfl ?_
      simp(disch:=first|assumption|omega) only[go_sem,s4,r4096,a7L,a1l]
      exact Yaj
   ·have cd:=cDuS (n:=X.length) hb (by omega) (t:=false) ⟨fun h=>Bool.noConfusion h,fun h=>absurd h hD⟩
    rw[a5W (fun h=>hD h.2.1)]
    dsimp only[Tryz.f33,a0b,Option.getD]
    refine Yaq ?_
    refine a0c _ cd PUt rfl rfl ?_
    refine Ybd ?_
    exact Yal
theorem cEqN(ho:isL o O)(ho':isL o' O')(hO:O.length≤a0G)(hO':O'.length≤a0G){t:Bool}(ht:t=true↔O=O'):a0d Tryz.prog 79 [o,o'] (bo t):=by
 have hx2:O.length≤4294967296:=hO
 by_cases h1:O.length=O'.length
 ·have h1':(O.length:Int)=O'.length:=by omega
  refine a0e (fn:=Tryz.f79) (code:=a0b Tryz.f79) Tryz.func79 rfl (by kernel_rfl) (rfl) ?_
  intro sl hs
  have s0:sl 0=o:=hs 0
  have s1:sl 1=o':=hs 1
  dsimp only[Tryz.f79,a0b,Option.getD]
  simp(disch:=first|assumption|omega) only[go_sem,s0,s1,eq_true h1']
  refine a0f (fun x st=>st.sl 0=o∧st.sl 1=o'∧st.sl 12=i64 (O.length:Int)∧st.sl 13=i64 (x:Int)∧(∀j,j<x→atI O j=atI O' j)) O.length ?_ ?_ ?_
  ·refine Yac ?_
   exact⟨rfl,fun x' h=>absurd h (Nat.not_lt_zero _)⟩
  ·rintro x sl ro gn hx ⟨s0,s1,s12,s13,q⟩
   dsimp only at s0 s1 s12 s13
   have hx':(x:Int)<(O.length:Nat):=by omega
   have hx3:x<O'.length:=by omega
   by_cases h2:atI O x=atI O' x
   ·refine Yfm ?_
    refine a0r (by kernel_rfl) ?_
    simp(disch:=first|assumption|omega) only[go_sem,s0,s1,s12,s13]
    refine⟨a0w (by omega),fun y' h=>?_⟩
    rcases Nat.lt_or_ge y' x with h'|h'
    ·exact q y' h'
    ·rw[show y'=x by omega];exact h2
   ·refine Yfm ?_
    refine a0r (by kernel_rfl) ?_
    simp(disch:=first|assumption|omega) only[go_sem]
    refine Yab ?_
    exact a0N ht fun h=>h2 (by rw[h])
  ·rintro sl ro gn ⟨s0,s1,s12,s13,q⟩
   dsimp only at s0 s1 s12 s13
   have hx': ¬((O.length:Nat):Int)<(O.length:Nat):=by omega
   simp(disch:=first|assumption|omega) only[go_sem,s12,s13,hx']
   refine Yab ?_
   exact(ht.2 (a3s h1 q)).symm
 ·have h1': ¬(O.length:Int)=O'.length:=by omega
  refine a0e (fn:=Tryz.f79) (code:=a0b Tryz.f79) Tryz.func79 rfl (by kernel_rfl) (rfl) ?_
  intro sl hs
  have s0:sl 0=o:=hs 0
  have s1:sl 1=o':=hs 1
  dsimp only[Tryz.f79,a0b,Option.getD]
  simp(disch:=first|assumption|omega) only[go_sem,s0,s1,eq_false h1']
  refine Yab ?_
  exact a0N ht fun h=>h1 (by rw[h])
theorem cRc1(ha:isL a x)(hx:x.length≤a0G)(nx:NL x):a0d Tryz.prog 72 [a,.iptr [i64 (n:Nat)]] (bo (!decide (x.length=n))):=by
 have c1:=c115 ha hx
 rw[b8Y.2 nx]at c1
 by_cases h:x.length=n
 ·have h':(x.length:Int)=n:=by omega
  rw[decide_eq_true h]
  refine a0e (fn:=Tryz.f72) (code:=a0b Tryz.f72) Tryz.func72 rfl (by kernel_rfl) (rfl) ?_
  intro sl hs
  have s0:sl 0=a:=hs 0
  have s1:sl 1= .iptr [i64 (n:Nat)]:=hs 1
  dsimp only[Tryz.f72,a0b,Option.getD]
  simp(disch:=first|assumption|omega) only[go_sem,s0,s1,a0B ha,eq_true h']
  refine a0c _ c1 PUt rfl rfl ?_
  refine Ybt ?_
  exact Yaa
 ·have h': ¬(x.length:Int)=n:=by omega
  rw[decide_eq_false h]
  refine a0e (fn:=Tryz.f72) (code:=a0b Tryz.f72) Tryz.func72 rfl (by kernel_rfl) (rfl) ?_
  intro sl hs
  have s0:sl 0=a:=hs 0
  have s1:sl 1= .iptr [i64 (n:Nat)]:=hs 1
  dsimp only[Tryz.f72,a0b,Option.getD]
  simp(disch:=first|assumption|omega) only[go_sem,s0,s1,a0B ha,eq_false h']
  exact Yaa
end
end Go.Proofs.YtbakhfiibjkifaaGreat
/- Characters: RingOfCharacters by the program. -/
namespace Go.Proofs.YtbakhfiibjkifaaGreat
open Go.RowKit
set_option maxRecDepth 1000000
section
variable{X:List (List Int)}{x dl O O':List Int}{a b o o':AV}{n:Nat}
theorem a2j.cub{F:Nat→Nat→Nat→Int}{n:Nat}(h0:0<n)(h:a2j (a0L F n)):a3K F n:=((a4S h0).1 h.1).1
set_option maxHeartbeats 8000000 in
theorem cRcI(ha:a2t a X)(hb:isL b dl)(hX:X.length≤a0G)(hdl:dl.length≤a0G)(hN: ∀m,m<X.length→NL (row X m)∧(row X m).length≤a0G):a0d Tryz.prog 32 [a,b] (.tup [.agg [(rcV X dl).1],i64 (rcV X dl).2]):=by
 have hX':X.length≤4294967296:=hX
 have cc: ∀ {t:Bool},(t=true↔ ∃y,y<X.length∧(!decide ((row X y).length=X.length))=true)→a0d Tryz.prog 73 [a,.fn 72 [.iptr [i64 (X.length:Nat)]]] (bo t):=fun {t} ht=>
  c127 (t:=t) (p:=fun y=>!decide ((row X y).length=X.length)) ha hX rfl rfl (fun y hy=>cRc1 (a0m ha hy) (hN y hy).2 (hN y hy).1) ht
 refine a0e (fn:=Tryz.f32) (code:=a0b Tryz.f32) Tryz.func32 rfl (by kernel_rfl) (a8N) ?_
 intro sl hs
 have s0:sl 0=a:=hs 0
 have s1:sl 1=b:=hs 1
 by_cases h0:X.length<1
 ·have h0':(X.length:Int)<1:=by omega
  rw[a5W (fun h=>by have:=h.1.1;omega)]
  dsimp only[Tryz.f32,a0b,Option.getD]
  refine Yek ?_
  exact Yal
 ·have h0': ¬(X.length:Int)<1:=by omega
  by_cases h16:16<X.length
  ·have h16':(16:Int)<X.length:=by omega
   rw[a5W (fun h=>by have:=h.1.2;omega)]
   dsimp only[Tryz.f32,a0b,Option.getD]
   refine Ydp ?_
   exact Yal
  ·have h16': ¬(16:Int)<X.length:=by omega
   by_cases hR: ∀m,m<X.length→(row X m).length=X.length
   ·have c1:=cc (t:=false) ⟨fun h=>(nomatch h),fun⟨y,hy,h⟩=>by rw[decide_eq_true (hR y hy)]at h;exact(nomatch h)⟩
    by_cases hl:dl.length=X.length
    ·have cw:=c40 (a:=(dl.length:Int)) (b:=(X.length:Int)) (c:=(X.length:Int))
     rw[decide_eq_true (by omega)]at cw
     by_cases hD:DuP X.length dl
     ·have cd:=cDuI hb hl (by omega) (t:=true) ⟨fun _=>hD,fun _=>rfl⟩
      have hC:RcC X dl:=⟨⟨by omega,by omega⟩,hD,hR⟩
      have hS:SqP X:=fun m hm=>⟨hR m hm,a2O (hN m hm).1⟩
      have hl2:(rws (fun i=>((dvN dl i:Nat):Int)) X.length).length=X.length:=zfe _ _
      have hdI:=hD.inv
      have hb':isL (a3q (rws (fun i=>((dvN dl i:Nat):Int)) X.length)) (rws (fun i=>((dvN dl i:Nat):Int)) X.length):=a0n _
      dsimp only[Tryz.f32,a0b,Option.getD]
      refine Yaq ?_
      refine a0z _ c1 (.cons (a2G ha (by decide)) (.cons (a4o (.cons (a2y Ur (.cons (a1f _ _ _ (by decide)) .nil)) .nil)) .nil)) rfl rfl rfl ?_
      refine Ybz ?_
      refine a0c _ cw PUt rfl rfl ?_
      refine Ybt ?_
      refine a0c _ cd PUt rfl rfl ?_
      refine Ybz ?_
      refine a0f (fun i st=>st.sl 0=a∧st.sl 4= .ptr 4096 1 [] 0∧st.ro 4096 1=some (.bx [a1q])∧st.sl 8= .ref 24576 (st.gn 24576) [] 0 i∧st.ro 24576 (st.gn 24576)=some (a0H (rws (fun k=>((dvN dl k:Nat):Int)) i))∧st.sl 43=b∧st.sl 44=i64 (dl.length:Nat)∧st.sl 45=i64 (i:Int)) X.length ?_ ?_ ?_
      ·refine Yac ?_
       repeat' first|rfl|apply And.intro
      ·rintro i sl ro gn hi ⟨s0,s4,r4096,s8,r24576,s43,s44,s45⟩
       dsimp only at s0 s4 r4096 s8 r24576 s43 s44 s45
       have hi':(i:Int)<(X.length:Nat):=by omega
       have hil:i<dl.length:=by omega
       have hil':(i:Int)<(dl.length:Nat):=by omega
       have ei:atI dl i=(dvN dl i:Nat):=hD.at hi
       have hi2:i+1≤4294967296:=by omega
       have hl5:(rws (fun k=>((dvN dl k:Nat):Int)) i).length=i:=zfe _ _
       rw[a0H,a0y]at r24576
       simp(disch:=first|assumption|omega) only[go_sem,s0,s4,r4096,s8,r24576,s43,s44,s45,a0s hb hil,ei,hil',hi2]
       refine⟨?_,a0w (by omega)⟩
       rw[a0H,a0y]
      ·rintro sl ro gn ⟨s0,s4,r4096,s8,r24576,s43,s44,s45⟩
       dsimp only at s0 s4 r4096 s8 r24576 s43 s44 s45
       have hi': ¬((X.length:Nat):Int)<(X.length:Nat):=by omega
       have hil': ¬(X.length:Int)<(dl.length:Nat):=by omega
       have hqd: ∀ro2:Ro,ro2 24576 (gn 24576)=ro 24576 (gn 24576)→exq 8 ro2 (.ref 24576 (gn 24576) [] 0 X.length) (a3q (rws (fun i=>((dvN dl i:Nat):Int)) X.length)):=fun ro2 h=>a0q (h.trans r24576) hl2.symm (by decide)
       by_cases hz: ∀m,m<X.length→tC X.length (dvN dl) (X.getD m [])≠0
       ·by_cases hq:a3K (tN X (dvN dl)) X.length
        ·have kt:=cTl1 ha hb' (by omega) (by omega) hS hdI hz (t:=true) ⟨fun _=>hq,fun _=>rfl⟩
         have hnf:a0j (rws (fun i=>AV.row (rws (fun j=>AV.row (rws (fun k=>i64 (tN X (dvN dl) i j k)) X.length)) X.length)) X.length)=true:=a0J (tN X (dvN dl)) X.length
         have hnI:noI (.tup [.agg [a0t (tN X (dvN dl)) X.length],bo true])=true:=by
          have:=a2q (tN X (dvN dl)) X.length
          simp only[noI,a2R,Bool.and_true]at this ⊢
          exact this
         have hlen:=a3I X (dvN dl)
         have hcI:a0F (b2Q (tN X (dvN dl)) X.length) (tR X (dvN dl)):=a0V _ _
         have hcub:a1e (tR X (dvN dl)):=(a4S (by omega)).2 ⟨hq,by omega⟩
         have hqc: ∀(ro2:Ro) (g:Nat),ro2 49184 g=some (a0t (tN X (dvN dl)) X.length)→exq 8 ro2 (.agg [.ref 49184 g [] 0 X.length]) (.agg [b2Q (tN X (dvN dl)) X.length]):=fun ro2 g h=>a1E (n:=7) (.cons (a1k h (by decide)) .nil)
         refine Yci ?_
         refine a0z _ kt (.cons (a2G ha (by decide)) (.cons (hqd _ Ur) .nil)) rfl rfl hnI ?_
         refine Ydb ?_
         by_cases hRg:a2j (tR X (dvN dl))
         ·have k1:=a2n hcI hcub.sz (t:=true) ⟨fun _=>hRg,fun _=>rfl⟩
          have k2:=a5B hcI hcub (t:=true) ⟨fun _=>b9Q X (dvN dl),fun _=>rfl⟩
          have k3:=b0f hcI hcub
          rw[a4U hRg,hlen]at k3
          have hl3:(rws (fun i=>((dd (tR X (dvN dl)) i:Nat):Int)) X.length).length=X.length:=zfe _ _
          refine a0z _ k1 (.cons (hqc _ _ Ur) .nil) rfl rfl rfl ?_
          refine Ybb ?_
          refine a0z _ k2 (.cons (hqc _ _ Ur) .nil) rfl rfl rfl ?_
          refine Ybb ?_
          refine a0z _ k3 (.cons (hqc _ _ Ur) .nil) rfl rfl (a1j _) ?_
          simp(disch:=first|assumption|omega) only[go_sem,s8,a0i,List.length_map,hl3]
          by_cases hE: ∀i,i<X.length→dd (tR X (dvN dl)) i=dvN dl i
          ·have k4:=cEqN (a0n (rws (fun i=>((dd (tR X (dvN dl)) i:Nat):Int)) X.length)) hb' (by rw[hl3];unfold a0G;omega) (by rw[hl2];unfold a0G;omega) (t:=true) ⟨fun _=>a0g fun i hi=>by rw[hE i hi],fun _=>rfl⟩
           rw[b5K hC ⟨hz,hRg,hE⟩]
           refine a0z _ k4 (.cons (a0q (xs:=rws (fun i=>((dd (tR X (dvN dl)) i:Nat):Int)) X.length) Ur hl3.symm (by decide)) (.cons (hqd _ Ur) .nil)) rfl rfl rfl ?_
           refine Ybb ?_
           simp only[zr,zb,a1Z,a1H,a2g,a2S,zes,zez,a1O,zcp,zed,zfi,St.ev,zhk, ↓za, ↓reduceIte,Nat.reduceEqDiff,Nat.reduceLeDiff,a1l,s4,a0t]
          ·have k4:=cEqN (a0n (rws (fun i=>((dd (tR X (dvN dl)) i:Nat):Int)) X.length)) hb' (by rw[hl3];unfold a0G;omega) (by rw[hl2];unfold a0G;omega) (t:=false) ⟨fun h=>Bool.noConfusion h,fun h=>absurd (fun i hi=>by
            have:=congrArg (fun l=>atI l i) h
            simp only[a0P _ hi]at this
            omega) hE⟩
           rw[b0r hC (fun h=>hE h.2.2)]
           refine a0z _ k4 (.cons (a0q (xs:=rws (fun i=>((dd (tR X (dvN dl)) i:Nat):Int)) X.length) Ur hl3.symm (by decide)) (.cons (hqd _ Ur) .nil)) rfl rfl rfl ?_
           refine Ybb ?_
           exact Yaj
         ·have k1:=a2n hcI hcub.sz (t:=false) ⟨fun h=>Bool.noConfusion h,fun h=>absurd h hRg⟩
          rw[b0r hC (fun h=>hRg h.2.1)]
          refine a0z _ k1 (.cons (hqc _ _ Ur) .nil) rfl rfl rfl ?_
          refine Ybb ?_
          exact Yaj
        ·have kt:=cTl1 ha hb' (by omega) (by omega) hS hdI hz (t:=false) ⟨fun h=>Bool.noConfusion h,fun h=>absurd h hq⟩
         have hnf:a0j (rws (fun i=>AV.row (rws (fun j=>AV.row (rws (fun k=>i64 (tN X (dvN dl) i j k)) X.length)) X.length)) X.length)=true:=a0J (tN X (dvN dl)) X.length
         have hnI:noI (.tup [.agg [a0t (tN X (dvN dl)) X.length],bo false])=true:=by
          have:=a2q (tN X (dvN dl)) X.length
          simp only[noI,a2R,Bool.and_true]at this ⊢
          exact this
         rw[b0r hC (fun h=>hq (h.2.1.cub (by omega)))]
         refine Yci ?_
         refine a0z _ kt (.cons (a2G ha (by decide)) (.cons (hqd _ Ur) .nil)) rfl rfl hnI ?_
         refine Ydb ?_
         exact Yaj
       ·have kt:=cTl0 ha hb' (by omega) (by omega) hS hdI hz
        rw[b0r hC (fun h=>hz h.1)]
        refine Yci ?_
        refine a0z _ kt (.cons (a2G ha (by decide)) (.cons (hqd _ Ur) .nil)) rfl rfl rfl ?_
        simp(disch:=first|assumption|omega) only[go_sem,s4,r4096,a7L,a1l]
        exact Yaj
     ·have cd:=cDuI hb hl (by omega) (t:=false) ⟨fun h=>Bool.noConfusion h,fun h=>absurd h hD⟩
      rw[a5W (fun h=>hD h.2.1)]
      dsimp only[Tryz.f32,a0b,Option.getD]
      refine Yaq ?_
      refine a0z _ c1 (.cons (a2G ha (by decide)) (.cons (a4o (.cons (a2y Ur (.cons (a1f _ _ _ (by decide)) .nil)) .nil)) .nil)) rfl rfl rfl ?_
      refine Ybz ?_
      refine a0c _ cw PUt rfl rfl ?_
      refine Ybt ?_
      refine a0c _ cd PUt rfl rfl ?_
      refine Ybd ?_
      exact Yal
    ·have cw:=c40 (a:=(dl.length:Int)) (b:=(X.length:Int)) (c:=(X.length:Int))
     rw[decide_eq_false (by omega)]at cw
     rw[a5W (fun h=>hl h.2.1.1)]
     dsimp only[Tryz.f32,a0b,Option.getD]
     refine Yaq ?_
     refine a0z _ c1 (.cons (a2G ha (by decide)) (.cons (a4o (.cons (a2y Ur (.cons (a1f _ _ _ (by decide)) .nil)) .nil)) .nil)) rfl rfl rfl ?_
     refine Ybz ?_
     refine a0c _ cw PUt rfl rfl ?_
     refine Ybd ?_
     exact Yal
   ·have c1:=cc (t:=true) ⟨fun _=>Classical.byContradiction fun hne=>hR fun m hm=>Classical.byContradiction fun hl=>hne ⟨m,hm,by rw[decide_eq_false hl];rfl⟩,fun _=>rfl⟩
    rw[a5W (fun h=>hR h.2.2)]
    dsimp only[Tryz.f32,a0b,Option.getD]
    refine Yaq ?_
    refine a0z _ c1 (.cons (a2G ha (by decide)) (.cons (a4o (.cons (a2y Ur (.cons (a1f _ _ _ (by decide)) .nil)) .nil)) .nil)) rfl rfl rfl ?_
    refine Ybd ?_
    exact Yal
end
def prF(F F':Nat→Nat→Nat→Int)(m:Nat)(x y z:Nat):Int:=F (x / m) (y / m) (z / m)*F' (x % m) (y % m) (z % m)
def prX(x y:List Int):List Int:=rws (fun q=>atI x (q / y.length)*atI y (q % y.length) % 55441) (x.length*y.length)
def prT(T U:List (List (List Int))):List (List (List Int)):=a0L (prF (at3 T) (at3 U) U.length) (T.length*U.length)
section
variable{T U:List (List (List Int))}{x y:List Int}
theorem a8i(T U:List (List (List Int))):(prT T U).length=T.length*U.length:=zfe _ _
theorem b0e(x y:List Int):(prX x y).length=x.length*y.length:=zfe _ _
theorem b8I(hR:a2j T){i k:Nat}(hi:i<T.length)(hk:k<T.length):at3 T i 0 k=dlt i k:=by
 have h:=a0u.1 (a0u.1 (a6j hR.2).1 i hi) k hk
 unfold p1 at h
 split at h
 ·rename_i e;exact e.2
 ·cases h
theorem c3C(hR:a2j T){i j k l:Nat}(hi:i<T.length)(hj:j<T.length)(hk:k<T.length)(hl:l<T.length):sm (lft T i j k l) T.length=sm (rgt T i j k l) T.length:=by
 have h:=a0u.1 (a0u.1 (a0u.1 (a0u.1 (a6j hR.2).2.2.2 i hi) j hj) k hk) l hl
 unfold p4 at h
 split at h
 ·rename_i e;exact e
 ·cases h
theorem b8J(hR:a2j T){i j:Nat}(hi:i<T.length)(hj:j<T.length):at3 T i j 0=if j=dd T i then 1 else 0:=by
 have h1:=(b2X hR hi).1
 unfold dlT at h1
 rcases b2p (fun j=>at3 T i j 0) T.length with⟨q,⟨a1,a2,a3⟩,h2⟩|⟨-, h2⟩
 ·rw[h2]at h1
  have e:q=dd T i:=by omega
  subst e
  by_cases h:j=dd T i
  ·rw[if_pos h,h];exact a2
  ·rw[if_neg h];exact a3 j hj h
 ·rw[h2]at h1
  omega
theorem b5v(hc:a1e T):a3K (at3 T) T.length:=fun i hi j hj k hk=>(((hc.2.2 i hi).2 j hj).2 k hk)
theorem c1g(hR:a2j T)(hU:a2j U)(h16:T.length*U.length≤16)(hc:a3K (prF (at3 T) (at3 U) U.length) (T.length*U.length)):a2j (prT T U):=by
 have hm:0<U.length:=hU.1.1
 have hp:0<T.length*U.length:=Nat.mul_pos hR.1.1 hm
 have hs: ∀i,i<T.length*U.length→(dd T (i / U.length)*U.length+dd U (i % U.length)) / U.length=dd T (i / U.length)∧(dd T (i / U.length)*U.length+dd U (i % U.length)) % U.length=dd U (i % U.length):=fun i hi=>c3o (b2X hU (a3j hi).2).2
 refine b7R hp h16 (σ:=fun x=>dd T (x / U.length)*U.length+dd U (x % U.length)) hc (fun x hx z hz=>?_) (fun x hx=>?_) (fun x hx y hy=>?_) (fun x hx y hy z hz=>?_) (fun x hx y hy z hz w hw=>?_)
 ·obtain⟨x1,x2⟩:=a3j hx
  obtain⟨z1,z2⟩:=a3j hz
  unfold prF
  rw[Nat.zero_div,Nat.zero_mod,b9G hR x1 z1,b9G hU x2 z2,b8I hR x1 z1,b8I hU x2 z2,b6G hm]
  exact⟨rfl,rfl⟩
 ·obtain⟨x1,x2⟩:=a3j hx
  obtain⟨e1,e2⟩:=hs x hx
  refine⟨c5e (b2X hR x1).2 (b2X hU x2).2,?_⟩
  rw[e1,e2,b9f hR x1,b9f hU x2,b1O]
 ·obtain⟨x1,x2⟩:=a3j hx
  obtain⟨y1,y2⟩:=a3j hy
  unfold prF
  rw[Nat.zero_div,Nat.zero_mod,b8J hR x1 y1,b8J hU x2 y2]
  have hd:=(b2X hU x2).2
  by_cases h:y=dd T (x / U.length)*U.length+dd U (x % U.length)
  ·obtain⟨e1,e2⟩:=(c2b hd).1 h
   rw[if_pos h,if_pos e1,if_pos e2];rfl
  ·rw[if_neg h]
   by_cases e1:y / U.length=dd T (x / U.length)
   ·by_cases e2:y % U.length=dd U (x % U.length)
    ·exact absurd ((c2b hd).2 ⟨e1,e2⟩) h
    ·rw[if_neg e2,Int.mul_zero]
   ·rw[if_neg e1,Int.zero_mul]
 ·obtain⟨x1,x2⟩:=a3j hx
  obtain⟨y1,y2⟩:=a3j hy
  obtain⟨z1,z2⟩:=a3j hz
  obtain⟨a1,a2⟩:=hs x hx
  obtain⟨b1,b2⟩:=hs y hy
  unfold prF
  rw[a1,a2,b1,b2, ←(a8o hR x1 y1 z1).1, ←(a8o hU x2 y2 z2).1, ←(a8o hR x1 y1 z1).2, ←(a8o hU x2 y2 z2).2]
  exact⟨rfl,rfl⟩
 ·obtain⟨x1,x2⟩:=a3j hx
  obtain⟨y1,y2⟩:=a3j hy
  obtain⟨z1,z2⟩:=a3j hz
  obtain⟨w1,w2⟩:=a3j hw
  have e1:sm (fun q=>prF (at3 T) (at3 U) U.length x y q*prF (at3 T) (at3 U) U.length q z w) (T.length*U.length)=sm (lft T (x / U.length) (y / U.length) (z / U.length) (w / U.length)) T.length*sm (lft U (x % U.length) (y % U.length) (z % U.length) (w % U.length)) U.length:=by
   rw[←a8q]
   refine a0k fun q _=>?_
   unfold prF lft
   exact c3N _ _ _ _
  have e2:sm (fun q=>prF (at3 T) (at3 U) U.length y z q*prF (at3 T) (at3 U) U.length x q w) (T.length*U.length)=sm (rgt T (x / U.length) (y / U.length) (z / U.length) (w / U.length)) T.length*sm (rgt U (x % U.length) (y % U.length) (z % U.length) (w % U.length)) U.length:=by
   rw[←a8q]
   refine a0k fun q _=>?_
   unfold prF rgt
   exact c3N _ _ _ _
  rw[e1,e2,c3C hR x1 y1 z1 w1,c3C hU x2 y2 z2 w2]
theorem c4h(hC:CmP T)(hD:CmP U):CmP (prT T U):=fun i hi j hj=>by
 rw[a8i]at hi
 have hj':j<T.length*U.length:=by omega
 unfold prT
 rw[a1o hi,a1o hj',a1A _ hj',a1A _ hi]
 refine a0g fun k hk=>?_
 obtain⟨i1,i2⟩:=a3j hi
 obtain⟨j1,j2⟩:=a3j hj'
 unfold prF
 rw[c2L hC i1 j1,c2L hD i2 j2]
theorem c3t{q:Nat}(hq:q<x.length*y.length):MM (atI (prX x y) q) (atI x (q / y.length)*atI y (q % y.length)):=by
 unfold prX
 rw[a0P _ hq]
 exact MM.mod _
theorem c2V(x y:List Int):NL (prX x y):=fun j hj=>by
 rw[b0e]at hj
 unfold prX
 rw[a0P _ hj]
 omega
theorem c4P(hx:chP T x)(hy:chP U y)(lx:x.length=T.length)(ly:y.length=U.length)(h1:0<T.length)(h2:0<U.length):chP (prT T U) (prX x y):=by
 have hp:0<T.length*U.length:=Nat.mul_pos h1 h2
 have ha: ∀q,q<T.length*U.length→MM (atI (prX x y) q) (atI x (q / U.length)*atI y (q % U.length)):=fun q hq=>by
  have:=c3t (x:=x) (y:=y) (q:=q) (by rw[lx,ly];exact hq)
  rw[ly]at this
  exact this
 refine⟨fun i hi j hj=>?_,?_⟩
 ·rw[a8i]at hi hj
  obtain⟨i1,i2⟩:=a3j hi
  obtain⟨j1,j2⟩:=a3j hj
  unfold b8Q
  rw[a8i]
  show MM _ _
  have e1:MM (sm (fun k=>at3 (prT T U) i j k*atI (prX x y) k) (T.length*U.length)) (sm (fun k=>(at3 T (i / U.length) (j / U.length) (k / U.length)*atI x (k / U.length))*(at3 U (i % U.length) (j % U.length) (k % U.length)*atI y (k % U.length))) (T.length*U.length)):=a1P fun k hk=>by
   unfold prT
   rw[a1c hi hj hk]
   unfold prF
   refine(MM.mul MM.rfl (ha k hk)).trans (MM.of_eq ?_)
   exact c3N _ _ _ _
  refine e1.trans ?_
  rw[a8q (fun a=>at3 T (i / U.length) (j / U.length) a*atI x a) (fun b=>at3 U (i % U.length) (j % U.length) b*atI y b)]
  refine(MM.mul (hx.1 _ i1 _ j1) (hy.1 _ i2 _ j2)).trans ?_
  refine(MM.of_eq (c3N _ _ _ _)).trans (MM.mul (ha i hi).symm (ha j hj).symm)
 ·unfold prX
  rw[a0P _ (by rw[lx,ly];exact hp),Nat.zero_div,Nat.zero_mod,hx.2,hy.2]
  rfl
end
theorem tdv(x m:Nat):Int.tdiv (x:Int) (m:Int)=((x / m:Nat):Int):=by rw[Int.tdiv_eq_ediv_of_nonneg (Int.natCast_nonneg _)];rfl
theorem tmd(x m:Nat):Int.tmod (x:Int) (m:Int)=((x % m:Nat):Int):=by rw[Int.tmod_eq_emod_of_nonneg (Int.natCast_nonneg _)];rfl
theorem c1z{k:Nat}(h:k≤1000):wrF (k:Int)=k:=zfu (by omega) (by omega)
section
variable{c c':AV}{F F':Nat→Nat→Nat→Int}{n m:Nat}
theorem cPR(hc:a0F c (a0L F n))(hc':a0F c' (a0L F' m))(hn:0<n)(hm:0<m)(h16:n*m≤16)(hF:a3K F n)(hF':a3K F' m):a0d Tryz.prog 83 [.agg [c],.agg [c']] (.agg [a0t (prF F F' m) (n*m)]):=by
 have e1:(n:Int)*m=(n*m:Nat):=by omega
 have hpp:0<n*m:=Nat.mul_pos hn hm
 have lX:(a0L F n).length=n:=zfe _ _
 have lX':(a0L F' m).length=m:=zfe _ _
 have hn1:n≤16:=Nat.le_trans (Nat.le_mul_of_pos_right _ hm) h16
 have hm1:m≤16:=Nat.le_trans (Nat.le_mul_of_pos_left _ hn) h16
 refine a0e (fn:=Tryz.f83) (code:=a0b Tryz.f83) Tryz.func83 rfl (by kernel_rfl) (b2F _ (a0J _ _)) ?_
 intro sl hs
 have s0:sl 0= .agg [c]:=hs 0
 have s1:sl 1= .agg [c']:=hs 1
 dsimp only[Tryz.f83,a0b,Option.getD]
 simp(disch:=first|assumption|omega) only[go_sem,s0,s1,lX,lX',e1]
 refine a0c _ (c103 hpp (by unfold a0G;omega)) rfl rfl rfl ?_
 refine Ybt ?_
 refine a0f (fun x st=>st.sl 2= .ptr 4096 1 [] 0∧st.ro 4096 1=some (.bx [c])∧st.sl 3= .ptr 4112 1 [] 0∧st.ro 4112 1=some (.bx [c'])∧st.sl 4= .ptr 4128 1 [] 0∧st.ro 4128 1=some (.bx [a1q])∧st.sl 5=i64 (m:Int)∧st.sl 6= .ptr 12384 1 [] 0∧st.ro 12384 1=some (.bx [.ref 12368 1 [] 0 (n*m)])∧st.sl 21=i64 (n*m:Nat)∧st.sl 22=i64 (x:Int)∧st.ro 12368 1=some (a0t (pgF (prF F F' m) x 0 0) (n*m))) ((n*m)) ?_ ?_ ?_
 ·refine Yac ?_
  refine⟨rfl,congrArg some (a1I fun i j k _ _ _=>?_)⟩
  simp[pgF]
 ·rintro x sl ro gn hx ⟨s2,r4096,s3,r4112,s4,r4128,s5,s6,r12384,s21,s22,r12368⟩
  dsimp only at s2 r4096 s3 r4112 s4 r4128 s5 s6 r12384 s21 s22 r12368
  have hx':(x:Int)<((n*m):Nat):=by omega
  obtain⟨x1,x2⟩:=a3j hx
  have w1:wrF ((x / m:Nat):Int)=(x / m:Nat):=c1z (by omega)
  have w2:wrF ((x % m:Nat):Int)=(x % m:Nat):=c1z (by omega)
  have hi:=a0o hc (k:=x / m) (by omega)
  have hi':=a0o hc' (k:=x % m) (by omega)
  have lm:(mat (a0L F n) (x / m)).length=n:=by rw[a1o x1,zfe]
  have lm':(mat (a0L F' m) (x % m)).length=m:=by rw[a1o x2,zfe]
  simp(disch:=first|assumption|omega) only[go_sem,s6,r12384,s21,s22,r12368,hx']
  refine a0f (fun y st=>st.sl 2= .ptr 4096 1 [] 0∧st.ro 4096 1=some (.bx [c])∧st.sl 3= .ptr 4112 1 [] 0∧st.ro 4112 1=some (.bx [c'])∧st.sl 4= .ptr 4128 1 [] 0∧st.ro 4128 1=some (.bx [a1q])∧st.sl 5=i64 (m:Int)∧st.sl 6= .ptr 12384 1 [] 0∧st.ro 12384 1=some (.bx [.ref 12368 1 [] 0 (n*m)])∧st.sl 21=i64 (n*m:Nat)∧st.sl 22=i64 (x:Int)∧st.ro 12368 1=some (a0t (pgF (prF F F' m) x y 0) (n*m))∧st.sl 7=i64 (x:Int)∧st.sl 27=i64 (n*m:Nat)∧st.sl 28=i64 (y:Int)) ((n*m)) ?_ ?_ ?_
  ·simp only[↓za, ↓reduceIte,Nat.reduceEqDiff,zb,s2,r4096,s3,r4112,s4,r4128,s5,s6,r12384,s21,s22,r12368]
   exact rfl
  ·rintro y sl ro gn hy ⟨s2,r4096,s3,r4112,s4,r4128,s5,s6,r12384,s21,s22,r12368,s7,s27,s28⟩
   dsimp only at s2 r4096 s3 r4112 s4 r4128 s5 s6 r12384 s21 s22 r12368 s7 s27 s28
   have hy':(y:Int)<((n*m):Nat):=by omega
   obtain⟨y1,y2⟩:=a3j hy
   have w3:wrF ((y / m:Nat):Int)=(y / m:Nat):=c1z (by omega)
   have w4:wrF ((y % m:Nat):Int)=(y % m:Nat):=c1z (by omega)
   have hj:=a0m hi (k:=y / m) (by omega)
   have hj':=a0m hi' (k:=y % m) (by omega)
   have lr:(row (mat (a0L F n) (x / m)) (y / m)).length=n:=by rw[a1o x1,a1A _ y1,zfe]
   have lr':(row (mat (a0L F' m) (x % m)) (y % m)).length=m:=by rw[a1o x2,a1A _ y2,zfe]
   simp(disch:=first|assumption|omega) only[go_sem,s6,r12384,r12368,s27,s28,hy']
   refine a0f (fun z st=>st.sl 2= .ptr 4096 1 [] 0∧st.ro 4096 1=some (.bx [c])∧st.sl 3= .ptr 4112 1 [] 0∧st.ro 4112 1=some (.bx [c'])∧st.sl 4= .ptr 4128 1 [] 0∧st.ro 4128 1=some (.bx [a1q])∧st.sl 5=i64 (m:Int)∧st.sl 6= .ptr 12384 1 [] 0∧st.ro 12384 1=some (.bx [.ref 12368 1 [] 0 (n*m)])∧st.sl 21=i64 (n*m:Nat)∧st.sl 22=i64 (x:Int)∧st.sl 7=i64 (x:Int)∧st.sl 27=i64 (n*m:Nat)∧st.sl 28=i64 (y:Int)∧st.ro 12368 1=some (a0t (pgF (prF F F' m) x y z) (n*m))∧st.sl 8=i64 (y:Int)∧st.sl 33=i64 (n*m:Nat)∧st.sl 34=i64 (z:Int)) ((n*m)) ?_ ?_ ?_
   ·simp only[↓za, ↓reduceIte,Nat.reduceEqDiff,zb,s2,r4096,s3,r4112,s4,r4128,s5,s6,r12384,s21,s22,r12368,s7,s27,s28]
    exact rfl
   ·rintro z sl ro gn hz ⟨s2,r4096,s3,r4112,s4,r4128,s5,s6,r12384,s21,s22,s7,s27,s28,r12368,s8,s33,s34⟩
    dsimp only at s2 r4096 s3 r4112 s4 r4128 s5 s6 r12384 s21 s22 s7 s27 s28 r12368 s8 s33 s34
    have hz':(z:Int)<((n*m):Nat):=by omega
    obtain⟨z1,z2⟩:=a3j hz
    have w5:wrF ((z / m:Nat):Int)=(z / m:Nat):=c1z (by omega)
    have w6:wrF ((z % m:Nat):Int)=(z % m:Nat):=c1z (by omega)
    have v1:atI (row (mat (a0L F n) (x / m)) (y / m)) (z / m)=F (x / m) (y / m) (z / m):=a1c x1 y1 z1
    have v2:atI (row (mat (a0L F' m) (x % m)) (y % m)) (z % m)=F' (x % m) (y % m) (z % m):=a1c x2 y2 z2
    have b1:=hF _ x1 _ y1 _ z1
    have b2:=hF' _ x2 _ y2 _ z2
    have p:=a6N b1.1 b1.2 b2.1 b2.2
    simp(disch:=first|assumption|omega) only[go_sem,s2,r4096,s3,r4112,s5,s6,r12384,s7,r12368,s8,s33,s34,hz',hz,tdv,tmd,w1,w3,w5,v1,v2,a0M r12368 hx hy,a1x r12368 hx hy,a1m r12368 hx hy hz]
    refine a0r (by kernel_rfl) ?_
    simp(disch:=first|assumption|omega) only[go_sem,s2,r4096,s3,r4112,s4,r4128,s5,s6,r12384,s21,s22,s7,s27,s28,s8,s33,s34]
    exact⟨congrArg some (b4B _ _ _ _ _),a0w (by omega)⟩
   ·rintro sl ro gn ⟨s2,r4096,s3,r4112,s4,r4128,s5,s6,r12384,s21,s22,s7,s27,s28,r12368,s8,s33,s34⟩
    dsimp only at s2 r4096 s3 r4112 s4 r4128 s5 s6 r12384 s21 s22 s7 s27 s28 r12368 s8 s33 s34
    have hz': ¬(((n*m):Nat):Int)<((n*m):Nat):=by omega
    simp(disch:=first|assumption|omega) only[go_sem,s2,r4096,s3,r4112,s4,r4128,s5,s6,r12384,s21,s22,s7,s27,s28,r12368,s33,s34,hz']
    refine⟨congrArg some (a1I fun i j k _ _ hk=>?_),a0w (by omega)⟩
    have e:(i<x∨(i=x∧(j<y∨(j=y∧k<n*m))))↔(i<x∨(i=x∧(j<y+1∨(j=y+1∧k<0)))):=by omega
    simp only[pgF,e]
  ·rintro sl ro gn ⟨s2,r4096,s3,r4112,s4,r4128,s5,s6,r12384,s21,s22,r12368,s7,s27,s28⟩
   dsimp only at s2 r4096 s3 r4112 s4 r4128 s5 s6 r12384 s21 s22 r12368 s7 s27 s28
   have hy': ¬(((n*m):Nat):Int)<((n*m):Nat):=by omega
   simp(disch:=first|assumption|omega) only[go_sem,s2,r4096,s3,r4112,s4,r4128,s5,s6,r12384,s21,s22,r12368,s27,s28,hy']
   refine⟨a0w (by omega),congrArg some (a1I fun i j k _ hj _=>?_)⟩
   have e:(i<x∨(i=x∧(j<n*m∨(j=n*m∧k<0))))↔(i<x+1∨(i=x+1∧(j<0∨(j=0∧k<0)))):=by omega
   simp only[pgF,e]
 ·rintro sl ro gn ⟨s2,r4096,s3,r4112,s4,r4128,s5,s6,r12384,s21,s22,r12368⟩
  dsimp only at s2 r4096 s3 r4112 s4 r4128 s5 s6 r12384 s21 s22 r12368
  have hx': ¬(((n*m):Nat):Int)<((n*m):Nat):=by omega
  have q1:a0t (pgF (prF F F' m) (n*m) 0 0) (n*m)=a0t (prF F F' m) (n*m):=a1I fun i j k hi _ _=>by simp[pgF,hi]
  rw[q1]at r12368
  simp(disch:=first|assumption|omega) only[go_sem,s4,r4128,s6,r12384,s21,s22,r12368,hx']
  simp only[zr,zb,a1Z,a1H,a2g,a2S,zes,zcp,zed,zfi,St.ev, ↓za, ↓reduceIte,Nat.reduceEqDiff,Nat.reduceLeDiff,a1l,s4,r12368]
end
section
variable{T U:List (List (List Int))}{x y:List Int}{c c' a b:AV}
theorem cPrI(hc:a0F c T)(hc':a0F c' U)(hR:a2j T)(hU:a2j U)(h16:T.length*U.length≤16):(a3K (prF (at3 T) (at3 U) U.length) (T.length*U.length)∧a0d Tryz.prog 41 [.agg [c],.agg [c']] (.tup [.agg [a0t (prF (at3 T) (at3 U) U.length) (T.length*U.length)],i64 0]))∨a0d Tryz.prog 41 [.agg [c],.agg [c']] (.tup [.agg [a1q],i64 3]):=by
 have e1:(T.length:Int)*U.length=(T.length*U.length:Nat):=by omega
 have hp:0<T.length*U.length:=Nat.mul_pos hR.1.1 hU.1.1
 have h16': ¬(16:Int)<(T.length*U.length:Nat):=by omega
 have k1:=a2n hc hR.1.sz (t:=true) ⟨fun _=>hR,fun _=>rfl⟩
 have k2:=a2n hc' hU.1.sz (t:=true) ⟨fun _=>hU,fun _=>rfl⟩
 have k3:=cPR (c:=c) (c':=c') (F:=at3 T) (F':=at3 U) (n:=T.length) (m:=U.length) (a8M hR.1▸hc) (a8M hU.1▸hc') hR.1.1 hU.1.1 h16 (b5v hR.1) (b5v hU.1)
 have hnr:a0j (rws (fun i=>AV.row (rws (fun j=>AV.row (rws (fun k=>i64 (prF (at3 T) (at3 U) U.length i j k)) (T.length*U.length))) (T.length*U.length))) (T.length*U.length))=true:=a0J (prF (at3 T) (at3 U) U.length) (T.length*U.length)
 by_cases hq:a3K (prF (at3 T) (at3 U) U.length) (T.length*U.length)
 ·refine .inl ⟨hq,?_⟩
  have k4:=c0G hp h16 (t:=true) ⟨fun _=>hq,fun _=>rfl⟩
  have hnr2:a0C (.tup [.agg [a0t (prF (at3 T) (at3 U) U.length) (T.length*U.length)],i64 0])=true:=by
   have hc:=a0J (prF (at3 T) (at3 U) U.length) (T.length*U.length)
   show ((a0C (a0t (prF (at3 T) (at3 U) U.length) (T.length*U.length))&&true)&&(true&&true))=true
   rw[hc];rfl
  refine a0e (fn:=Tryz.f41) (code:=a0b Tryz.f41) Tryz.func41 rfl (by kernel_rfl) (hnr2) ?_
  intro sl hs
  have s0:sl 0= .agg [c]:=hs 0
  have s1:sl 1= .agg [c']:=hs 1
  dsimp only[Tryz.f41,a0b,Option.getD]
  refine Ybd ?_
  refine a0c _ k1 PUt rfl rfl ?_
  refine Yat ?_
  refine a0c _ k2 PUt rfl rfl ?_
  refine Yfi ?_
  refine a0c _ k3 PUt rfl rfl ?_
  refine Yef ?_
  refine a0z _ k4 (.cons (a1E (n:=7) (.cons (a1k Ur (by decide)) .nil)) .nil) rfl rfl rfl ?_
  refine Yat ?_
  simp only[zr,zb,a1Z,a1H,a2g,a2S,zes,zez,a1O,zcp,zed,zfi,St.ev,zhk, ↓za, ↓reduceIte,Nat.reduceEqDiff,Nat.reduceLeDiff,a1l]
 ·right
  have k4:=c0G hp h16 (t:=false) ⟨fun h=>Bool.noConfusion h,fun h=>absurd h hq⟩
  refine a0e (fn:=Tryz.f41) (code:=a0b Tryz.f41) Tryz.func41 rfl (by kernel_rfl) (rfl) ?_
  intro sl hs
  have s0:sl 0= .agg [c]:=hs 0
  have s1:sl 1= .agg [c']:=hs 1
  dsimp only[Tryz.f41,a0b,Option.getD]
  refine Ybd ?_
  refine a0c _ k1 PUt rfl rfl ?_
  refine Yat ?_
  refine a0c _ k2 PUt rfl rfl ?_
  refine Yfi ?_
  refine a0c _ k3 PUt rfl rfl ?_
  refine Yef ?_
  refine a0z _ k4 (.cons (a1E (n:=7) (.cons (a1k Ur (by decide)) .nil)) .nil) rfl rfl rfl ?_
  refine Yat ?_
  exact Yal
end
def KC(T:List (List (List Int)))(x:List Int):Prop:=LC T x∧chP T x
open Classical in
noncomputable def pcV(T U:List (List (List Int)))(x y:List Int):Int:=if a2j T∧a2j U then if CmP T∧CmP U then if KC T x∧KC U y then 0 else 2 else 5 else 1
theorem a2W(p:Prop): ∃t:Bool,(t=true↔p):=by
 by_cases h:p
 ·exact⟨true,fun _=>h,fun _=>rfl⟩
 ·exact⟨false,fun h'=>Bool.noConfusion h',fun h'=>absurd h' h⟩
section
variable{T U:List (List (List Int))}{x y:List Int}{c c' a b:AV}
theorem b5l(h: ¬(a2j T∧a2j U)):pcV T U x y=1:=if_neg h
theorem b4e(h:a2j T∧a2j U)(h2: ¬(CmP T∧CmP U)):pcV T U x y=5:=by unfold pcV;rw[if_pos h,if_neg h2]
theorem b0j(h:a2j T∧a2j U)(h2:CmP T∧CmP U)(h3: ¬(KC T x∧KC U y)):pcV T U x y=2:=by unfold pcV;rw[if_pos h,if_pos h2,if_neg h3]
theorem c3A(h:a2j T∧a2j U)(h2:CmP T∧CmP U)(h3:KC T x∧KC U y):pcV T U x y=0:=by unfold pcV;rw[if_pos h,if_pos h2,if_pos h3]
theorem b1B(hc:a0F c T)(hT:a1e T)(ha:isL a x)(hx:x.length≤a0G){t:Bool}(ht:t=true↔KC T x):a0d Tryz.prog 57 [.agg [c],a] (bo t):=by
 by_cases h1:x.length=T.length
 ·by_cases h2:NL x
  ·exact c2a hc hT ha h1 (a2O h2) ⟨fun h=>(ht.1 h).2,fun h=>ht.2 ⟨⟨h1,h2⟩,h⟩⟩
  ·have cn:=c4l ha hx (t:=false) ⟨fun h=>Bool.noConfusion h,fun h=>absurd h h2⟩
   have hl':(x.length:Int)=T.length:=by omega
   have e:false=t:=a0N ht fun h=>h2 h.1.2
   subst e
   refine a0e (fn:=Tryz.f57) (code:=a0b Tryz.f57) Tryz.func57 rfl (by kernel_rfl) (rfl) ?_
   intro sl hs
   have s0:sl 0= .agg [c]:=hs 0
   have s1:sl 1=a:=hs 1
   dsimp only[Tryz.f57,a0b,Option.getD]
   simp(disch:=first|assumption|omega) only[go_sem,s0,s1,a0v hc,a1l,a3i,a0B ha,eq_true hl']
   refine a0c _ cn PUt rfl rfl ?_
   refine Yah ?_
   exact Yaa
 ·have hl': ¬(x.length:Int)=T.length:=by omega
  have e:false=t:=a0N ht fun h=>h1 h.1.1
  subst e
  refine a0e (fn:=Tryz.f57) (code:=a0b Tryz.f57) Tryz.func57 rfl (by kernel_rfl) (rfl) ?_
  intro sl hs
  have s0:sl 0= .agg [c]:=hs 0
  have s1:sl 1=a:=hs 1
  dsimp only[Tryz.f57,a0b,Option.getD]
  simp(disch:=first|assumption|omega) only[go_sem,s0,s1,a0v hc,a1l,a3i,a0B ha,eq_false hl']
  exact Yaa
def pxE(x y:List Int)(q:Nat):Int:=atI x (q / y.length)*atI y (q % y.length) % 55441
theorem b8m{i k:Nat}(hk:k<y.length):pxE x y (i*y.length+k)=atI x i*atI y k % 55441:=by
 unfold pxE
 obtain⟨e1,e2⟩:=c3o (n:=i) hk
 rw[e1,e2]
theorem b3C(x y:List Int):a0H (prX x y)= .row (rws (fun q=>i64 (pxE x y q)) (x.length*y.length)):=by
 unfold prX
 rw[a0H,a0y]
 rfl
theorem c4n(hc:a0F c T)(hc':a0F c' U)(ha:isL a x)(hb:isL b y)(lx:x.length≤a0G)(ly:y.length≤a0G)(h:pcV T U x y≠0):a0d Tryz.prog 40 [.agg [c],.agg [c'],a,b] (.tup [a1q,i64 (pcV T U x y)]):=by
 obtain⟨t1,h1⟩:=a2W (a2j T)
 obtain⟨t2,h2⟩:=a2W (a2j U)
 have k1:=b6y hc h1
 have k2:=b6y hc' h2
 refine a0e (fn:=Tryz.f40) (code:=a0b Tryz.f40) Tryz.func40 rfl (by kernel_rfl) (rfl) ?_
 intro sl hs
 have s0:sl 0= .agg [c]:=hs 0
 have s1:sl 1= .agg [c']:=hs 1
 have s2:sl 2=a:=hs 2
 have s3:sl 3=b:=hs 3
 dsimp only[Tryz.f40,a0b,Option.getD]
 refine Ygo ?_
 refine a0c _ k1 PUt rfl rfl ?_
 cases t1 with
 |false=>
  rw[b5l (fun h=>by have:=h1.2 h.1;cases this)]
  refine Ybk ?_
  exact Yaa
 |true=>
  have hR:=h1.1 rfl
  refine Yap ?_
  refine a0c _ k2 PUt rfl rfl ?_
  cases t2 with
  |false=>
   rw[b5l (fun h=>by have:=h2.2 h.2;cases this)]
   refine Ybk ?_
   exact Yaa
  |true=>
   have hU:=h2.1 rfl
   obtain⟨t3,h3⟩:=a2W (CmP T)
   obtain⟨t4,h4⟩:=a2W (CmP U)
   have k3:=a4F hc hR.1 h3
   have k4:=a4F hc' hU.1 h4
   refine Yap ?_
   refine a0c _ k3 PUt rfl rfl ?_
   cases t3 with
   |false=>
    rw[b4e ⟨hR,hU⟩ (fun h=>by have:=h3.2 h.1;cases this)]
    refine Ybk ?_
    exact Yaa
   |true=>
    have hC:=h3.1 rfl
    refine Yap ?_
    refine a0c _ k4 PUt rfl rfl ?_
    cases t4 with
    |false=>
     rw[b4e ⟨hR,hU⟩ (fun h=>by have:=h4.2 h.2;cases this)]
     refine Ybk ?_
     exact Yaa
    |true=>
     have hD:=h4.1 rfl
     obtain⟨t5,h5⟩:=a2W (KC T x)
     obtain⟨t6,h6⟩:=a2W (KC U y)
     have k5:=b1B hc hR.1 ha lx h5
     have k6:=b1B hc' hU.1 hb ly h6
     refine Yap ?_
     refine a0c _ k5 PUt rfl rfl ?_
     cases t5 with
     |false=>
      rw[b0j ⟨hR,hU⟩ ⟨hC,hD⟩ (fun h=>by have:=h5.2 h.1;cases this)]
      refine Ybk ?_
      exact Yaa
     |true=>
      refine Yap ?_
      refine a0c _ k6 PUt rfl rfl ?_
      cases t6 with
      |false=>
       rw[b0j ⟨hR,hU⟩ ⟨hC,hD⟩ (fun h=>by have:=h6.2 h.2;cases this)]
       refine Ybk ?_
       exact Yaa
      |true=>exact absurd (c3A ⟨hR,hU⟩ ⟨hC,hD⟩ ⟨h5.1 rfl,h6.1 rfl⟩) h
theorem c4Z(hc:a0F c T)(hc':a0F c' U)(ha:isL a x)(hb:isL b y)(hR:a2j T)(hU:a2j U)(hC:CmP T)(hD:CmP U)(hx:KC T x)(hy:KC U y):a0d Tryz.prog 40 [.agg [c],.agg [c'],a,b] (.tup [a0H (prX x y),i64 0]):=by
 have x16:x.length≤16:=by rw[hx.1.1];exact hR.1.2.1
 have y16:y.length≤16:=by rw[hy.1.1];exact hU.1.2.1
 have nx:=a2O hx.1.2
 have ny:=a2O hy.1.2
 have k1:=b6y hc (t:=true) ⟨fun _=>hR,fun _=>rfl⟩
 have k2:=b6y hc' (t:=true) ⟨fun _=>hU,fun _=>rfl⟩
 have k3:=a4F hc hR.1 (t:=true) ⟨fun _=>hC,fun _=>rfl⟩
 have k4:=a4F hc' hU.1 (t:=true) ⟨fun _=>hD,fun _=>rfl⟩
 have k5:=b1B hc hR.1 ha (by unfold a0G;omega) (t:=true) ⟨fun _=>hx,fun _=>rfl⟩
 have k6:=b1B hc' hU.1 hb (by unfold a0G;omega) (t:=true) ⟨fun _=>hy,fun _=>rfl⟩
 refine a0e (fn:=Tryz.f40) (code:=a0b Tryz.f40) Tryz.func40 rfl (by kernel_rfl) (a7D _ _) ?_
 intro sl hs
 have s0:sl 0= .agg [c]:=hs 0
 have s1:sl 1= .agg [c']:=hs 1
 have s2:sl 2=a:=hs 2
 have s3:sl 3=b:=hs 3
 dsimp only[Tryz.f40,a0b,Option.getD]
 refine Ygo ?_
 refine a0c _ k1 PUt rfl rfl ?_
 refine Yap ?_
 refine a0c _ k2 PUt rfl rfl ?_
 refine Yap ?_
 refine a0c _ k3 PUt rfl rfl ?_
 refine Yap ?_
 refine a0c _ k4 PUt rfl rfl ?_
 refine Yap ?_
 refine a0c _ k5 PUt rfl rfl ?_
 refine Yap ?_
 refine a0c _ k6 PUt rfl rfl ?_
 refine Ybk ?_
 refine a0f (fun i st=>st.sl 2=a∧st.sl 3=b∧st.sl 10= .ref 32768 (st.gn 32768) [] 0 (i*y.length)∧st.ro 32768 (st.gn 32768)=some (.row (rws (fun q=>i64 (pxE x y q)) (i*y.length)))∧st.sl 11=i64 (i:Int)) x.length ?_ ?_ ?_
 ·refine Ygj ?_
  simp only[Nat.zero_mul]
  repeat' first|rfl|trivial|apply And.intro
 ·rintro i sl ro gn hi ⟨s2,s3,s10,r32768,s11⟩
  dsimp only at s2 s3 s10 r32768 s11
  have hi':(i:Int)<(x.length:Nat):=by omega
  have him:i*y.length≤16*16:=Nat.mul_le_mul (by omega) y16
  simp(disch:=first|assumption|omega) only[go_sem,s2,s11,hi',a0B ha]
  refine a0f (fun k st=>st.sl 2=a∧st.sl 3=b∧st.sl 10= .ref 32768 (st.gn 32768) [] 0 (i*y.length+k)∧st.ro 32768 (st.gn 32768)=some (.row (rws (fun q=>i64 (pxE x y q)) (i*y.length+k)))∧st.sl 11=i64 (i:Int)∧st.sl 12=i64 (k:Int)) y.length ?_ ?_ ?_
  ·simp only[↓za, ↓reduceIte,Nat.reduceEqDiff,zb,s2,s3,s10,r32768,s11]
   repeat' first|rfl|trivial|apply And.intro
  ·rintro k sl ro gn hk ⟨s2,s3,s10,r32768,s11,s12⟩
   dsimp only at s2 s3 s10 r32768 s11 s12
   have hk':(k:Int)<(y.length:Nat):=by omega
   have hi2:i*y.length+k+1≤4294967296:=by omega
   have n1:=nx i
   have n2:=ny k
   unfold num at n1 n2
   have m1:=a6N n1.1 (show atI x i≤55440 by omega) n2.1 (show atI y k≤55440 by omega)
   have t1:Int.tmod (atI x i*atI y k) 55441=pxE x y (i*y.length+k):=by
    rw[b8m hk];exact Int.tmod_eq_emod_of_nonneg m1.1
   simp(disch:=first|assumption|omega) only[go_sem,s2,s3,s10,r32768,s11,s12,hk',a0B hb,a0s ha hi,a0s hb hk,t1,hi2]
   refine a0r (by kernel_rfl) ?_
   simp(disch:=first|assumption|omega) only[go_sem,s2,s3,s11,s12]
   repeat' first|rfl|exact a0w (by omega)|apply And.intro
  ·rintro sl ro gn ⟨s2,s3,s10,r32768,s11,s12⟩
   dsimp only at s2 s3 s10 r32768 s11 s12
   have hk': ¬((y.length:Nat):Int)<(y.length:Nat):=by omega
   have e:=Nat.succ_mul i y.length
   rw[←e]at s10 r32768
   simp(disch:=first|assumption|omega) only[go_sem,s2,s3,s10,r32768,s11,s12,hk',a0B hb]
   exact a0w (by omega)
 ·rintro sl ro gn ⟨s2,s3,s10,r32768,s11⟩
  dsimp only at s2 s3 s10 r32768 s11
  have hi': ¬((x.length:Nat):Int)<(x.length:Nat):=by omega
  rw[b3C]
  simp(disch:=first|assumption|omega) only[go_sem,s2,s10,s11,hi',a0B ha]
  exact Yeg
end
end Go.Proofs.YtbakhfiibjkifaaGreat
/- Characters of products, by the program; small functions. -/
namespace Go.Proofs.YtbakhfiibjkifaaGreat
open Go.RowKit
set_option maxRecDepth 1000000
section
variable{T U:List (List (List Int))}{x y:List Int}{c c' a b:AV}
theorem c5a(hc:a0F c T)(hc':a0F c' U)(hz:SzP T)(hz':SzP U)(ha:isL a x)(hb:isL b y)(lx:x.length≤a0G)(ly:y.length≤a0G)(h:pcV T U x y≠0):a0d Tryz.prog 39 [.agg [c],.agg [c'],a,b] (.tup [a1q,i64 (pcV T U x y)]):=by
 obtain⟨t1,h1⟩:=a2W (a2j T)
 obtain⟨t2,h2⟩:=a2W (a2j U)
 have k1:=a2n hc hz h1
 have k2:=a2n hc' hz' h2
 refine a0e (fn:=Tryz.f39) (code:=a0b Tryz.f39) Tryz.func39 rfl (by kernel_rfl) (rfl) ?_
 intro sl hs
 have s0:sl 0= .agg [c]:=hs 0
 have s1:sl 1= .agg [c']:=hs 1
 have s2:sl 2=a:=hs 2
 have s3:sl 3=b:=hs 3
 dsimp only[Tryz.f39,a0b,Option.getD]
 refine Yad ?_
 refine a0c _ k1 PUt rfl rfl ?_
 cases t1 with
 |false=>
  rw[b5l (fun h=>by have:=h1.2 h.1;cases this)]
  refine Yar ?_
  exact Yaa
 |true=>
  have hR:=h1.1 rfl
  refine Yad ?_
  refine a0c _ k2 PUt rfl rfl ?_
  cases t2 with
  |false=>
   rw[b5l (fun h=>by have:=h2.2 h.2;cases this)]
   refine Yar ?_
   exact Yaa
  |true=>
   have hU:=h2.1 rfl
   obtain⟨t3,h3⟩:=a2W (CmP T)
   obtain⟨t4,h4⟩:=a2W (CmP U)
   have k3:=a5B hc hR.1 h3
   have k4:=a5B hc' hU.1 h4
   refine Yad ?_
   refine a0c _ k3 PUt rfl rfl ?_
   cases t3 with
   |false=>
    rw[b4e ⟨hR,hU⟩ (fun h=>by have:=h3.2 h.1;cases this)]
    refine Yar ?_
    exact Yaa
   |true=>
    have hC:=h3.1 rfl
    refine Yad ?_
    refine a0c _ k4 PUt rfl rfl ?_
    cases t4 with
    |false=>
     rw[b4e ⟨hR,hU⟩ (fun h=>by have:=h4.2 h.2;cases this)]
     refine Yar ?_
     exact Yaa
    |true=>
     have hD:=h4.1 rfl
     obtain⟨t5,h5⟩:=a2W (LC T x)
     obtain⟨t6,h6⟩:=a2W (LC U y)
     have k5:=b2L hc ha lx h5
     have k6:=b2L hc' hb ly h6
     refine Yad ?_
     refine a0c _ k5 PUt rfl rfl ?_
     cases t5 with
     |false=>
      rw[b0j ⟨hR,hU⟩ ⟨hC,hD⟩ (fun h=>by have:=h5.2 h.1.1;cases this)]
      refine Yar ?_
      exact Yaa
     |true=>
      have hLx:=h5.1 rfl
      refine Yad ?_
      refine a0c _ k6 PUt rfl rfl ?_
      cases t6 with
      |false=>
       rw[b0j ⟨hR,hU⟩ ⟨hC,hD⟩ (fun h=>by have:=h6.2 h.2.1;cases this)]
       refine Yar ?_
       exact Yaa
      |true=>
       have hLy:=h6.1 rfl
       obtain⟨t7,h7⟩:=a2W (chP T x)
       obtain⟨t8,h8⟩:=a2W (chP U y)
       have k7:=b2x hc hR.1 ha hLx.1 (a2O hLx.2) h7
       have k8:=b2x hc' hU.1 hb hLy.1 (a2O hLy.2) h8
       refine Yad ?_
       refine a0c _ k7 PUt rfl rfl ?_
       cases t7 with
       |false=>
        rw[b0j ⟨hR,hU⟩ ⟨hC,hD⟩ (fun h=>by have:=h7.2 h.1.2;cases this)]
        refine Yar ?_
        exact Yaa
       |true=>
        refine Yad ?_
        refine a0c _ k8 PUt rfl rfl ?_
        cases t8 with
        |false=>
         rw[b0j ⟨hR,hU⟩ ⟨hC,hD⟩ (fun h=>by have:=h8.2 h.2.2;cases this)]
         refine Yar ?_
         exact Yaa
        |true=>exact absurd (c3A ⟨hR,hU⟩ ⟨hC,hD⟩ ⟨⟨hLx,h7.1 rfl⟩,hLy,h8.1 rfl⟩) h
theorem c4Y(hc:a0F c T)(hc':a0F c' U)(ha:isL a x)(hb:isL b y)(hR:a2j T)(hU:a2j U)(hC:CmP T)(hD:CmP U)(hx:KC T x)(hy:KC U y):a0d Tryz.prog 39 [.agg [c],.agg [c'],a,b] (.tup [a0H (prX x y),i64 0]):=by
 have x16:x.length≤16:=by rw[hx.1.1];exact hR.1.2.1
 have y16:y.length≤16:=by rw[hy.1.1];exact hU.1.2.1
 have nx:=a2O hx.1.2
 have ny:=a2O hy.1.2
 have k1:=a2n hc hR.1.sz (t:=true) ⟨fun _=>hR,fun _=>rfl⟩
 have k2:=a2n hc' hU.1.sz (t:=true) ⟨fun _=>hU,fun _=>rfl⟩
 have k3:=a5B hc hR.1 (t:=true) ⟨fun _=>hC,fun _=>rfl⟩
 have k4:=a5B hc' hU.1 (t:=true) ⟨fun _=>hD,fun _=>rfl⟩
 have k5:=b2L hc ha (by unfold a0G;omega) (t:=true) ⟨fun _=>hx.1,fun _=>rfl⟩
 have k6:=b2L hc' hb (by unfold a0G;omega) (t:=true) ⟨fun _=>hy.1,fun _=>rfl⟩
 have k7:=b2x hc hR.1 ha hx.1.1 nx (t:=true) ⟨fun _=>hx.2,fun _=>rfl⟩
 have k8:=b2x hc' hU.1 hb hy.1.1 ny (t:=true) ⟨fun _=>hy.2,fun _=>rfl⟩
 refine a0e (fn:=Tryz.f39) (code:=a0b Tryz.f39) Tryz.func39 rfl (by kernel_rfl) (a7D _ _) ?_
 intro sl hs
 have s0:sl 0= .agg [c]:=hs 0
 have s1:sl 1= .agg [c']:=hs 1
 have s2:sl 2=a:=hs 2
 have s3:sl 3=b:=hs 3
 dsimp only[Tryz.f39,a0b,Option.getD]
 refine Yad ?_
 refine a0c _ k1 PUt rfl rfl ?_
 refine Yad ?_
 refine a0c _ k2 PUt rfl rfl ?_
 refine Yad ?_
 refine a0c _ k3 PUt rfl rfl ?_
 refine Yad ?_
 refine a0c _ k4 PUt rfl rfl ?_
 refine Yad ?_
 refine a0c _ k5 PUt rfl rfl ?_
 refine Yad ?_
 refine a0c _ k6 PUt rfl rfl ?_
 refine Yad ?_
 refine a0c _ k7 PUt rfl rfl ?_
 refine Yad ?_
 refine a0c _ k8 PUt rfl rfl ?_
 simp(disch:=first|assumption|omega) only[go_sem,s2,a0B ha]
 refine a0f (fun i st=>st.sl 3=b∧st.sl 54=a∧st.sl 55=i64 (x.length:Nat)∧st.sl 10= .ref 32768 (st.gn 32768) [] 0 (i*y.length)∧st.ro 32768 (st.gn 32768)=some (.row (rws (fun q=>i64 (pxE x y q)) (i*y.length)))∧st.sl 56=i64 (i:Int)) x.length ?_ ?_ ?_
 ·refine Ygj ?_
  simp only[Nat.zero_mul]
  repeat' first|rfl|trivial|apply And.intro
 ·rintro i sl ro gn hi ⟨s3,s54,s55,s10,r32768,s56⟩
  dsimp only at s3 s54 s55 s10 r32768 s56
  have hi':(i:Int)<(x.length:Nat):=by omega
  have him:i*y.length≤16*16:=Nat.mul_le_mul (by omega) y16
  simp(disch:=first|assumption|omega) only[go_sem,s3,s54,s55,s56,hi',a0s ha hi,a0B hb]
  refine a0f (fun k st=>st.sl 3=b∧st.sl 54=a∧st.sl 55=i64 (x.length:Nat)∧st.sl 10= .ref 32768 (st.gn 32768) [] 0 (i*y.length+k)∧st.ro 32768 (st.gn 32768)=some (.row (rws (fun q=>i64 (pxE x y q)) (i*y.length+k)))∧st.sl 56=i64 (i:Int)∧st.sl 12=i64 (atI x i)∧st.sl 60=b∧st.sl 61=i64 (y.length:Nat)∧st.sl 62=i64 (k:Int)) y.length ?_ ?_ ?_
  ·simp only[↓za, ↓reduceIte,Nat.reduceEqDiff,zb,s3,s54,s55,s10,r32768,s56]
   repeat' first|rfl|trivial|apply And.intro
  ·rintro k sl ro gn hk ⟨s3,s54,s55,s10,r32768,s56,s12,s60,s61,s62⟩
   dsimp only at s3 s54 s55 s10 r32768 s56 s12 s60 s61 s62
   have hk':(k:Int)<(y.length:Nat):=by omega
   have hi2:i*y.length+k+1≤4294967296:=by omega
   have n1:=nx i
   have n2:=ny k
   unfold num at n1 n2
   have m1:=a6N n1.1 (show atI x i≤55440 by omega) n2.1 (show atI y k≤55440 by omega)
   have t1:Int.tmod (atI x i*atI y k) 55441=pxE x y (i*y.length+k):=by
    rw[b8m hk];exact Int.tmod_eq_emod_of_nonneg m1.1
   simp(disch:=first|assumption|omega) only[go_sem,s3,s54,s55,s10,r32768,s56,s12,s60,s61,s62,hk',a0s hb hk,t1,hi2]
   repeat' first|rfl|exact a0w (by omega)|apply And.intro
  ·rintro sl ro gn ⟨s3,s54,s55,s10,r32768,s56,s12,s60,s61,s62⟩
   dsimp only at s3 s54 s55 s10 r32768 s56 s12 s60 s61 s62
   have hk': ¬((y.length:Nat):Int)<(y.length:Nat):=by omega
   have e:=Nat.succ_mul i y.length
   rw[←e]at s10 r32768
   simp(disch:=first|assumption|omega) only[go_sem,s3,s54,s55,s10,r32768,s56,s61,s62,hk']
   exact a0w (by omega)
 ·rintro sl ro gn ⟨s3,s54,s55,s10,r32768,s56⟩
  dsimp only at s3 s54 s55 s10 r32768 s56
  have hi': ¬((x.length:Nat):Int)<(x.length:Nat):=by omega
  rw[b3C]
  simp(disch:=first|assumption|omega) only[go_sem,s55,s10,s56,hi']
  exact Yeg
theorem b5e(ha:a0F a T)(hb:a0F b T)(hz:SzP T):a0d Tryz.prog 34 [a,b] (bo true):=by
 have hz1:T.length≤4294967296:=hz.1
 refine a0e (fn:=Tryz.f34) (code:=a0b Tryz.f34) Tryz.func34 rfl (by kernel_rfl) (rfl) ?_
 intro sl hs
 have s0:sl 0=a:=hs 0
 have s1:sl 1=b:=hs 1
 dsimp only[Tryz.f34,a0b,Option.getD]
 simp(disch:=first|assumption|omega) only[go_sem,s0,s1,a3i,a0v ha,a0v hb]
 refine a0f (fun i st=>st.sl 0=a∧st.sl 1=b∧st.sl 5=i64 (i:Int)) T.length ?_ ?_ ?_
 ·refine Yac ?_
  first|done|exact rfl
 ·rintro i sl ro gn hi ⟨s0,s1,s5⟩
  dsimp only at s0 s1 s5
  have hi':(i:Int)<(T.length:Nat):=by omega
  have h1:=a0o ha hi
  have h2:=a0o hb hi
  have hm:=hz.2 i hi
  simp(disch:=first|assumption|omega) only[go_sem,s0,s1,s5,hi',a0v ha,a2N ha hi,a2N hb hi]
  refine a0A _ (c2W h1 h2 hm.1 hm.2 rfl) PUt rfl ?_
  simp(disch:=first|assumption|omega) only[go_sem]
  refine a0r (by kernel_rfl) ?_
  simp(disch:=first|assumption|omega) only[go_sem,s0,s1,s5]
  first|done|exact a0w (by omega)
 ·rintro sl ro gn ⟨s0,s1,s5⟩
  dsimp only at s0 s1 s5
  have hi': ¬((T.length:Nat):Int)<(T.length:Nat):=by omega
  simp(disch:=first|assumption|omega) only[go_sem,s0,s5,hi',a0v ha]
  exact Yaa
theorem c3F(hc:a0F c T)(hR:a2j T)(hC:CmP T):a0d Tryz.prog 35 [.agg [c]] (.tup [bo true,i64 0]):=by
 have k1:=a2n hc hR.1.sz (t:=true) ⟨fun _=>hR,fun _=>rfl⟩
 have k2:=a5B hc hR.1 (t:=true) ⟨fun _=>hC,fun _=>rfl⟩
 refine a0e (fn:=Tryz.f35) (code:=a0b Tryz.f35) Tryz.func35 rfl (by kernel_rfl) (rfl) ?_
 intro sl hs
 have s0:sl 0= .agg [c]:=hs 0
 dsimp only[Tryz.f35,a0b,Option.getD]
 refine Ybq ?_
 refine a0c _ k1 PUt rfl rfl ?_
 refine Ybq ?_
 refine a0c _ k2 PUt rfl rfl ?_
 refine Yao ?_
 exact Yaa
theorem c4H(hc:a0F c T)(hR:a2j T):a0d Tryz.prog 36 [.agg [c]] (.tup [a0H (rws (fun i=>((dd T i:Nat):Int)) T.length),i64 0]):=by
 have h16:=hR.1.2.1
 have k1:=a2n hc hR.1.sz (t:=true) ⟨fun _=>hR,fun _=>rfl⟩
 have k2:=b0f hc hR.1
 rw[a4U hR]at k2
 have hl2:(rws (fun i=>((dd T i:Nat):Int)) T.length).length=T.length:=zfe _ _
 refine a0e (fn:=Tryz.f36) (code:=a0b Tryz.f36) Tryz.func36 rfl (by kernel_rfl) (a7D _ _) ?_
 intro sl hs
 have s0:sl 0= .agg [c]:=hs 0
 dsimp only[Tryz.f36,a0b,Option.getD]
 refine Ybq ?_
 refine a0c _ k1 PUt rfl rfl ?_
 refine Ybq ?_
 refine a0c _ k2 PUt rfl rfl ?_
 simp(disch:=first|assumption|omega) only[go_sem,a0i,List.length_map,hl2]
 refine a0f (fun i st=>st.sl 12= .ref 20496 1 [] 0 T.length∧st.ro 20496 1=some (.row (rws (fun i=>i64 ((dd T i:Nat):Int)) T.length))∧st.sl 13=i64 (T.length:Nat)∧st.sl 14=i64 (i:Int)∧st.sl 4= .ref 16384 (st.gn 16384) [] 0 i∧st.ro 16384 (st.gn 16384)=some (.row (rws (fun i=>i64 ((dd T i:Nat):Int)) i))) T.length ?_ ?_ ?_
 ·refine Yaf ?_
  rw[a0y]
  repeat' first|rfl|apply And.intro
 ·rintro i sl ro gn hi ⟨s12,r20496,s13,s14,s4,r16384⟩
  dsimp only at s12 r20496 s13 s14 s4 r16384
  have hi':(i:Int)<(T.length:Nat):=by omega
  have hi2:i+1≤4294967296:=by omega
  simp(disch:=first|assumption|omega) only[go_sem,s12,r20496,s13,s14,s4,r16384,hi',hi,a0l,hi2]
  exact a0w (by omega)
 ·rintro sl ro gn ⟨s12,r20496,s13,s14,s4,r16384⟩
  dsimp only at s12 r20496 s13 s14 s4 r16384
  have hi': ¬((T.length:Nat):Int)<(T.length:Nat):=by omega
  simp(disch:=first|assumption|omega) only[go_sem,s13,s14,s4,hi']
  simp only[zr,a1Z,a1H,a2g,zes,zez,a1O,zhk, ↓za, ↓reduceIte,Nat.reduceEqDiff,r16384,a0H,a0y]
end
end Go.Proofs.YtbakhfiibjkifaaGreat
