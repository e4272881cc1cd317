/- Texts joined: B1. -/
import Derived.Test.YtbakhfiibjkifaaGreatMh
set_option linter.all false
/- Bytes, numbers of 64 bits without a sign, and the sources of numbers that follow from a code. -/
namespace Go.Proofs.YtbakhfiibjkifaaGreat
open Go.RowKit
set_option maxRecDepth 1000000
attribute [go_sem] a9H
abbrev u64(n:Int):AV:= .sc (.int .u64 n)
abbrev u8(n:Int):AV:= .sc (.int .u8 n)
def isB(a:AV)(xs:List Int):Prop:=a= .imm (xs.map u8)∨(xs=[]∧ ∃o c,a= .sc (.slice o 0 c))
theorem a7A{a:AV}{xs:List Int}(h:isB a xs):a0W a=true:=by
 rcases h with rfl|⟨_,o,c,rfl⟩
 ·simp only[a0W]
  induction xs with
  |nil=>rfl
  |cons x xs ih=>simp only[List.map_cons,a0Q,a0W,ih,Bool.and_self]
 ·rfl
theorem b6e{a:AV}{xs:List Int}(h:isB a xs):zdy a=[]:=by
 rcases h with rfl|⟨_,o,c,rfl⟩<;>rfl
theorem b4z{a:AV}{xs:List Int}(ro:Ro)(h:isB a xs):a1n ro a=true:=by
 rcases h with rfl|⟨_,o,c,rfl⟩<;>rfl
theorem b7t{a:AV}{xs:List Int}(s g:Nat)(p:List Nat)(h:isB a xs):lift s g p a=a:=by
 rcases h with rfl|⟨_,o,c,rfl⟩<;>rfl
theorem c0x{a:AV}{xs:List Int}(h:isB a xs){ro:Ro}{a1:Nat}{a2:Bool}{a3:List Value}{e:Nat}{a5:List (Nat×Nat)}{a6:Option IntKind}{a7 a8:Bool}{a9 a10:Option (Nat×Nat)}:a5x (some ⟨a1,a2,a3,some e,a5,a6,a7,a8,a9,a10⟩) ro a=some ⟨i64 xs.length,none,[],[]⟩:=by
 rcases h with rfl|⟨rfl,o,c,rfl⟩
 ·simp[a5x]
 ·rfl
theorem c1q{a:AV}{xs:List Int}(h:isB a xs){k:Nat}(hk:k<xs.length){ro:Ro}{a1:Nat}{a2:Bool}{a3:List Value}{e:Nat}{a5:List (Nat×Nat)}{a6:Option IntKind}{a7 a8:Bool}{a9 a10:Option (Nat×Nat)}:a5J (some ⟨a1,a2,a3,some e,a5,a6,a7,a8,a9,a10⟩) ro a (i64 (k:Int))=some ⟨.iptr [u8 (atI xs k)],none,[],[]⟩:=by
 rcases h with rfl|⟨rfl,o,c,rfl⟩
 ·simp[a5J,hk,atI]
 ·simp at hk
theorem tiB1:ti0 5=some ⟨1,false,[Value.int .u8 0],none,[],some .u8,false,false,none,none⟩:=by kernel_rfl
theorem tiB2:ti0 22=some ⟨1,false,[Value.slice none 0 0],some 5,[],none,false,false,none,none⟩:=by kernel_rfl
theorem tiB3:ti0 36=some ⟨1,false,[Value.int .u64 0],none,[],some .u64,false,false,none,none⟩:=by kernel_rfl
theorem tiB4:ti0 103=some ⟨3,true,[Value.slice none 0 0,Value.int .i64 0,Value.int .u64 0],none,[(0,22),(1,3),(2,36)],none,false,false,none,none⟩:=by kernel_rfl
attribute [go_sem] c0x c1q b7t b4z b6e a7A tiB1 tiB2 tiB3 tiB4
def wU(n:Int):Int:=IntKind.wrap .u64 n
def shU(n:Int):Int:=n.fdiv (2 ^ 33)
def anU(n:Int):Int:=IntKind.wrap .u64 ((BitVec.ofInt 64 n &&& BitVec.ofInt 64 16777215).toNat:Nat)
theorem a6f(n:Int):0≤anU n∧anU n≤16777215:=by
 have h:(BitVec.ofInt 64 n &&& BitVec.ofInt 64 16777215).toNat≤16777215:=by
  rw[BitVec.toNat_and]
  have:(BitVec.ofInt 64 16777215).toNat=16777215:=by decide
  rw[this]
  exact Nat.and_le_right
 unfold anU
 have e:IntKind.bits .u64=64:=rfl
 have s:IntKind.signed .u64=false:=rfl
 simp only[IntKind.wrap,e,s,Bool.false_and,Bool.false_eq_true,if_false]
 generalize (BitVec.ofInt 64 n &&& BitVec.ofInt 64 16777215).toNat=m at h
 omega
section
variable{ro:Ro}{a b:Int}{a1:Nat}{a2:Bool}{a3:List Value}{e:Option Nat}{a5:List (Nat×Nat)}{a6:Option IntKind}{a7 a8:Bool}{a9 a10:Option (Nat×Nat)}
theorem b9s:a3G (some ⟨a1,a2,a3,e,a5,a6,a7,a8,a9,a10⟩) ro .add (u64 a) (u64 b)=some ⟨u64 (wU (a+b)),none,[],[]⟩:=nr _
theorem c1a:a3G (some ⟨a1,a2,a3,e,a5,a6,a7,a8,a9,a10⟩) ro .mul (u64 a) (u64 b)=some ⟨u64 (wU (a*b)),none,[],[]⟩:=nr _
theorem b9F:a3G (some ⟨a1,a2,a3,e,a5,a6,a7,a8,a9,a10⟩) ro .shr (u64 a) (u64 33)=some ⟨u64 (shU a),none,[],[]⟩:=nr _
theorem c1p:a3G (some ⟨a1,a2,a3,e,a5,a6,a7,a8,a9,a10⟩) ro .and (u64 a) (u64 16777215)=some ⟨u64 (anU a),none,[],[]⟩:=nr _
variable{k1:IntKind}{c1:Nat}{c2:Bool}{c3:List Value}{f:Option Nat}{c5:List (Nat×Nat)}{c7 c8:Bool}{c9 c10:Option (Nat×Nat)}
theorem b7n{ti:Nat→Option TI}{ro:Ro}:b5W ti ro (some ⟨a1,a2,a3,e,a5,some k1,a7,a8,a9,a10⟩) (some ⟨c1,c2,c3,f,c5,some .u64,c7,c8,c9,c10⟩) (i64 a)=some ⟨u64 (wU a),none,[],[]⟩:=nr _
theorem b8c{ti:Nat→Option TI}{ro:Ro}:b5W ti ro (some ⟨a1,a2,a3,e,a5,some k1,a7,a8,a9,a10⟩) (some ⟨c1,c2,c3,f,c5,some .u64,c7,c8,c9,c10⟩) (u8 a)=some ⟨u64 (wU a),none,[],[]⟩:=nr _
theorem b8f{ti:Nat→Option TI}{ro:Ro}:b5W ti ro (some ⟨a1,a2,a3,e,a5,some k1,a7,a8,a9,a10⟩) (some ⟨c1,c2,c3,f,c5,some .i64,c7,c8,c9,c10⟩) (u64 a)=some ⟨i64 (wrF a),none,[],[]⟩:=by rw[b0Y];rfl
theorem b8a{ti:Nat→Option TI}{ro:Ro}:b5W ti ro (some ⟨a1,a2,a3,e,a5,some k1,a7,a8,a9,a10⟩) (some ⟨c1,c2,c3,f,c5,some .i64,c7,c8,c9,c10⟩) (u8 a)=some ⟨i64 (wrF a),none,[],[]⟩:=by rw[b0Y];rfl
end
attribute [go_sem] b9s c1a b9F c1p b7n b8c b8f b8a
def nxH(h:Int):Int:=wU (wU (h*6364136223846793005)+1442695040888963407)
def nxX(h:Int):Int:=anU (shU (nxH h))
abbrev b2s(a:AV)(at' h:Int):AV:= .bx [a,i64 at',u64 h]
section
variable{a:AV}{bs:List Int}{s g:Nat}{ro:Ro}{gn:Nat→Nat}{n h:Int}{k:Nat}
theorem c0v(hn:n<1):a9B Tryz.prog 68 [.ptr s g [] 0,i64 n] ro gn (i64 0) ro gn:=by
 refine b3G (fn:=Tryz.f68) (code:=a0b Tryz.f68) Tryz.func68 rfl (by kernel_rfl) ?_
 intro sl hs
 have s0:sl 0= .ptr s g [] 0:=hs 0
 have s1:sl 1=i64 n:=hs 1
 dsimp only[Tryz.f68,a0b,Option.getD]
 refine Yah ?_
 refine⟨.inr rfl,⟨_,rfl,?_⟩,rfl,rfl⟩
 exact Yfs
theorem a9P(hn:1≤n∧n<4611686018427387904)(ha:isB a bs)(hb: ∀k,k<bs.length→0≤atI bs k∧atI bs k<256)(hl:bs.length<4611686018427387904)(hk:k<bs.length)(hro:ro s g=some (b2s a (k:Int) h)):a9B Tryz.prog 68 [.ptr s g [] 0,i64 n] ro gn (i64 ((nxX h+atI bs k).tmod n)) (upr ro s g (b2s a ((k+1:Nat):Int) (nxH h))) gn:=by
 refine b3G (fn:=Tryz.f68) (code:=a0b Tryz.f68) Tryz.func68 rfl (by kernel_rfl) ?_
 intro sl hs
 have s0:sl 0= .ptr s g [] 0:=hs 0
 have s1:sl 1=i64 n:=hs 1
 have hx:=a6f (shU (wU (wU (h*6364136223846793005)+1442695040888963407)))
 have hbk:=hb k hk
 have hk':(k:Int)<bs.length:=by omega
 dsimp only[Tryz.f68,a0b,Option.getD]
 simp(disch:=first|assumption|omega) only[go_sem,s0,s1,hro]
 refine a0r (by kernel_rfl) ?_
 refine Yep ?_
 refine a0r (by kernel_rfl) ?_
 refine Yep ?_
 refine⟨.inr rfl,⟨_,rfl,?_⟩,?_,rfl⟩
 ·simp only[↓za, ↓reduceIte,a3a,nxX,nxH]
 ·simp only[b5n,nxH,Int.natCast_add,Int.natCast_one]
theorem a9F(hn:1≤n∧n<4611686018427387904)(ha:isB a bs)(hl:bs.length<4611686018427387904)(hk:k=bs.length)(hro:ro s g=some (b2s a (k:Int) h)):a9B Tryz.prog 68 [.ptr s g [] 0,i64 n] ro gn (i64 ((nxX h).tmod n)) (upr ro s g (b2s a (k:Int) (nxH h))) gn:=by
 refine b3G (fn:=Tryz.f68) (code:=a0b Tryz.f68) Tryz.func68 rfl (by kernel_rfl) ?_
 intro sl hs
 have s0:sl 0= .ptr s g [] 0:=hs 0
 have s1:sl 1=i64 n:=hs 1
 have hx:=a6f (shU (wU (wU (h*6364136223846793005)+1442695040888963407)))
 have hk': ¬(k:Int)<bs.length:=by omega
 dsimp only[Tryz.f68,a0b,Option.getD]
 simp(disch:=first|assumption|omega) only[go_sem,s0,s1,hro]
 refine a0r (by kernel_rfl) ?_
 refine Yep ?_
 refine⟨.inr rfl,⟨_,rfl,?_⟩,?_,rfl⟩
 ·simp only[↓za, ↓reduceIte,a3a,nxX,nxH]
 ·simp only[nxH]
theorem c3L(hn:n<4611686018427387904)(ha:isB a bs)(hb: ∀k,k<bs.length→0≤atI bs k∧atI bs k<256)(hl:bs.length<4611686018427387904)(hk:k≤bs.length)(h:Int):
  ∃(v:Int) (k':Nat) (h':Int),k'≤bs.length∧(n<1→v=0)∧(1≤n→0≤v∧v<n)∧ ∀(s g:Nat) (ro:Ro) (gn:Nat→Nat),ro s g=some (b2s a (k:Int) h)→a9B Tryz.prog 68 [.ptr s g [] 0,i64 n] ro gn (i64 v) (upr ro s g (b2s a (k':Int) h')) gn:=by
 rcases(by omega:n<1∨1≤n)with h1|h1
 ·refine⟨0,k,h,hk,fun _=>rfl,fun h2=>by omega,fun s g ro gn hro=>?_⟩
  rw[c2K _ _ _ _ hro]
  exact c0v h1
 ·have hx:0≤nxX h:=(a6f _).1
  rcases Nat.lt_or_ge k bs.length with h2|h2
  ·have:=hb k h2
   exact⟨_,k+1,_,h2,fun h3=>by omega,fun _=>⟨Int.tmod_nonneg _ (by omega),Int.tmod_lt_of_pos _ (by omega)⟩,fun s g ro gn hro=>a9P ⟨h1,hn⟩ ha hb hl h2 hro⟩
  ·exact⟨_,k,_,hk,fun h3=>by omega,fun _=>⟨Int.tmod_nonneg _ hx,Int.tmod_lt_of_pos _ (by omega)⟩,fun s g ro gn hro=>a9F ⟨h1,hn⟩ ha hl (by omega) hro⟩
def b7q(bs:List Int):Nat→Int
 |0=>wU (7219+wU (bs.length:Int))
 |i+1=>wU (wU (wU (b7q bs i*1099511628211)+wU (atI bs i))+11)
theorem c1G(ha:isB a bs)(hl:bs.length≤4096)(ro:Ro)(gn:Nat→Nat):a9B Tryz.prog 43 [a] ro gn (.ptr 8288 (gn 8288+1) [] 0) (upr ro 8288 (gn 8288+1) (b2s a 0 (b7q bs bs.length))) (upg gn 8288 (gn 8288+1)):=by
 refine b3G (fn:=Tryz.f43) (code:=a0b Tryz.f43) Tryz.func43 rfl (by kernel_rfl) ?_
 intro sl hs
 have s0:sl 0=a:=hs 0
 have ha0:=ha
 rcases ha0 with h0|⟨_,o,c,h0⟩
 all_goals
  have ha':=ha
  rw[h0]at ha'
  have s0':=s0
  rw[h0]at s0'
  dsimp only[Tryz.f43,a0b,Option.getD]
  simp(disch:=first|assumption|omega) only[go_sem,setL,s0']
  simp only[←h0]
  refine a0f (fun i st=>st.sl 0=a∧st.sl 3= .ptr 8288 (gn 8288+1) [] 0∧st.sl 4=i64 (i:Int)∧st.ro=upr ro 8288 (gn 8288+1) (b2s a 0 (b7q bs i))∧st.gn=upg gn 8288 (gn 8288+1)) bs.length ?_ ?_ ?_
  ·simp only[↓za, ↓reduceIte,Nat.reduceEqDiff,zb,reduceCtorEq,s0,b7q]
   trivial
  ·rintro i sl ro' gn' hi ⟨s0,sp,si,rfl,rfl⟩
   dsimp only at s0 sp si
   have hi':(i:Int)<(bs.length:Nat):=by omega
   refine Yeq ?_
   refine a0r (by kernel_rfl) ?_
   refine Yeq ?_
   exact⟨a0w (by omega),by rw[b5n];rfl⟩
  ·rintro sl ro' gn' ⟨s0,sp,si,rfl,rfl⟩
   dsimp only at s0 sp si
   have hi': ¬((bs.length:Nat):Int)<(bs.length:Nat):=by omega
   refine Yeq ?_
   refine⟨.inr rfl,⟨_,rfl,?_⟩,rfl,rfl⟩
   simp only[↓za, ↓reduceIte,a3a]
def c4t(bs:List Int)(sd:Int):Nat→Int
 |0=>wU (wU (sd*6007)+wU (bs.length:Int))
 |i+1=>wU (wU (wU (c4t bs sd i*1099511628211)+wU (atI bs i))+5)
end
end Go.Proofs.YtbakhfiibjkifaaGreat
