/- Texts joined: Ea4 Eaz Ea5. -/
import Derived.Test.YtbakhfiibjkifaaGreatMh
import Derived.Test.YtbakhfiibjkifaaGreatOa
set_option linter.all false
/- Enumeration of rings: frames of calls in the caller's memory. -/
namespace Go.Proofs.YtbakhfiibjkifaaGreat
open Go.RowKit
set_option maxRecDepth 1000000
theorem a3p{ro:Ro}{s g:Nat}{p:List Nat}{off n h:Nat}{a1:Nat}{a2:Bool}{a3:List Value}{e:Nat}{a5:List (Nat×Nat)}{a6:Option IntKind}{a7 a8:Bool}{a9 a10:Option (Nat×Nat)}:a3U (some ⟨a1,a2,a3,some e,a5,a6,a7,a8,a9,a10⟩) ro (.ref s g p off n) none (some (i64 (h:Int)))=if h≤n∧(ro.cells s g p).isSome=true then some ⟨.ref s g p off h,none,[],[]⟩else none:=by
 simp only[a3U,a3k,Option.isSome_some,if_true,Int.le_refl,Int.natCast_nonneg,true_and,Int.ofNat_le,Int.toNat_zero,Nat.add_zero,Int.sub_zero,Int.toNat_natCast]
theorem a4P{ro:Ro}{s g:Nat}{p:List Nat}{off n l:Nat}{a1:Nat}{a2:Bool}{a3:List Value}{e:Nat}{a5:List (Nat×Nat)}{a6:Option IntKind}{a7 a8:Bool}{a9 a10:Option (Nat×Nat)}:a3U (some ⟨a1,a2,a3,some e,a5,a6,a7,a8,a9,a10⟩) ro (.ref s g p off n) (some (i64 (l:Int))) none=if l≤n∧(ro.cells s g p).isSome=true then some ⟨.ref s g p (off+l) (n-l),none,[],[]⟩else none:=by
 rw[zfx]
 simp only[Int.natCast_nonneg,true_and,Int.ofNat_le,Int.toNat_natCast]
 by_cases h:l≤n
 ·have:((n:Int)-l).toNat=n-l:=by omega
  rw[this]
 ·simp only[h,false_and,if_false]
theorem a1U{f:Nat}{fn:Func}{code:Code}{args:List AV}{ro:Ro}{gn:Nat→Nat}{Po:AV→Ro→(Nat→Nat)→Prop}(hf:Tryz.prog.funcs[f]?=some fn)(hb:fn.body=some code)
  (hok : (!(fn.name == "runtime.NumGoroutine") && a1z fn.ntmps code && decide (args.length ≤ fn.ntmps)) = true)
  (h: ∀sl:Nat→AV,(∀k,sl k=args.getD k (.sc undef))→WK XX code [] (c1A ti0 fn.results.toList Po) ⟨sl,ro,gn⟩):InS Tryz.prog f args ro gn Po:=
 b9u _ (a6F _) a6G hf hb hok h
theorem InS.mono{P:Program}{f:Nat}{args:List AV}{ro:Ro}{gn:Nat→Nat}{Po Po':AV→Ro→(Nat→Nat)→Prop}(h:InS P f args ro gn Po)(hp: ∀a b c,Po a b c→Po' a b c):InS P f args ro gn Po':=by
 refine⟨h.1,fun w0 A0 F0 c Φ vs h1 h2 h3 h4=>(h.2 w0 A0 F0 c Φ vs h1 h2 h3 h4).mono ?_⟩
 rintro en w' ⟨v,c',Φ',r',k1,k2,k3,k4,k5,k6⟩
 exact⟨v,c',Φ',r',k1,k2,hp _ _ _ k3,k4,k5,k6⟩
theorem a0Y{ti:Nat→Option TI}{k:Nat}{Po:AV→Ro→(Nat→Nat)→Prop}{sl:Nat→AV}{ro:Ro}{gn:Nat→Nat}(v:AV)(h:sl k=v)(hp:Po v ro gn):c1A ti [.tmp k] Po .ret ⟨sl,ro,gn⟩:=⟨.inr rfl,[sl k],rfl,by show Po (sl k) ro gn;rw[h];exact hp⟩
abbrev e0:FP:=⟨some [],[]⟩
theorem a2u{ro:Ro}{s g s':Nat}{v:AV}(h:s'≠s):upr ro s g v s'=ro s':=by
 funext y;rw[zdb,if_neg (fun e=>h e.1)]
def aftB(ops:Array Oper)(i:Nat):Bool:=(List.range ops.size).all fun k=>!(decide (i<k))||a7R ops ops.size i k
structure Frx(W:List Nat)(C:Nat→Nat→Prop)(ro:Ro)(gn:Nat→Nat)(ro':Ro)(gn':Nat→Nat):Prop where
 off: ∀s,s∉W→ro' s=ro s∧gn' s=gn s
 up: ∀x,gn x≤gn' x
 kp: ∀x y,y≤gn x→ ¬C x y→ro' x y=ro x y
section
variable{W:List Nat}{C:Nat→Nat→Prop}{ro ro' ro'':Ro}{gn gn' gn'':Nat→Nat}
theorem Frx.refl(W:List Nat)(C:Nat→Nat→Prop)(ro:Ro)(gn:Nat→Nat):Frx W C ro gn ro gn:=⟨fun _ _=>⟨rfl,rfl⟩,fun _=>Nat.le_refl _,fun _ _ _ _=>rfl⟩
theorem Frx.al(h:Frx W C ro gn ro' gn')(s g:Nat)(v:AV)(hW:s∈W)(hu:g=gn' s+1):Frx W C ro gn (upr ro' s g v) (upg gn' s g):=by
 subst hu
 refine⟨fun z hz=>?_,fun x=>?_,fun x y h1 h2=>?_⟩
 ·have hne:z≠s:=fun e=>hz (e▸hW)
  exact⟨(a2u hne).trans (h.off z hz).1,by rw[zda,if_neg hne];exact(h.off z hz).2⟩
 ·have:=h.up x
  rw[zda]
  split
  ·rename_i e;subst e;omega
  ·exact this
 ·rw[zdb,if_neg]
  ·exact h.kp x y h1 h2
  ·rintro⟨rfl,rfl⟩
   have:=h.up x
   omega
theorem Frx.wr(h:Frx W C ro gn ro' gn')(s g:Nat)(v:AV)(hW:s∈W)(hs:gn s<g∨C s g):Frx W C ro gn (upr ro' s g v) gn':=
 ⟨fun z hz=>⟨(a2u (fun e=>hz (by rw[e];exact hW))).trans (h.off z hz).1,(h.off z hz).2⟩,h.up,fun x y h1 h2=>by
  rw[zdb,if_neg]
  ·exact h.kp x y h1 h2
  ·rintro⟨rfl,rfl⟩
   rcases hs with hs|hs
   ·omega
   ·exact h2 hs⟩
theorem Frx.mono{W':List Nat}(h:Frx W C ro gn ro' gn')(hw: ∀s,s∈W→s∈W'):Frx W' C ro gn ro' gn':=⟨fun s hs=>h.off s fun e=>hs (hw s e),h.up,h.kp⟩
theorem Frx.monoB{W':List Nat}(h:Frx W C ro gn ro' gn')(hw:W.all (fun s=>W'.contains s)=true):Frx W' C ro gn ro' gn':=h.mono fun s hs=>List.contains_iff_mem.1 (List.all_eq_true.1 hw s hs)
theorem Frx.trans{C':Nat→Nat→Prop}(h:Frx W C ro gn ro' gn')(h':Frx W C' ro' gn' ro'' gn'')(ht: ∀x y,C' x y→gn x<y∨C x y):Frx W C ro gn ro'' gn'':=
 ⟨fun s hs=>⟨(h'.off s hs).1.trans (h.off s hs).1,(h'.off s hs).2.trans (h.off s hs).2⟩,fun x=>Nat.le_trans (h.up x) (h'.up x),fun x y h1 h2=>(h'.kp x y (Nat.le_trans h1 (h.up x)) (fun hc=>by
  rcases ht x y hc with ht|ht
  ·omega
  ·exact h2 ht)).trans (h.kp x y h1 h2)⟩
end
theorem KFt{p:Prop}(h:p:=by(repeat' first|assumption|exact Frx.refl _ _ _ _|refine Frx.al ?_ _ _ _ (by decide) rfl|refine Frx.wr ?_ _ _ _ (by decide) (by first|(left;omega)|(right;exact⟨rfl,rfl⟩)|(right;exact .inl ⟨rfl,rfl⟩)|(right;exact .inr ⟨rfl,rfl⟩)|(right;exact .inr (.inl ⟨rfl,rfl⟩))|(right;exact .inr (.inr ⟨rfl,rfl⟩))))):p:=h
theorem KEt{p:Prop}(h:p:=by(intro x y hy h1 h2;simp only[zdb];repeat' (first|rfl|rw[if_neg (by rintro⟨rfl,rfl⟩;omega)]))):p:=h
abbrev zl(l:List Nat):List Int:=l.map fun(x:Nat)=>(x:Int)
def vis(n:Nat):Nat→List Nat→List (List Nat)
 |0,x=>[x]
 |d+1,x=>(List.range n).flatMap fun i=>if i∈x then []else vis n d (x++ [i])
def visK(n d:Nat)(x:List Nat)(k:Nat):List (List Nat):=(List.range k).flatMap fun i=>if i∈x then []else vis n d (x++ [i])
abbrev C3:=Nat→Nat→Nat→Int
def nxB(F:C3)(n:Nat)(B:C3)(l:List Nat):C3:=if cmp3 (a0L (imgF (zl l) F) n) (a0L B n)<0 then imgF (zl l) F else B
def bstB(F:C3)(n:Nat)(Ls:List (List Nat))(B:C3):C3:=Ls.foldl (nxB F n) B
def leastF(F:C3)(n:Nat):C3:=bstB F n (vis n (n-1) [0]) F
inductive RdC (ro:Ro) (gn:Nat→Nat) (F:C3) (n:Nat):AV→Prop
 |imm (a:AV):(∃cs,a= .imm cs)→a0F a (a0L F n)→RdC ro gn F n a
 |ref (s g:Nat):s≠8192∧s≠8208→g≤gn s→ro s g=some (a0t F n)→RdC ro gn F n (.ref s g [] 0 n)
section
variable{W:List Nat}{C:Nat→Nat→Prop}{ro ro':Ro}{gn gn':Nat→Nat}{F B:C3}{n:Nat}{a:AV}
def rdV(F:C3)(n:Nat):AV→AV
 | .ref .. =>b2Q F n
 |a=>a
theorem b1W{k m:Nat}{ro:Ro}{a a':AV}(h:exq k ro a a')(hkm:k≤m):exq m ro a a':=⟨fun j hj=>h.1 j (by omega),h.2⟩
def W42:List Nat:=[4128,4144,8208]
def W59:List Nat:=[4128,4144,8208,8192,28704]
abbrev CxE(gb gc gp x y:Nat):Prop:=(x=8208∧y=gb)∨(x=8208∧y=gc)∨(x=8192∧y=gp)
def PsE(n k gb gc gp0 l0:Nat)(B:C3)(x:List Nat)(ro':Ro)(gn':Nat→Nat):Prop:=
 ∃gp ys bv,ro' 8208 gc=some (.bx [.ref 8192 gp [] 0 k])∧ro' 8192 gp=some (a0H (zl (x++ys)))∧(gp≤gn' 8192∧(gp=gp0∨l0<gp))∧ro' 8208 gb=some (.bx [bv])∧RdC ro' gn' B n bv
def W41:List Nat:=[4096,4112,12288,4128,4144,8208,8192,28704]
def W24:List Nat:=W41
theorem a3W{k:Nat}{Po:AV→Ro→(Nat→Nat)→Prop}{sl:Nat→AV}{ro:Ro}{gn:Nat→Nat}{s g:Nat}{v:AV}(h1:sl k= .ptr s g [] 0)(h2:ro s g=some (.bx [v]))(hl:lift s g [0] v=v)(hp:Po (.agg [v]) ro gn):c1A ti0 [.cell k 26] Po .ret ⟨sl,ro,gn⟩:=by
 refine⟨.inr rfl,[.agg [v]],?_,hp⟩
 simp only[a1H,opC,St.ev,h1,a1l,Ro.cells,h2,blk,List.length_singleton,List.drop_zero,List.take_succ_cons,List.take_zero,zfi,List.nil_append,hl]
 simp
end
end Go.Proofs.YtbakhfiibjkifaaGreat
